/- What number keeps: states, map, table. -/
import Derived.Test.YtbepohpppailnaaA6
set_option linter.unusedSimpArgs false
set_option linter.unusedVariables false
namespace Go.Proofs.Ytbepohpppailnaa
open Go.RowKit

theorem OwnRx.keepBut {w w' : World} {A : Nat → Prop} {base : Nat} {e : TypeId} {v : Value} {l : List Pl} (h : OwnRx w A base e v l) (hs : ∀ b, b < w.heap.size → ¬ A b → w'.heap[b]? = w.heap[b]?) (hA : ∀ b, v.ownBlock = some b → ¬ A b) : OwnRx w' A base e v l := by
  refine ⟨?_, fun p hp => (h.2 p hp).keep fun b hb hn => hs b hb (fun e => hn (.inl e))⟩
  obtain ⟨h1, h2⟩ := h.1
  refine ⟨h1, h2.imp id ?_⟩
  rintro ⟨g, cap, cur, rfl, h3, h4, h5⟩
  exact ⟨g, cap, cur, rfl, h3, (hs g (Array.getElem?_eq_some_iff.1 h4).1 (hA g rfl)).trans h4, h5⟩
theorem OwnRx.avoidAll {w : World} {A A' : Nat → Prop} {base : Nat} {e : TypeId} {v : Value} {l : List Pl} (h : OwnRx w A base e v l) (hs : ∀ b, b < w.heap.size → A' b → A b ∨ v.ownBlock = some b) : OwnRx w A' base e v l :=
  ⟨h.1, fun p hp => (h.2 p hp).avoid fun b hb hh => by
    rcases hh with hh | hh
    · exact hs b hb hh
    · exact .inr hh⟩

/-- one element of an own row of expressions -/
theorem OwnRx.get {w : World} {A : Nat → Prop} {base : Nat} {e : TypeId} {g : Option Addr} {n cap : Nat} {l : List Pl} (h : OwnRx w A base e (.slice g n cap) l) {i : Nat} {p : Pl} (hi : l[i]? = some p) :
    ∃ b o, g = some ⟨b, o, none⟩ ∧ b < w.heap.size ∧ rxAt w b (o + i * 4) p.r p.a p.c ∧ RxRep w (fun _ => False) p.r p.a p.c := by
  have hil := (List.getElem?_eq_some_iff.1 hi).1
  obtain ⟨b, o, x, hga, _, hbb, hx, hat, hxr⟩ := ((h.avoidAll (A' := fun _ => False) (fun _ _ h => h.elim)).rep (fun _ _ h => h)).at (i := i) (by simpa using hil)
  rw [List.getElem?_map, hi] at hx
  simp only [Option.map_some, Option.some.injEq] at hx
  subst hx
  rw [hi] at hat hxr
  exact ⟨b, o, hga, hbb, hat, hxr⟩
/-- states, and what else number holds -/
structure NumS (w0 wr : World) (base mb cl : Nat) (xs : Nat → Prop) (sv tv : Value) (pl : List Pl) (T : List (Nat × List Nat)) : Prop where
  states : OwnRx wr (fun b => b = mb ∨ tv.ownBlock = some b ∨ xs b) base 54 sv pl
  good : ∀ p ∈ pl, rvalid p.r = 0 ∧ Bytey p.r
  nd : (pl.map Pl.r).Nodup
  len : 1 ≤ pl.length ∧ pl.length ≤ 256
  table : OwnC wr base 22 tv (T.map fun q => .slice (some ⟨q.1, 0, none⟩) cl cl)
  rows : ∀ q ∈ T, (base ≤ q.1 ∧ q.1 ≠ mb ∧ ¬ xs q.1) ∧ wr.heap[q.1]? = some (.cells (ints (nats q.2)).toArray 3 (0, 0)) ∧ q.2.length = cl
  below : Below base w0 wr
  hbase : base ≤ wr.heap.size

theorem NumS.keep {w0 wr w' : World} {base mb cl : Nat} {xs : Nat → Prop} {sv tv : Value} {pl : List Pl} {T : List (Nat × List Nat)} (h : NumS w0 wr base mb cl xs sv tv pl T) (X : Nat → Prop) (hX : ∀ b, X b → b = mb ∨ xs b) (hsv : ∀ b, sv.ownBlock = some b → ¬ X b) (htv : ∀ b, tv.ownBlock = some b → ¬ X b)
    (hb : Below base w0 w') (hz : wr.heap.size ≤ w'.heap.size) (hk : ∀ b, b < wr.heap.size → ¬ X b → w'.heap[b]? = wr.heap[b]?) : NumS w0 w' base mb cl xs sv tv pl T := by
  refine ⟨⟨?_, fun p hp => (h.states.2 p hp).keep fun b hb hn => hk b hb (fun e => hn (.inl ?_))⟩, h.good, h.nd, h.len, h.table.keep fun b hb => hk b (h.table.lt hb).2 (htv b hb), fun q hq => ?_, hb, Nat.le_trans h.hbase hz⟩
  · obtain ⟨h1, h2⟩ := h.states.1
    refine ⟨h1, h2.imp id ?_⟩
    rintro ⟨g, cap, cur, rfl, h3, h4, h5⟩
    exact ⟨g, cap, cur, rfl, h3, (hk g (Array.getElem?_eq_some_iff.1 h4).1 (hsv g rfl)).trans h4, h5⟩
  · rcases hX b e with h | h
    · exact .inl h
    · exact .inr (.inr h)
  · obtain ⟨⟨h1, h2, h3⟩, h4, h5⟩ := h.rows q hq
    exact ⟨⟨h1, h2, h3⟩, (hk q.1 (Array.getElem?_eq_some_iff.1 h4).1 (fun e => by rcases hX _ e with e | e; exact h2 e; exact h3 e)).trans h4, h5⟩
theorem NumS.ext {w0 wr w' : World} {base mb cl : Nat} {xs : Nat → Prop} {sv tv : Value} {pl : List Pl} {T : List (Nat × List Nat)} (h : NumS w0 wr base mb cl xs sv tv pl T) (hb : Below wr.heap.size wr w') : NumS w0 w' base mb cl xs sv tv pl T :=
  h.keep (fun _ => False) (fun _ h => h.elim) (fun _ _ h => h) (fun _ _ h => h) (h.below.trans (hb.mono h.hbase)) hb.size fun b hb' _ => hb.block b hb'
/-- a row's block that is new -/
theorem NumS.fresh {w0 wr : World} {base mb cl : Nat} {xs : Nat → Prop} {sv tv : Value} {pl : List Pl} {T : List (Nat × List Nat)} (h : NumS w0 wr base mb cl xs sv tv pl T) (hx : ∀ b, xs b → wr.heap.size ≤ b) (xs' : Nat → Prop) (hx' : ∀ b, xs' b → wr.heap.size ≤ b) {w' : World} (hb : Below wr.heap.size wr w') : NumS w0 w' base mb cl xs' sv tv pl T := by
  refine NumS.ext (wr := wr) ⟨h.states.avoidAll fun b hb hh => ?_, h.good, h.nd, h.len, h.table, fun q hq => ?_, h.below, h.hbase⟩ hb
  · rcases hh with hh | hh | hh
    · exact .inl (.inl hh)
    · exact .inl (.inr (.inl hh))
    · have := hx' b hh; omega
  · obtain ⟨⟨h1, h2, h3⟩, h4, h5⟩ := h.rows q hq
    exact ⟨⟨h1, h2, fun e => by have := hx' _ e; have := (Array.getElem?_eq_some_iff.1 h4).1; omega⟩, h4, h5⟩
/-- one state more -/
theorem NumS.more {w0 wr w' : World} {base mb cl : Nat} {xs : Nat → Prop} {sv tv sv' : Value} {pl : List Pl} {T : List (Nat × List Nat)} (h : NumS w0 wr base mb cl xs sv tv pl T) (p : Pl) (hgood : rvalid p.r = 0 ∧ Bytey p.r) (hnew : p.r ∉ pl.map Pl.r) (hlen : pl.length < 256)
    (hown : OwnRx w' (fun b => b = mb ∨ tv.ownBlock = some b ∨ xs b) base 54 sv' (pl ++ [p])) (hb : Below base wr w') (hk : ∀ b, b < wr.heap.size → sv.ownBlock ≠ some b → w'.heap[b]? = wr.heap[b]?) : NumS w0 w' base mb cl xs sv' tv (pl ++ [p]) T := by
  refine ⟨hown, fun q hq => ?_, ?_, by simp; omega, h.table.keep fun b hb => hk b (h.table.lt hb).2 (own_ne2 h.states.1 h.table (by decide) hb), fun q hq => ?_, h.below.trans hb, Nat.le_trans h.hbase hb.size⟩
  · rcases List.mem_append.1 hq with hq | hq
    · exact h.good q hq
    · rw [List.mem_singleton] at hq; subst hq; exact hgood
  · rw [List.map_append, List.nodup_append]
    refine ⟨h.nd, by simp, fun a ha b hb => ?_⟩
    simp at hb
    subst hb
    rintro rfl
    exact hnew ha
  · obtain ⟨h1, h4, h5⟩ := h.rows q hq
    exact ⟨h1, (hk q.1 (Array.getElem?_eq_some_iff.1 h4).1 (own_ne h.states.1 h4 (fun cs fr e => by injection e with _ e1; exact absurd e1 (by decide)))).trans h4, h5⟩
/-- a row is done -/
theorem NumS.done {w0 wr w' : World} {base mb cl rb : Nat} {sv tv tv' : Value} {pl : List Pl} {T : List (Nat × List Nat)} (h : NumS w0 wr base mb cl (fun b => b = rb) sv tv pl T) (r : List Nat) (hrb : base ≤ rb ∧ rb ≠ mb) (hrow : wr.heap[rb]? = some (.cells (ints (nats r)).toArray 3 (0, 0))) (hr : r.length = cl)
    (hg : Grew wr w' base tv tv' 22 (T.map (fun q => .slice (some ⟨q.1, 0, none⟩) cl cl) ++ [.slice (some ⟨rb, 0, none⟩) cl cl])) : NumS w0 w' base mb cl (fun _ => False) sv tv' pl (T ++ [(rb, r)]) := by
  have hsv : ∀ b, sv.ownBlock = some b → tv.ownBlock ≠ some b := fun b hb => own_ne2 h.table h.states.1 (by decide) hb
  refine ⟨⟨?_, fun p hp => ?_⟩, h.good, h.nd, h.len, by simpa using hg.own, fun q hq => ?_, h.below.trans hg.below, Nat.le_trans h.hbase hg.below.size⟩
  · obtain ⟨h1, h2⟩ := h.states.1
    refine ⟨h1, h2.imp id ?_⟩
    rintro ⟨g, cap, cur, rfl, h3, h4, h5⟩
    exact ⟨g, cap, cur, rfl, h3, (hg.rest g (Array.getElem?_eq_some_iff.1 h4).1 (hsv g rfl)).trans h4, h5⟩
  · have h1 := (h.states.2 p hp).keep (w' := w') fun b hb hn => hg.rest b hb (fun e => hn (.inl (.inr (.inl e))))
    have h0 := (h.states.2 p hp).old
    have h2 := h0.keep (w' := w') fun b hb hn => hg.rest b hb (fun e => hn (.inl (.inl (.inr (.inl e)))))
    refine h2.avoid fun b _ hh => ?_
    rcases hh with (hh | hh | hh) | hh
    · exact .inl (.inl (.inl hh))
    · rcases hg.place with e | ⟨g, e, hge⟩
      · rw [e] at hh; exact .inl (.inl (.inr (.inl hh)))
      · rw [e] at hh; cases hh; exact .inr hge
    · exact hh.elim
    · exact .inl (.inr hh)
  · rcases List.mem_append.1 hq with hq | hq
    · obtain ⟨⟨h1, h2, h3⟩, h4, h5⟩ := h.rows q hq
      exact ⟨⟨h1, h2, fun e => e⟩, (hg.rest q.1 (Array.getElem?_eq_some_iff.1 h4).1 (own_ne h.table h4 (fun cs fr e => by injection e with _ e1; exact absurd e1 (by decide)))).trans h4, h5⟩
    · rw [List.mem_singleton] at hq; subst hq
      exact ⟨⟨hrb.1, hrb.2, fun e => e⟩, (hg.rest rb (Array.getElem?_eq_some_iff.1 hrow).1 (own_ne h.table hrow (fun cs fr e => by injection e with _ e1; exact absurd e1 (by decide)))).trans hrow, hr⟩
theorem NumS.rowsRep {w0 wr : World} {base mb cl : Nat} {xs : Nat → Prop} {sv : Value} {tg : Option Addr} {n tc : Nat} {pl : List Pl} {T : List (Nat × List Nat)} (h : NumS w0 wr base mb cl xs sv (.slice tg n tc) pl T) (hcl : cl ≤ 1000000000) :
    RowsRep wr (fun b => b < base) ((T.map Prod.snd).map fun r => ints (nats r)) tg tc := by
  refine ⟨fun i => (T[i]?).elim none fun q => some ⟨q.1, 0, none⟩, fun _ => cl, ?_, ?_⟩
  · have h1 := h.table.rep (A := fun b => b < base) (fun b hb hh => by omega)
    have e : (((T.map Prod.snd).map fun r => ints (nats r)).mapIdx fun i r => Value.slice ((T[i]?).elim none fun q => some ⟨q.1, 0, none⟩) r.length cl) = T.map fun q => .slice (some ⟨q.1, 0, none⟩) cl cl := by
      apply List.ext_getElem?
      intro i
      simp only [List.getElem?_mapIdx, List.getElem?_map]
      cases hi : T[i]? with
      | none => rfl
      | some q =>
        have := (h.rows q (List.mem_of_getElem? hi)).2.2
        simp [nats, this]
    rw [e]
    exact h1
  · intro i r hi
    simp only [List.getElem?_map] at hi
    cases hq : T[i]? with
    | none => rw [hq] at hi; cases hi
    | some q =>
      rw [hq] at hi
      simp only [Option.map_some, Option.some.injEq] at hi
      subst hi
      obtain ⟨⟨h1, _⟩, h4, h5⟩ := h.rows q (List.mem_of_getElem? hq)
      have := Blk.rep (cs := ints (nats q.2)) h4 (fun b => b < base) (by omega) (by simp [nats]; omega)
      simpa [nats, h5, hq] using this

theorem rowcells_get (r : List Nat) (k m : Nat) (h : r.length = k) : (ints (nats r) ++ List.replicate (m + 1) (Value.int .i64 0))[k]? = some (.int .i64 0) := by
  subst h
  rw [List.getElem?_append_right (by simp [nats])]
  simp [nats]
theorem rowcells_set (r : List Nat) (k m : Nat) (h : r.length = k) (j : Nat) : (ints (nats r) ++ List.replicate (m + 1) (Value.int .i64 0)).set k (.int .i64 j) = ints (nats (r ++ [j])) ++ List.replicate m (.int .i64 0) := by
  subst h
  rw [List.set_append_right _ _ (by simp [nats])]
  simp [nats, List.replicate_succ]
theorem NumS.setRow {w0 wr : World} {base mb cl rb : Nat} {sv tv : Value} {pl : List Pl} {T : List (Nat × List Nat)} (h : NumS w0 wr base mb cl (fun b => b = rb) sv tv pl T) {cs : List Value} (hB : Blk wr rb 3 cs) (hrb : base ≤ rb) (i : Nat) (u : Value) :
    NumS w0 (wr.setCell ⟨rb, i, none⟩ u) base mb cl (fun b => b = rb) sv tv pl T := by
  refine h.keep (fun b => b = rb) (fun b h => .inr h) (fun b hb e => ?_) (fun b hb e => ?_) (h.below.setCell hrb _) (by simp [World.setCell]) (fun b hb hn => Below.heap_setCell _ _ _ _ hn)
  · subst e; exact own_ne h.states.1 hB (fun cs fr e => by injection e with _ e1; exact absurd e1 (by decide)) hb
  · subst e; exact own_ne h.table hB (fun cs fr e => by injection e with _ e1; exact absurd e1 (by decide)) hb
end Go.Proofs.Ytbepohpppailnaa
