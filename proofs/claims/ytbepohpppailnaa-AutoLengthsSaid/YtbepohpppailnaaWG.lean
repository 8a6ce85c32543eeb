/- Walks: forms. -/
import Derived.Test.YtbepohpppailnaaWF
set_option linter.unusedSimpArgs false
set_option linter.unusedVariables false
namespace Go.Proofs.Ytbepohpppailnaa
open Go.RowKit Go.ChangeMaps

/-- what the operations of forms' last region put where -/
def tmpOf : Nat → Option Nat
  | 0 => some 11 | 1 => some 12 | 3 => some 13 | 5 => some 14 | 7 => some 15 | 8 => some 16 | 9 => some 17 | 10 => some 18 | 12 => some 19 | 13 => some 20 | 14 => some 21
  | 15 => some 22 | 17 => some 23 | 18 => some 24 | 19 => some 25 | 20 => some 26 | 23 => some 27 | 25 => some 28 | 26 => some 0 | _ => none
def vItself : Value := .func (.func 49) #[] #[]
def vJoin : Value := .func (.func 50) #[] #[]
def pAt (b : Nat) : Value := .pointer (some ⟨b, 0, none⟩)
def predOf (n : Nat) (i : Nat) (w : World) (mb : Nat) (v : Value) : Prop :=
  match i with
  | 1 => v = vItself | 3 => v = vItself | 5 => v = vItself
  | 7 => v = vJoin | 12 => v = vJoin | 17 => v = vJoin
  | 8 => v = rxv emptyR none 0
  | 9 => v = rxv noneR none 0 | 13 => v = rxv noneR none 0 | 19 => v = rxv noneR none 0
  | 14 => v = rxv everything (some ⟨n + 1 + 1, 0, none⟩) 1 | 18 => v = rxv everything (some ⟨n + 1 + 1, 0, none⟩) 1
  | 10 => FormE w mb 3 v | 15 => FormE w mb 4 v | 20 => FormE w mb 5 v
  | 23 => v = .func (.func 60) #[] #[pAt (n + 1), pAt (n + 1 + 1 + 1)]
  | 0 => v = .map (some mb) | 25 => v = .map (some mb) | 26 => v = .map (some mb)
  | _ => True
/-- the operation that inserts a key -/
def opOf : Nat → Nat
  | 0 => 2 | 1 => 4 | 2 => 6 | 3 => 11 | 4 => 16 | 5 => 21 | 6 => 22 | _ => 24
theorem tmpOf_op (k : Nat) : tmpOf (opOf k) = none := by
  unfold opOf
  split <;> rfl
theorem tmpOf_lt {i d : Nat} (h : tmpOf i = some d) : d < 29 ∧ (d = 0 ∨ 11 ≤ d) ∧ i < 27 := by
  unfold tmpOf at h
  split at h <;> first | (cases h; decide) | cases h
theorem tmpOf_inj {i j d : Nat} (h : tmpOf i = some d) (h' : tmpOf j = some d) : i = j := by
  have h1 := (tmpOf_lt h).2.2
  have h2 := (tmpOf_lt h').2.2
  have key : ∀ i, i < 27 → ∀ j, j < 27 → tmpOf i ≠ none → tmpOf i = tmpOf j → i = j := by decide
  exact key i h1 j h2 (by rw [h]; simp) (h.trans h'.symm)
theorem opOf_inj : ∀ k, k ≤ 7 → ∀ j, j ≤ 7 → opOf k = opOf j → k = j := by
  have key : ∀ k, k < 8 → ∀ j, j < 8 → opOf k = opOf j → k = j := by decide
  intro k hk j hj
  exact key k (by omega) j (by omega)
theorem opOf_ne (k : Nat) : opOf k ≠ 0 ∧ opOf k ≠ 25 ∧ opOf k ≠ 26 := by
  unfold opOf
  split <;> decide
theorem predOf_later {n i : Nat} {w w' : World} {mb : Nat} {v : Value} (h : predOf n i w mb v) (ha : ∀ b, b < w.heap.size → b ≠ mb → w'.heap[b]? = w.heap[b]?) (hs : w.heap.size ≤ w'.heap.size) : predOf n i w' mb v := by
  unfold predOf at *
  split at h <;> first | exact h | exact h.later ha hs
theorem predOf_made {n i : Nat} {w w' : World} {mb : Nat} {v : Value} (h : predOf n i w mb v) (h0 : i ≠ 0 ∧ i ≠ 25 ∧ i ≠ 26) (ha : ∀ b, b < w.heap.size → w'.heap[b]? = w.heap[b]?) (hs : w.heap.size ≤ w'.heap.size) : predOf n i w' w.heap.size v := by
  unfold predOf at *
  split at h <;> first | exact h | exact h.made ha hs | (exfalso; omega)

structure FI (n : Nat) (W0 : World) (L : Nat → Bool) (mb : Nat) (a : Act) (w : World) : Prop where
  sz : a.tmps.size = 29
  df : a.defers = []
  e1 : a.eval (.tmp 1) = pAt n
  e2 : a.eval (.tmp 2) = pAt (n + 1)
  e3 : a.eval (.tmp 3) = pAt (n + 1 + 1 + 1)
  e4 : a.eval (.tmp 4) = vItself
  e5 : a.eval (.tmp 5) = vJoin
  bl : Below W0.heap.size W0 w
  tv : ∀ i d, tmpOf i = some d → L i = true → predOf n i w mb (a.eval (.tmp d))
  d25 : L 25 = true → L 0 = true
  d26 : L 26 = true → L 0 = true
  i0 : L 0 = false → ∀ k : Nat, k ≤ 7 → L (opOf k) = false
  mp : L 0 = true → W0.heap.size ≤ mb ∧ mb < w.heap.size ∧ ∃ es clock, w.heap[mb]? = some (.map es clock) ∧ ∀ k : Nat, k ≤ 7 →
    (L (opOf k) = true → ∃ i v, Instr.findNow (.int .i64) (.int .i64 (k : Int)) es.toList 0 = some (some (i, v)) ∧ FormE w mb (k : Int) v) ∧ (L (opOf k) = false → Instr.findNow (.int .i64) (.int .i64 (k : Int)) es.toList 0 = some none)

theorem eval_put_same {a : Act} {d : Nat} {v : Value} (h : d < a.tmps.size) : (a.put (some d) v).eval (.tmp d) = v := by
  simp [Act.eval, Act.put, h]
theorem eval_put_ne {a : Act} {d t : Nat} {v : Value} (h : d ≠ t) : (a.put (some d) v).eval (.tmp t) = a.eval (.tmp t) :=
  Act.eval_put fun d' hd' => by cases hd'; intro e; cases e; exact h rfl

theorem FI.put {n : Nat} {W0 : World} {L : Nat → Bool} {mb : Nat} {a : Act} {w : World} (h : FI n W0 L mb a w) {i d : Nat} (hd : tmpOf i = some d) (hi0 : i ≠ 0) (h25 : i = 25 ∨ i = 26 → L 0 = true)
    {w' : World} (hE : Below w.heap.size w w') {v : Value} (hv : predOf n i w' mb v) : FI n W0 (updL L i) mb (a.put (some d) v) w' := by
  obtain ⟨hd29, hd0, _⟩ := tmpOf_lt hd
  have hs := h.sz
  have hop : ∀ k, opOf k ≠ i := fun k e => by have := tmpOf_op k; rw [e, hd] at this; cases this
  have hL0 : updL L i 0 = L 0 := by unfold updL; rw [if_neg (Ne.symm hi0)]
  have hLk : ∀ k, updL L i (opOf k) = L (opOf k) := fun k => by unfold updL; rw [if_neg (hop k)]
  refine ⟨by simp [Act.put, hs], h.df, ?_, ?_, ?_, ?_, ?_, h.bl.trans (hE.mono h.bl.size), ?_, ?_, ?_, ?_, ?_⟩
  · rw [eval_put_ne (by omega)]; exact h.e1
  · rw [eval_put_ne (by omega)]; exact h.e2
  · rw [eval_put_ne (by omega)]; exact h.e3
  · rw [eval_put_ne (by omega)]; exact h.e4
  · rw [eval_put_ne (by omega)]; exact h.e5
  · intro j t ht hj
    by_cases hij : j = i
    · subst hij
      rw [hd] at ht
      cases ht
      rw [eval_put_same (by omega)]
      exact hv
    · have hne : d ≠ t := fun e => hij (tmpOf_inj (e ▸ ht) hd)
      rw [eval_put_ne hne]
      refine predOf_later (h.tv j t ht ?_) (fun b hb _ => hE.block b hb) hE.size
      simpa [updL, hij] using hj
  · intro hq
    rw [hL0]
    by_cases he : i = 25
    · exact h25 (.inl he)
    · exact h.d25 (by simpa [updL, Ne.symm he] using hq)
  · intro hq
    rw [hL0]
    by_cases he : i = 26
    · exact h25 (.inr he)
    · exact h.d26 (by simpa [updL, Ne.symm he] using hq)
  · intro hq k hk
    rw [hL0] at hq
    rw [hLk]
    exact h.i0 hq k hk
  · intro hq
    rw [hL0] at hq
    obtain ⟨h1, h2, es, clock, h3, h4⟩ := h.mp hq
    refine ⟨h1, Nat.lt_of_lt_of_le h2 hE.size, es, clock, (hE.block mb h2).trans h3, fun k hk => ?_⟩
    rw [hLk]
    obtain ⟨h5, h6⟩ := h4 k hk
    refine ⟨fun hl => ?_, h6⟩
    obtain ⟨i', v', h7, h8⟩ := h5 hl
    exact ⟨i', v', h7, h8.later (fun b hb _ => hE.block b hb) hE.size⟩

theorem FI.made {n : Nat} {W0 : World} {L : Nat → Bool} {mb : Nat} {a : Act} {w : World} (h : FI n W0 L mb a w) (h0 : L 0 = false) :
    FI n W0 (updL L 0) w.heap.size (a.put (some 11) (.map (some w.heap.size))) (w.alloc (.map #[] 0)) := by
  have hs := h.sz
  have hE := (Ext.alloc w (.map #[] 0)).1
  have h25 : L 25 = false := by cases hq : L 25 with | false => rfl | true => rw [h.d25 hq] at h0; cases h0
  have h26 : L 26 = false := by cases hq : L 26 with | false => rfl | true => rw [h.d26 hq] at h0; cases h0
  have hLk : ∀ k, updL L 0 (opOf k) = L (opOf k) := fun k => by unfold updL; rw [if_neg (opOf_ne k).1]
  refine ⟨by simp [Act.put, hs], h.df, ?_, ?_, ?_, ?_, ?_, h.bl.trans (hE.mono h.bl.size), ?_, fun _ => rfl, fun _ => rfl, fun hq => by simp [updL] at hq, ?_⟩
  · rw [eval_put_ne (by omega)]; exact h.e1
  · rw [eval_put_ne (by omega)]; exact h.e2
  · rw [eval_put_ne (by omega)]; exact h.e3
  · rw [eval_put_ne (by omega)]; exact h.e4
  · rw [eval_put_ne (by omega)]; exact h.e5
  · intro j t ht hj
    by_cases hij : j = 0
    · subst hij
      cases ht
      rw [eval_put_same (by omega)]
      rfl
    · have hne : (11 : Nat) ≠ t := fun e => hij (tmpOf_inj (e ▸ ht) (show tmpOf 0 = some 11 from rfl))
      rw [eval_put_ne hne]
      have hj' : L j = true := by simpa [updL, hij] using hj
      refine predOf_made (h.tv j t ht hj') ⟨hij, fun e => ?_, fun e => ?_⟩ (fun b hb => hE.block b hb) hE.size
      · rw [e, h25] at hj'; cases hj'
      · rw [e, h26] at hj'; cases hj'
  · intro _
    refine ⟨h.bl.size, by simp, #[], 0, MapKept.heap_alloc w _ |>.1, fun k hk => ⟨fun hl => ?_, fun _ => rfl⟩⟩
    rw [hLk, h.i0 h0 k hk] at hl
    cases hl

theorem FI.ins {n : Nat} {W0 : World} {L : Nat → Bool} {mb : Nat} {a : Act} {w : World} (h : FI n W0 L mb a w) (h0 : L 0 = true) (k : Nat) (hk : k ≤ 7) (hk0 : L (opOf k) = false) {v : Value} (hv : FormE w mb (k : Int) v) :
    ∃ w', (Instr.mapUpdate 75 (.map (some mb)) (.int .i64 (k : Int)) v).run Try.prog w = .ok () w' ∧ FI n W0 (updL L (opOf k)) mb a w' := by
  obtain ⟨h1, h2, es, clock, h3, h4⟩ := h.mp h0
  refine ⟨_, run_insert_new h3 ((h4 k hk).2 hk0), ?_⟩
  have hag : ∀ b, b ≠ mb → (setBlock w mb (.map (es.push { key := .int .i64 (k : Int), val := v, born := clock }) (clock + 1))).heap[b]? = w.heap[b]? := fun b hb => heap_setBlock_other h3 _ hb
  have hsz : (setBlock w mb (.map (es.push { key := .int .i64 (k : Int), val := v, born := clock }) (clock + 1))).heap.size = w.heap.size := by simp [setBlock]
  have hL : ∀ j, j ≠ opOf k → updL L (opOf k) j = L j := fun j hj => by unfold updL; rw [if_neg hj]
  obtain ⟨hn0, hn25, hn26⟩ := opOf_ne k
  refine ⟨h.sz, h.df, h.e1, h.e2, h.e3, h.e4, h.e5, ⟨h.bl.os, h.bl.tape, h.bl.output, by rw [hsz]; exact h.bl.size, fun b hb => (hag b (by omega)).trans (h.bl.block b hb)⟩, ?_, ?_, ?_, ?_, ?_⟩
  · intro j t ht hj
    have hne : j ≠ opOf k := fun e => by rw [e, tmpOf_op] at ht; cases ht
    rw [hL j hne] at hj
    exact predOf_later (h.tv j t ht hj) (fun b _ hb => hag b hb) (by omega)
  · rw [hL _ (Ne.symm hn25), hL _ (Ne.symm hn0)]; exact h.d25
  · rw [hL _ (Ne.symm hn26), hL _ (Ne.symm hn0)]; exact h.d26
  · rw [hL _ (Ne.symm hn0), h0]; intro hq; cases hq
  · intro _
    refine ⟨h1, by omega, _, _, heap_setBlock_same h3 _, fun j hj => ?_⟩
    have hv' := hv.later (w' := setBlock w mb (.map (es.push { key := .int .i64 (k : Int), val := v, born := clock }) (clock + 1))) (fun b _ hb => hag b hb) (by omega)
    by_cases hjk : j = k
    · subst hjk
      refine ⟨fun _ => ?_, fun hq => by simp [updL] at hq⟩
      refine ⟨0 + es.toList.length, v, ?_, hv'⟩
      · rw [Array.toList_push, findNow_none _ _ _ _ 0 ((h4 j hj).2 hk0), findNow_one, if_pos rfl]
    · have hne : opOf j ≠ opOf k := fun e => hjk (opOf_inj j hj k hk e)
      rw [hL _ hne]
      obtain ⟨h5, h6⟩ := h4 j hj
      refine ⟨fun hl => ?_, fun hl => ?_⟩
      · obtain ⟨i', v', h7, h8⟩ := h5 hl
        exact ⟨i', v', by rw [Array.toList_push]; exact findNow_found _ _ _ _ _ 0 h7, h8.later (fun b _ hb => hag b hb) (by omega)⟩
      · rw [Array.toList_push, findNow_none _ _ _ _ 0 (h6 hl), findNow_one, if_neg (by omega)]
end Go.Proofs.Ytbepohpppailnaa
