/- Walks: keyOf. -/
import Derived.Test.YtbepohpppailnaaAP
set_option linter.unusedSimpArgs false
set_option linter.unusedVariables false
namespace Go.Proofs.Ytbepohpppailnaa
open Go.RowKit
attribute [local go_sem ↓] Go.wp_at_zero Go.wp_at_succ

theorem keyA_inj_aux : ∀ r : Rx, ∀ r' : Rx, ∀ s s' : List Nat, proper r = true → proper r' = true → keyA r ++ s = keyA r' ++ s' → r = r' ∧ s = s' := by
  refine Rx.ind ?_
  intro k lo hi ks ih r' s s' hp hp' h
  cases r' with
  | mk k' lo' hi' ks' =>
  have hk := proper_kind hp
  have hk' := proper_kind hp'
  have hps := proper_kids hp
  have hps' := proper_kids hp'
  simp only [Rx.k_mk, Rx.ks_mk] at hk hk' hps hps'
  simp only [keyA, List.cons_append, List.nil_append, List.cons.injEq] at h
  obtain ⟨h1, h2, h3, h4, h5⟩ := h
  have key : ∀ l l' : List Rx, l.length = l'.length → (∀ x ∈ l, x ∈ ks) → (∀ x ∈ l', proper x = true) → ∀ s s' : List Nat, keyAL l ++ s = keyAL l' ++ s' → l = l' ∧ s = s' := by
    intro l
    induction l with
    | nil =>
      intro l' hl _ _ s s' h
      have : l' = [] := List.length_eq_zero_iff.1 hl.symm
      subst this
      exact ⟨rfl, h⟩
    | cons a l ihl =>
      intro l' hl hm hm' s s' h
      cases l' with
      | nil => simp at hl
      | cons a' l' =>
        simp only [keyAL, List.append_assoc] at h
        obtain ⟨e1, e2⟩ := ih a (hm a List.mem_cons_self) a' _ _ (hps a (hm a List.mem_cons_self)) (hm' a' List.mem_cons_self) h
        obtain ⟨e3, e4⟩ := ihl l' (by simpa using hl) (fun x hx => hm x (List.mem_cons_of_mem _ hx)) (fun x hx => hm' x (List.mem_cons_of_mem _ hx)) _ _ e2
        exact ⟨by rw [e1, e3], e4⟩
  obtain ⟨e1, e2⟩ := key ks ks' h4 (fun x hx => hx) hps' s s' h5
  refine ⟨?_, e2⟩
  have : k = k' := by omega
  rw [this, h2, h3, e1]
theorem keyA_inj {r r' : Rx} (hp : proper r = true) (hp' : proper r' = true) (h : keyA r = keyA r') : r = r' :=
  (keyA_inj_aux r r' [] [] hp hp' (by rw [h])).1

/-- what keyOf leaves -/
def KeyC (r : Rx) : Prop := ∀ (w : World) (base : Nat) (v : Value) (l : List Nat) (A : Nat → Prop) (a : Option Addr) (c : Nat), OwnC w base 5 v (byts l) → base ≤ w.heap.size → RxRep w A r a c → (∀ b, base ≤ b → A b) → l.length + 4 * nodes r ≤ 1000000 → proper r = true → nodes r ≤ 64 →
    Calls Try.prog 30 #[v, rxv r a c] w fun e w' => ∃ v', e = .returned v' ∧ OwnC w' base 5 v' (byts (l ++ keyA r)) ∧ Below base w w'

set_option maxRecDepth 100000 in
set_option maxHeartbeats 3200000 in
theorem keyOf_any : ∀ r : Rx, KeyC r := by
  refine Rx.ind ?_
  intro k lo hi ks ih w base v l A a c hown hbase hr hA hlen hp hn
  have hpk := proper_kids hp
  have hkk := proper_kind hp
  obtain ⟨hk, hlo, hhi, fa, fc, hs⟩ := hr.kids
  have hl := hs.bd
  have hnl := nodesL_length ks
  simp only [Rx.k_mk, Rx.lo_mk, Rx.hi_mk, Rx.ks_mk, nodes] at *
  have hcl : (keyAL ks).length = 4 * nodesL ks := by
    have := keyA_length (.mk k lo hi ks)
    simp only [keyA, nodes, List.length_append, List.length_cons, List.length_nil] at this
    omega
  have hk0 : 0 ≤ k := hkk.1
  have hk7 : k ≤ 7 := hkk.2
  have hlo' : (lo : Int) < 256 := by omega
  have hhi' : (hi : Int) < 256 := by omega
  have hl64 : (ks.length : Int) < 256 := by omega
  have hkn : Hid (Value.int .u8 k = Value.int .u8 (k.toNat : Nat)) := Lib.hid (by rw [Int.toNat_of_nonneg hk0])
  have HI := Lib.hid (fun r (hr : r ∈ ks) => ih r hr)
  have HPK := Lib.hid hpk
  have HS := Lib.hid hs
  have HA := Lib.hid hA
  have HO := Lib.hid (hown.ext (Ext.alloc w (.cells #[.int .i64 k, .int .u8 lo, .int .u8 hi, .slice a ks.length c] 54)).1)
  have HNE := Lib.hid (hown.apart (b := w.heap.size) (.inl (Nat.le_refl _)))
  clear ih hs hr hA hown hpk hkk hk
  simp only [rxv, Rx.k_mk, Rx.lo_mk, Rx.hi_mk, Rx.ks_mk]
  go_enter Try.func30, Try.ntmps30
  go_wp2_with (at_builtin; go_loud (refine wpList_append_cs rfl (.tmp 7) (.tmp 19) 47 5 rfl tabB rfl (by omega) base v (byts l) rfl HO.out (by simp only [World.size_alloc]; omega) #[.int .u8 k, .int .u8 lo, .int .u8 hi, .int .u8 ks.length] 4 rfl 5 _ rfl (by simp) (by simp [Value.oneCell']) (by simp only [List.length_map]; omega) ?_); intro v1 w1 hg1; have q3 := hg1.cell (b := w.heap.size) 3 (by simp) HNE.out (u := .slice a ks.length c) (by go_side); have hs1 : w.heap.size < w1.heap.size := (by have := hg1.below.size; simp at this; omega); have hn1 := Lib.hid (hg1.apart (b := w.heap.size) (by simp) HNE.out); have HG1 := Lib.hid hg1; clear hg1)
  go_loopw [0, 24] (fun v iv wr => ∃ j : Nat, j ≤ ks.length ∧ iv = .int .i64 j ∧ Hid (OwnC wr base 5 v (byts (l ++ [k.toNat, lo, hi, ks.length] ++ keyAL (ks.take j)))) ∧ Below base w wr ∧ w.heap.size < wr.heap.size)
    (fun _ i _ => ks.length - (intOf i).toNat)
  case atStart =>
    have h0 : Hid (OwnC w1 base 5 v1 (byts (l ++ [k.toNat, lo, hi, ks.length] ++ keyAL (ks.take 0)))) := Lib.hid (by have := HG1.out.own; rw [hkn.out] at this; simpa [keyAL] using this)
    exact ⟨0, Nat.zero_le _, rfl, h0, ((Below.refl _ _).alloc hbase _).trans HG1.out.below, hs1⟩
  case round =>
    obtain ⟨j, hj, rfl, HOW, hb, hsz⟩ := hrel
    by_cases hlt : j < ks.length
    · obtain ⟨b, o, x, rfl, hA', hbb, hx, hat, hxr⟩ := (HS.out.keep (w' := wr) fun b _ hn => hb.block b (by by_cases h : b < base; exact h; exact absurd (HA.out b (by omega)) hn)).at hlt
      obtain ⟨g0, g1, g2, g3⟩ := hat
      have hE2 := Ext.alloc wr (.cells #[.int .i64 x.k, .int .u8 x.lo, .int .u8 x.hi, .slice (fa j) x.ks.length (fc j)] 54)
      have hxm := nodesL_append (ks.take j) (ks.drop j)
      rw [List.take_append_drop, List.drop_eq_getElem_cons hlt] at hxm
      have hxx : ks[j] = x := by rw [List.getElem?_eq_getElem hlt] at hx; exact Option.some.inj hx
      rw [hxx] at hxm
      simp only [nodesL] at hxm
      have hct : (keyAL (ks.take j)).length = 4 * nodesL (ks.take j) := by
        have := keyA_length (.mk k lo hi (ks.take j))
        simp only [keyA, nodes, List.length_append, List.length_cons, List.length_nil] at this
        omega
      have HC := Lib.hid (HI.out x (List.mem_of_getElem? hx) (wr.alloc (.cells #[.int .i64 x.k, .int .u8 x.lo, .int .u8 x.hi, .slice (fa j) x.ks.length (fc j)] 54)) base _ (l ++ [k.toNat, lo, hi, ks.length] ++ keyAL (ks.take j)) A (fa j) (fc j) (HOW.out.ext hE2.1) (by simp only [World.size_alloc]; omega) (hxr.ext hE2.1) HA.out (by rw [List.length_append, List.length_append]; simp only [List.length_cons, List.length_nil]; omega) (HPK.out x (List.mem_of_getElem? hx)) (by omega))
      have HX := Lib.hid hx
      have HB := Lib.hid hb
      have HE2 := Lib.hid hE2
      clear hx hxr hE2 hxm hb hxx hct
      go_wp2_with fail
      refine HC.out.mono ?_
      rintro e w2 ⟨v2, rfl, ho1, hb1⟩
      have hsz1 := hb1.size
      simp only [World.size_alloc] at hsz1
      have HO1 := Lib.hid ho1
      have HB1 := Lib.hid hb1
      clear ho1 hb1
      go_wp2_with fail
      go_roundw
      have hrel' : ∃ j' : Nat, j' ≤ ks.length ∧ Value.int .i64 (j + 1) = .int .i64 j' ∧ Hid (OwnC w2 base 5 v2 (byts (l ++ [k.toNat, lo, hi, ks.length] ++ keyAL (ks.take j')))) ∧ Below base w w2 ∧ w.heap.size < w2.heap.size :=
        ⟨j + 1, by omega, by simp, Lib.hid (by rw [keyAL_take ks j x HX.out, ← List.append_assoc]; exact HO1.out), (HB.out.trans (HE2.out.1.mono (by omega))).trans HB1.out, by omega⟩
      case rel => first | exact hrel' | ((repeat apply Exists.intro); exact ⟨hrel', rfl⟩)
      case measure => simp [intOf]; omega
    · have he : j = ks.length := by omega
      have ho := HOW.out
      rw [he, List.take_length] at ho
      have HO1 := Lib.hid ho
      have HB := Lib.hid hb
      clear ho hb he
      go_wp2_with fail
      go_ret
      exact ⟨_, rfl, by simp only [keyA]; rw [← List.append_assoc]; exact HO1.out, HB.out⟩
end Go.Proofs.Ytbepohpppailnaa
