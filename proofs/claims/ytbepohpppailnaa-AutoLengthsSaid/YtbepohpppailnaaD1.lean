/- Walks: Around, Pick, own, sameBools; class, run, Accepts. -/
import Derived.Test.YtbepohpppailnaaD0
import Derived.Test.YtbepohpppailnaaL0
import Derived.Test.YtbepohpppailnaaMP
set_option linter.unusedSimpArgs false
set_option linter.unusedVariables false
namespace Go.Proofs.Ytbepohpppailnaa
open Go.RowKit
attribute [local go_sem ↓] Go.wp_at_zero Go.wp_at_succ

theorem Around_any (n m : Int) (hn : I64 n) (hm : 0 < m ∧ m ≤ 9223372036854775807) (w : World) :
    Calls Try.prog 22 #[.int .i64 n, .int .i64 m] w fun e w' => e = .returned (.int .i64 (around n m)) ∧ w = w' := by
  obtain ⟨n1, n2⟩ := hn
  obtain ⟨m1, m2⟩ := hm
  by_cases h : n < 0
  · have e : Hid (around n m = -(n + 1) % m) := Lib.hid (by unfold around; rw [if_pos h])
    go_enter Try.func22, Try.ntmps22
    go_wp2_with fail
    go_ret
    exact ⟨ret_i64 (by rw [e.out, ← Int.neg_tmod, Int.tmod_eq_emod_of_nonneg (by omega)]), rfl⟩
  · have e : Hid (around n m = n % m) := Lib.hid (by unfold around; rw [if_neg h])
    have h' : 0 ≤ n := by omega
    go_enter Try.func22, Try.ntmps22
    go_wp2_with fail
    go_ret
    exact ⟨ret_i64 (by rw [e.out]), rfl⟩
theorem Pick_any (l : List Int) (hl : ∀ x ∈ l, I64 x) (i n : Int) (hi : I64 i) (hn : 0 < n ∧ n ≤ 9223372036854775807) (w : World) (A : Nat → Prop) (a : Option Addr) (c : Nat) (h : SlRep w A (ints l) a c) :
    Calls Try.prog 12 #[.slice a l.length c, .int .i64 i, .int .i64 n] w fun e w' => e = .returned (.int .i64 (pickP l i n)) ∧ w = w' := by
  have hb := h.bd
  simp only [List.length_map] at hb
  obtain ⟨i1, i2⟩ := hi
  by_cases h0 : 0 ≤ i ∧ i < l.length
  · obtain ⟨h1, h2⟩ := h0
    have e : Hid (pickP l i n = around (iget l i.toNat) n) := Lib.hid (by unfold pickP; rw [if_pos ⟨h1, h2⟩])
    obtain ⟨g, o, rfl, hg, hc⟩ := ints_cell' h (i := i.toNat) (by omega)
    have hx := hl _ (List.mem_of_getElem? (iget_get (l := l) (i := i.toNat) (by omega)))
    have HC := Lib.hid (Around_any (iget l i.toNat) n hx hn w)
    generalize iget l i.toNat = x at *
    clear h hl hx
    go_enter Try.func12, Try.ntmps12
    go_wp2_with fail
    refine HC.out.mono ?_
    rintro e w' ⟨rfl, rfl⟩
    go_wp2_with fail
    go_ret
    exact ⟨ret_i64 (by rw [e.out]), rfl⟩
  · have e : Hid (pickP l i n = 0) := Lib.hid (by unfold pickP; rw [if_neg h0])
    clear h hl
    by_cases h1 : i < 0
    · clear h0
      go_enter Try.func12, Try.ntmps12
      go_wp2_with fail
      go_ret
      exact ⟨ret_i64 e.out.symm, rfl⟩
    · have h2 : (l.length : Int) ≤ i := by omega
      have h3 : 0 ≤ i := by omega
      clear h0
      go_enter Try.func12, Try.ntmps12
      go_wp2_with fail
      go_ret
      exact ⟨ret_i64 e.out.symm, rfl⟩
theorem own_any (u : Au) (p : APl) (w : World) :
    Calls Try.prog 4 #[auv u p] w fun e w' => e = .returned (auv u p) ∧ Below w.heap.size w w' := by
  simp only [auv]
  go_enter Try.func4, Try.ntmps4
  go_wp2_with fail
  refine bodyPost_ret (v := .agg #[.slice p.ca u.cuts.length p.cc, .slice p.na u.next.length p.nc, .slice p.aa u.accept.length p.ac]) (by simp [results, Try.results4, go_sem]) rfl ⟨rfl, ?_⟩
  exact ((Below.refl _ _).alloc (Nat.le_refl _) _).alloc (by simp) _
set_option maxRecDepth 100000 in
set_option maxHeartbeats 1600000 in
theorem sameBools_any (l1 l2 : List Bool) (w : World) (A1 A2 : Nat → Prop) (a1 a2 : Option Addr) (c1 c2 : Nat) (h1 : SlRep w A1 (boos l1) a1 c1) (h2 : SlRep w A2 (boos l2) a2 c2) :
    Calls Try.prog 10 #[.slice a1 l1.length c1, .slice a2 l2.length c2] w fun e w' => e = .returned (.bool (decide (l1 = l2))) ∧ ∃ n, w' = w.drewN n := by
  have hb1 := h1.bd
  have hb2 := h2.bd
  simp only [List.length_map] at hb1 hb2
  have H1 := Lib.hid h1
  have H2 := Lib.hid h2
  clear h1 h2
  by_cases hl : l1.length = l2.length
  · have hl' := ne_nat_f hl
    have HL := Lib.hid hl
    have hle : l1.length ≤ l2.length := by omega
    clear hl
    go_enter Try.func10, Try.ntmps10
    go_wp2_with fail
    go_loopw [5] (fun iv wr => ∃ (k n : Nat), iv = .int .i64 k ∧ k ≤ l1.length ∧ Hid (∀ j, j < k → l1[j]? = l2[j]?) ∧ wr = w.drewN n) (fun iv _ => l1.length - (intOf iv).toNat)
    case atStart => exact ⟨0, 0, by simp, Nat.zero_le _, Lib.hid (by intro j hj; omega), rfl⟩
    case round =>
      obtain ⟨k, n, rfl, hk, HE, rfl⟩ := hrel
      by_cases hlt : k < l1.length
      · obtain ⟨g1, o1, rfl, hg1, hc1⟩ := boos_cell' H1.out hlt
        obtain ⟨g2, o2, rfl, hg2, hc2⟩ := boos_cell' H2.out (i := k) (by omega)
        have e1 := bget_get hlt
        have e2 := bget_get (l := l2) (i := k) (by omega)
        have i1 : (0 : Int) ≤ k := by omega
        have i2 : (k : Int) < l1.length := by omega
        have i3 : (k : Int) < l2.length := by omega
        by_cases hx : bget l1 k = bget l2 k
        · have E : Hid (l1[k]? = l2[k]?) := Lib.hid (by rw [e1, e2, hx])
          rw [hx] at hc1
          generalize bget l2 k = x at *
          clear e1 e2 hx
          cases x
          all_goals
            go_wp2_with fail
            go_quiet (fail)
            go_wp2_with fail
            go_roundw
          all_goals first
            | exact ⟨k + 1, _, by simp, by omega, Lib.hid (by
                intro j hj
                by_cases e : j = k
                · subst e; exact E.out
                · exact HE.out j (by omega)), rfl⟩
            | (simp [intOf]; omega)
        · have E : Hid (l1[k]? ≠ l2[k]?) := Lib.hid (by rw [e1, e2]; intro h; exact hx (Option.some.inj h))
          generalize hx1 : bget l1 k = x1 at *
          generalize hx2 : bget l2 k = x2 at *
          have hne : l1 ≠ l2 := by
            rintro rfl
            exact E.out rfl
          have HNE := Lib.hid hne
          clear e1 e2 hx1 hx2 hne
          cases x1 <;> cases x2
          · exact absurd rfl hx
          · clear hx
            go_wp2_with fail
            go_quiet (fail)
            go_wp2_with fail
            go_ret
            exact ⟨ret_bool (decide_eq_false HNE.out).symm, _, by rw [World.drewN_drewN]⟩
          · clear hx
            go_wp2_with fail
            go_quiet (fail)
            go_wp2_with fail
            go_ret
            exact ⟨ret_bool (decide_eq_false HNE.out).symm, _, by rw [World.drewN_drewN]⟩
          · exact absurd rfl hx
      · have he : l1 = l2 := by
          apply List.ext_getElem?
          intro j
          by_cases hj : j < l1.length
          · exact HE.out j (by omega)
          · rw [List.getElem?_eq_none (by omega), List.getElem?_eq_none (by rw [← HL.out]; omega)]
        have HEQ := Lib.hid he
        clear he
        go_wp2_with fail
        go_ret
        exact ⟨ret_bool (decide_eq_true HEQ.out).symm, n, rfl⟩
  · have hl' := ne_nat hl
    have hne : l1 ≠ l2 := fun e => hl (by rw [e])
    have HN := Lib.hid hne
    clear hne
    go_enter Try.func10, Try.ntmps10
    go_wp2_with fail
    go_ret
    exact ⟨ret_bool (decide_eq_false HN.out).symm, 0, rfl⟩
end Go.Proofs.Ytbepohpppailnaa
