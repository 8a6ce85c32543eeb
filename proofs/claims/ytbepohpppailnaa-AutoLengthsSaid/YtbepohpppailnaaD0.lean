/- Walks: SameInts. -/
import Derived.Test.YtbepohpppailnaaC4
set_option linter.unusedSimpArgs false
set_option linter.unusedVariables false
namespace Go.Proofs.Ytbepohpppailnaa
open Go.RowKit
attribute [local go_sem ↓] Go.wp_at_zero Go.wp_at_succ

theorem SlRep.drewN {w : World} {A : Nat → Prop} {cs : List Value} {a : Option Addr} {c : Nat} (h : SlRep w A cs a c) (n : Nat) : SlRep (w.drewN n) A cs a c := ⟨h.bd, h.nil, h.ho⟩
set_option maxRecDepth 100000 in
set_option maxHeartbeats 1600000 in
theorem SameInts_any (l1 l2 : List Int) (w : World) (A1 A2 : Nat → Prop) (a1 a2 : Option Addr) (c1 c2 : Nat) (h1 : SlRep w A1 (ints l1) a1 c1) (h2 : SlRep w A2 (ints l2) a2 c2) :
    Calls Try.prog 21 #[.slice a1 l1.length c1, .slice a2 l2.length c2] w fun e w' => e = .returned (.bool (decide (l1 = l2))) ∧ ∃ n, w' = w.drewN n := by
  have hb1 := h1.bd
  have hb2 := h2.bd
  simp only [List.length_map] at hb1 hb2
  have H1 := Lib.hid h1
  have H2 := Lib.hid h2
  clear h1 h2
  by_cases hl : l1.length = l2.length
  · have hl' := ne_nat_f hl
    have HL := Lib.hid hl
    have hle : l1.length ≤ l2.length := by omega
    clear hl
    go_enter Try.func21, Try.ntmps21
    go_wp2_with fail
    go_loopw [5] (fun iv wr => ∃ (k n : Nat), iv = .int .i64 k ∧ k ≤ l1.length ∧ Hid (∀ j, j < k → l1[j]? = l2[j]?) ∧ wr = w.drewN n) (fun iv _ => l1.length - (intOf iv).toNat)
    case atStart => exact ⟨0, 0, by simp, Nat.zero_le _, Lib.hid (by intro j hj; omega), rfl⟩
    case round =>
      obtain ⟨k, n, rfl, hk, HE, rfl⟩ := hrel
      by_cases hlt : k < l1.length
      · obtain ⟨g1, o1, rfl, hg1, hc1⟩ := ints_cell' H1.out hlt
        obtain ⟨g2, o2, rfl, hg2, hc2⟩ := ints_cell' H2.out (i := k) (by omega)
        have e1 := iget_get hlt
        have e2 := iget_get (l := l2) (i := k) (by omega)
        generalize hx1 : iget l1 k = x1 at *
        generalize hx2 : iget l2 k = x2 at *
        have E1 := Lib.hid e1
        have E2 := Lib.hid e2
        have i1 : (0 : Int) ≤ k := by omega
        have i2 : (k : Int) < l1.length := by omega
        have i3 : (k : Int) < l2.length := by omega
        clear hx1 hx2 e1 e2
        by_cases hx : x1 = x2
        · have hx' := ine_f hx
          have HX := Lib.hid hx
          clear hx
          go_wp2_with fail
          go_quiet (fail)
          go_wp2_with fail
          go_roundw
          case rel => exact ⟨k + 1, _, by simp, by omega, Lib.hid (by
            intro j hj
            by_cases e : j = k
            · subst e; rw [E1.out, E2.out, HX.out]
            · exact HE.out j (by omega)), rfl⟩
          case measure => simp [intOf]; omega
        · have hx' := ine_t hx
          have HX := Lib.hid hx
          clear hx
          go_wp2_with fail
          go_quiet (fail)
          go_wp2_with fail
          go_ret
          have hne : l1 ≠ l2 := by
            rintro rfl
            have := E1.out
            rw [E2.out] at this
            exact HX.out (Option.some.inj this).symm
          exact ⟨ret_bool (decide_eq_false hne).symm, _, by rw [World.drewN_drewN]⟩
      · have he : l1 = l2 := by
          apply List.ext_getElem?
          intro j
          by_cases hj : j < l1.length
          · exact HE.out j (by omega)
          · rw [List.getElem?_eq_none (by omega), List.getElem?_eq_none (by rw [← HL.out]; omega)]
        have HEQ := Lib.hid he
        clear he
        go_wp2_with fail
        go_ret
        exact ⟨ret_bool (decide_eq_true HEQ.out).symm, n, rfl⟩
  · have hl' := ne_nat hl
    have hne : l1 ≠ l2 := fun e => hl (by rw [e])
    have HN := Lib.hid hne
    clear hne
    go_enter Try.func21, Try.ntmps21
    go_wp2_with fail
    go_ret
    exact ⟨ret_bool (decide_eq_false HN.out).symm, 0, rfl⟩
end Go.Proofs.Ytbepohpppailnaa
