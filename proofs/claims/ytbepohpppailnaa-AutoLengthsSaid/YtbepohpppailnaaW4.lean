/- Walks of the program's predicates of expressions, continued. -/
import Derived.Test.YtbepohpppailnaaW3
set_option linter.unusedSimpArgs false
set_option linter.unusedVariables false
namespace Go.Proofs.Ytbepohpppailnaa
open Go.RowKit

set_option maxHeartbeats 1600000 in
theorem proper_any (r : Rx) : ∀ (w : World) (A : Nat → Prop) (a : Option Addr) (c : Nat), RxRep w A r a c →
   Calls Try.prog 47 #[rxv r a c] w fun e w' => e = .returned (.bool (proper r)) ∧ Ext w w' := by
  induction r using Rx.ind with
  | h k lo hi ks ih =>
  intro w A a c hr
  obtain ⟨hk, hlo, hhi, fa, fc, hs⟩ := hr.kids
  have hl := hs.1
  simp only [Rx.k_mk, Rx.lo_mk, Rx.hi_mk, Rx.ks_mk] at *
  have HI := Lib.hid ih
  have HS := Lib.hid hs
  clear ih hs hr
  simp only [rxv, Rx.k_mk, Rx.lo_mk, Rx.hi_mk, Rx.ks_mk]
  generalize hpr : proper (.mk k lo hi ks) = pr
  have HPR := Lib.hid hpr
  clear hpr
  by_cases hk2 : k = 2
  · subst hk2
    have hpr2 : pr = decide (ks.length = 0 ∧ lo ≤ hi) := by rw [← HPR.out]; simp [proper]
    subst hpr2
    by_cases h0 : ks.length = 0
    · by_cases hlh : lo ≤ hi
      · have e1 : ((ks.length : Int) == 0) = true := ieq_t (by omega)
        have e2 : (decide ((lo : Int) ≤ (hi : Int))) = true := by simpa using hlh
        have E : Hid (decide (ks.length = 0 ∧ lo ≤ hi) = true) := Lib.hid (by simp [h0, hlh])
        clear h0 HPR
        go_enter Try.func47, Try.ntmps47
        go_wp2
        go_ret
        exact ⟨ret_bool E.out.symm, Ext.alloc _ _⟩
      · have e1 : ((ks.length : Int) == 0) = true := ieq_t (by omega)
        have e2 : (decide ((lo : Int) ≤ (hi : Int))) = false := by simpa using hlh
        have E : Hid (decide (ks.length = 0 ∧ lo ≤ hi) = false) := Lib.hid (by simp [h0, hlh])
        clear h0 HPR
        go_enter Try.func47, Try.ntmps47
        go_wp2
        go_ret
        exact ⟨ret_bool E.out.symm, Ext.alloc _ _⟩
    · have e1 : ((ks.length : Int) == 0) = false := ieq_f (by omega)
      have E : Hid (decide (ks.length = 0 ∧ lo ≤ hi) = false) := Lib.hid (by simp [h0])
      clear h0 HPR
      go_enter Try.func47, Try.ntmps47
      go_wp2
      go_ret
      exact ⟨ret_bool E.out.symm, Ext.alloc _ _⟩
  · have ek2 : (k != 2) = true := by simpa using hk2
    have ek2' : (k == 2) = false := by simpa using hk2
    by_cases hl0 : lo = 0
    · by_cases hh0 : hi = 0
      · subst hl0 hh0
        have hpr2 : pr = (if k = 0 ∨ k = 1 then decide (ks.length = 0) else if k = 3 ∨ k = 4 ∨ k = 5 then properL ks else if k = 6 ∨ k = 7 then decide (ks.length = 1) && properL ks else false) := by
          rw [← HPR.out]; simp [proper, hk2]
        clear HPR
        by_cases h01 : k = 0 ∨ k = 1
        · have hpr3 : pr = decide (ks.length = 0) := by rw [hpr2, if_pos h01]
          clear hpr2 hk2
          subst hpr3
          cases h0 : decide (ks.length = 0) with
          | true =>
            have e1 : ((ks.length : Int) == 0) = true := by simpa using h0
            clear h0
            rcases h01 with rfl | rfl
            all_goals
              go_enter Try.func47, Try.ntmps47
              go_wp2
              go_ret
              exact ⟨rfl, Ext.alloc _ _⟩
          | false =>
            have e1 : ((ks.length : Int) == 0) = false := by simpa using h0
            clear h0
            rcases h01 with rfl | rfl
            all_goals
              go_enter Try.func47, Try.ntmps47
              go_wp2
              go_ret
              exact ⟨rfl, Ext.alloc _ _⟩
        · rw [if_neg h01] at hpr2
          have ek0 : (k == 0) = false := ieq_f (by omega)
          have ek1 : (k == 1) = false := ieq_f (by omega)
          by_cases h37 : k = 3 ∨ k = 4 ∨ k = 5 ∨ k = 6 ∨ k = 7
          · by_cases hone : (k = 6 ∨ k = 7) ∧ ¬ ks.length = 1
            · have hpr3 : pr = false := by rw [hpr2, if_neg (by omega), if_pos hone.1]; simp [hone.2]
              clear hpr2
              subst hpr3
              obtain ⟨hone1, hone2⟩ := hone
              have e1 : ((ks.length : Int) != 1) = true := ine_t (by omega)
              clear hone2 h37 h01 hk2 ek0 ek1 ek2 ek2'
              rcases hone1 with rfl | rfl
              all_goals
                go_enter Try.func47, Try.ntmps47
                go_wp2
                go_ret
                exact ⟨rfl, Ext.alloc _ _⟩
            · have hpr3 : pr = properL ks := by
                rw [hpr2]
                by_cases h35 : k = 3 ∨ k = 4 ∨ k = 5
                · rw [if_pos h35]
                · rw [if_neg h35, if_pos (by omega)]
                  have : ks.length = 1 := by omega
                  simp [this]
              have HP3 := Lib.hid hpr3
              clear hpr2 hpr3
              have e1 : (k = 6 ∨ k = 7) → ((ks.length : Int) != 1) = false := fun h => ine_f (by omega)
              have e67 : (k = 3 ∨ k = 4 ∨ k = 5) ∨ (((k = 6 ∨ k = 7)) ∧ ((ks.length : Int) != 1) = false) := by
                rcases h37 with h | h | h | h | h
                · exact .inl (by omega)
                · exact .inl (by omega)
                · exact .inl (by omega)
                · exact .inr ⟨.inl h, e1 (.inl h)⟩
                · exact .inr ⟨.inr h, e1 (.inr h)⟩
              clear e1 hone h37 h01 hk2 ek0 ek1 ek2 ek2'
              rcases e67 with (rfl | rfl | rfl) | ⟨(rfl | rfl), e1⟩
              all_goals
                go_enter Try.func47, Try.ntmps47
                go_wp2
                go_loopw [54] (fun iv wr => ∃ (i : Nat), i ≤ ks.length ∧ iv = .int .i64 i ∧ Hid (pr = properL (ks.drop i)) ∧ Ext w wr)
                  (fun i _ => ks.length - (intOf i).toNat)
                case atStart => exact ⟨0, Nat.zero_le _, rfl, Lib.hid (by simpa using HP3.out), Ext.alloc _ _⟩
                case round =>
                  obtain ⟨i, hi, rfl, HC, hext⟩ := hrel
                  by_cases hlt : i < ks.length
                  · obtain ⟨b, o, x, rfl, hA, hbb, hx, ⟨g0, g1, g2, g3⟩, hxr⟩ := (HS.out.ext hext.1).at hlt
                    have hE2 := Ext.alloc wr (.cells #[.int .i64 x.k, .int .u8 x.lo, .int .u8 x.hi, .slice (fa i) x.ks.length (fc i)] 54)
                    have HCALL := Lib.hid (HI.out x (List.mem_of_getElem? hx) _ A (fa i) (fc i) (hxr.ext hE2.1))
                    have HD := Lib.hid (HC.out.trans (properL_drop ks i x hx))
                    have HE2 := Lib.hid (hext.trans hE2)
                    clear hx hxr hE2
                    cases hq : proper x with
                    | true =>
                      rw [hq] at HCALL HD
                      clear hq
                      go_wp2_with fail
                      refine HCALL.out.mono ?_
                      rintro e w' ⟨rfl, hE⟩
                      have HE := Lib.hid (HE2.out.trans hE)
                      clear hE
                      go_wp2_with fail
                      go_roundw
                      case rel => first | exact ⟨i + 1, by omega, by go_num, Lib.hid (by simpa using HD.out), HE.out⟩ | ((repeat apply Exists.intro); exact ⟨⟨i + 1, by omega, by go_num, Lib.hid (by simpa using HD.out), HE.out⟩, rfl⟩)
                      case measure => simp [intOf]; omega
                    | false =>
                      rw [hq] at HCALL HD
                      clear hq
                      go_wp2_with fail
                      refine HCALL.out.mono ?_
                      rintro e w' ⟨rfl, hE⟩
                      have HE := Lib.hid (HE2.out.trans hE)
                      clear hE
                      go_wp2_with fail
                      go_ret
                      exact ⟨ret_bool (by rw [HD.out]; rfl), HE.out⟩
                  · have HD := Lib.hid (HC.out.trans (properL_end ks i (by omega)))
                    go_wp2_with fail
                    go_ret
                    exact ⟨ret_bool HD.out.symm, hext⟩
          · have hpr3 : pr = false := by rw [hpr2, if_neg (by omega), if_neg (by omega)]
            clear hpr2
            subst hpr3
            have ek3 : (k == 3) = false := ieq_f (by omega)
            have ek4 : (k == 4) = false := ieq_f (by omega)
            have ek5 : (k == 5) = false := ieq_f (by omega)
            have ek6 : (k == 6) = false := ieq_f (by omega)
            have ek7 : (k == 7) = false := ieq_f (by omega)
            clear h37 h01 hk2
            go_enter Try.func47, Try.ntmps47
            go_wp2
            go_ret
            exact ⟨rfl, Ext.alloc _ _⟩
      · have hpr2 : pr = false := by rw [← HPR.out]; simp [proper, hk2, hh0]
        clear HPR
        subst hpr2 hl0
        have e1 : ((hi : Int) != 0) = true := ine_t (by omega)
        clear hh0 hk2
        go_enter Try.func47, Try.ntmps47
        go_wp2
        go_ret
        exact ⟨rfl, Ext.alloc _ _⟩
    · have hpr2 : pr = false := by rw [← HPR.out]; simp [proper, hk2, hl0]
      clear HPR
      subst hpr2
      have e1 : ((lo : Int) != 0) = true := ine_t (by omega)
      clear hl0 hk2
      go_enter Try.func47, Try.ntmps47
      go_wp2
      go_ret
      exact ⟨rfl, Ext.alloc _ _⟩
end Go.Proofs.Ytbepohpppailnaa
