/- Walks of Valid, nullable, Nullable. -/
import Derived.Test.YtbepohpppailnaaW4
set_option linter.unusedSimpArgs false
set_option linter.unusedVariables false
namespace Go.Proofs.Ytbepohpppailnaa
open Go.RowKit

theorem rvalid_any (r : Rx) (w : World) (A : Nat → Prop) (a : Option Addr) (c : Nat) (h : RxRep w A r a c) :
   Calls Try.prog 36 #[rxv r a c] w fun e w' => e = .returned (.int .i64 (rvalid r)) ∧ Ext w w' := by
  have hE0 := Ext.alloc w (.cells #[.int .i64 r.k, .int .u8 r.lo, .int .u8 r.hi, .slice a r.ks.length c] 54)
  have H := Lib.hid (h.ext hE0.1)
  have HE0 := Lib.hid hE0
  clear h hE0
  simp only [rxv]
  unfold rvalid
  have T := tooLarge_any r
  have Pr := proper_any r
  cases ht : decide (cdown r 64 < 0) with
  | true =>
    rw [ht] at T
    have ht' : cdown r 64 < 0 := by simpa using ht
    rw [if_pos ht']
    have HT := Lib.hid T
    clear T Pr ht ht'
    go_enter Try.func36, Try.ntmps36
    go_wp2_with fail
    refine (HT.out _ A a c H.out).mono ?_
    rintro e w' ⟨rfl, hE⟩
    have HE := Lib.hid (HE0.out.trans hE)
    clear hE
    go_wp2_with fail
    go_ret
    exact ⟨rfl, HE.out⟩
  | false =>
    rw [ht] at T
    have ht' : ¬ cdown r 64 < 0 := by simpa using ht
    rw [if_neg ht']
    have HT := Lib.hid T
    have HP := Lib.hid Pr
    clear T Pr ht ht'
    cases hp : proper r with
    | true =>
      rw [hp] at HP
      clear hp
      go_enter Try.func36, Try.ntmps36
      go_wp2_with fail
      refine (HT.out _ A a c H.out).mono ?_
      rintro e w' ⟨rfl, hE⟩
      obtain ⟨h0, h1, h2, h3⟩ := hE.box4
      have HE := Lib.hid hE
      clear hE
      go_wp2_with fail
      refine (HP.out _ A a c (H.out.ext HE.out.1)).mono ?_
      rintro e w'' ⟨rfl, hE'⟩
      have HE2 := Lib.hid ((HE0.out.trans HE.out).trans hE')
      clear hE' h0 h1 h2 h3
      go_wp2_with fail
      go_ret
      exact ⟨rfl, HE2.out⟩
    | false =>
      rw [hp] at HP
      clear hp
      go_enter Try.func36, Try.ntmps36
      go_wp2_with fail
      refine (HT.out _ A a c H.out).mono ?_
      rintro e w' ⟨rfl, hE⟩
      obtain ⟨h0, h1, h2, h3⟩ := hE.box4
      have HE := Lib.hid hE
      clear hE
      go_wp2_with fail
      refine (HP.out _ A a c (H.out.ext HE.out.1)).mono ?_
      rintro e w'' ⟨rfl, hE'⟩
      have HE2 := Lib.hid ((HE0.out.trans HE.out).trans hE')
      clear hE' h0 h1 h2 h3
      go_wp2_with fail
      go_ret
      exact ⟨rfl, HE2.out⟩

theorem enters_nullable : ∀ args w, (callFunc 43 args).run Try.prog w = .ok (.enter 43 args) w := by
  intro args w
  go_simp


def NullC (x : Rx) : Prop := proper x = true → ∀ (w : World) (A : Nat → Prop) (a : Option Addr) (c : Nat), RxRep w A x a c →
   Calls Try.prog 43 #[rxv x a c] w fun e w' => e = .returned (.bool (nullable x)) ∧ Ext w w'

set_option maxHeartbeats 800000 in
theorem nullable_any (r : Rx) : NullC r := by
  induction r using Rx.ind with
  | h k lo hi ks ih =>
  intro hp w A a c hr
  obtain ⟨hk, hlo, hhi, fa, fc, hs⟩ := hr.kids
  have hl := hs.1
  simp only [Rx.k_mk, Rx.lo_mk, Rx.hi_mk, Rx.ks_mk] at *
  have hcase : (k = 0 ∨ k = 2) ∨ (k = 1 ∨ k = 7) ∨ ((k = 3 ∨ k = 5) ∧ properL ks = true) ∨ (k = 4 ∧ properL ks = true) ∨ (k = 6 ∧ ks.length = 1 ∧ properL ks = true) := by
    simp only [proper] at hp
    split at hp
    · cases hp
    · split at hp
      · omega
      · split at hp
        · omega
        · split at hp
          · rename_i h; rcases h with h | h | h
            · exact .inr (.inr (.inl ⟨.inl h, hp⟩))
            · exact .inr (.inr (.inr (.inl ⟨h, hp⟩)))
            · exact .inr (.inr (.inl ⟨.inr h, hp⟩))
          · split at hp
            · rename_i h; simp only [Bool.and_eq_true, decide_eq_true_eq] at hp
              rcases h with h | h
              · exact .inr (.inr (.inr (.inr ⟨h, hp.1, hp.2⟩)))
              · exact .inr (.inl (.inr h))
            · cases hp
  have HI := Lib.hid ih
  have HS := Lib.hid hs
  clear ih hs hr hp
  simp only [rxv, Rx.k_mk, Rx.lo_mk, Rx.hi_mk, Rx.ks_mk]
  generalize hpr : nullable (.mk k lo hi ks) = pr
  have HPR := Lib.hid hpr
  clear hpr
  rcases hcase with h02 | h17 | ⟨h35, hpk⟩ | ⟨rfl, hpk⟩ | ⟨rfl, h1, hpk⟩
  · have e : pr = false := by rw [← HPR.out]; rcases h02 with rfl | rfl <;> simp [nullable]
    subst e
    rcases h02 with rfl | rfl
    all_goals
      go_enter Try.func43, Try.ntmps43
      go_wp2
      go_ret
      exact ⟨rfl, Ext.alloc _ _⟩
  · have e : pr = true := by rw [← HPR.out]; rcases h17 with rfl | rfl <;> simp [nullable]
    subst e
    rcases h17 with rfl | rfl
    all_goals
      go_enter Try.func43, Try.ntmps43
      go_wp2
      go_ret
      exact ⟨rfl, Ext.alloc _ _⟩
  · have e : pr = nullAll ks := by rw [← HPR.out]; rcases h35 with rfl | rfl <;> simp [nullable]
    have HP3 := Lib.hid e
    have HPK := Lib.hid (properL_mem hpk)
    clear e hpk
    rcases h35 with rfl | rfl
    all_goals
      go_enter Try.func43, Try.ntmps43
      go_wp2
      go_loopw [16] (fun iv wr => ∃ (i : Nat), i ≤ ks.length ∧ iv = .int .i64 i ∧ Hid (pr = nullAll (ks.drop i)) ∧ Ext w wr)
        (fun i _ => ks.length - (intOf i).toNat)
      case atStart => exact ⟨0, Nat.zero_le _, rfl, Lib.hid (by simpa using HP3.out), Ext.alloc _ _⟩
      case round =>
        obtain ⟨i, hi, rfl, HC, hext⟩ := hrel
        by_cases hlt : i < ks.length
        · obtain ⟨b, o, x, rfl, hA, hbb, hx, ⟨g0, g1, g2, g3⟩, hxr⟩ := (HS.out.ext hext.1).at hlt
          have hE2 := Ext.alloc wr (.cells #[.int .i64 x.k, .int .u8 x.lo, .int .u8 x.hi, .slice (fa i) x.ks.length (fc i)] 54)
          have HCALL := Lib.hid (HI.out x (List.mem_of_getElem? hx) (HPK.out x (List.mem_of_getElem? hx)) _ A (fa i) (fc i) (hxr.ext hE2.1))
          have HD := Lib.hid (HC.out.trans (nullAll_drop ks i x hx))
          have HE2 := Lib.hid (hext.trans hE2)
          clear hx hxr hE2
          cases hq : nullable x with
          | true =>
            rw [hq] at HCALL HD
            clear hq
            go_wp2_with fail
            refine HCALL.out.mono ?_
            rintro e w' ⟨rfl, hE⟩
            have HE := Lib.hid (HE2.out.trans hE)
            clear hE
            go_wp2_with fail
            go_roundw
            case rel => first | exact ⟨i + 1, by omega, by go_num, Lib.hid (by simpa using HD.out), HE.out⟩ | ((repeat apply Exists.intro); exact ⟨⟨i + 1, by omega, by go_num, Lib.hid (by simpa using HD.out), HE.out⟩, rfl⟩)
            case measure => simp [intOf]; omega
          | false =>
            rw [hq] at HCALL HD
            clear hq
            go_wp2_with fail
            refine HCALL.out.mono ?_
            rintro e w' ⟨rfl, hE⟩
            have HE := Lib.hid (HE2.out.trans hE)
            clear hE
            go_wp2_with fail
            go_ret
            exact ⟨ret_bool (by rw [HD.out]; rfl), HE.out⟩
        · have HD := Lib.hid (HC.out.trans (nullAll_end ks i (by omega)))
          go_wp2_with fail
          go_ret
          exact ⟨ret_bool HD.out.symm, hext⟩
  · have e : pr = ks.any nullable := by rw [← HPR.out]; simp [nullable, nullAny_any]
    have HP3 := Lib.hid e
    have HPK := Lib.hid (properL_mem hpk)
    clear e hpk
    have hE0 := Ext.alloc w (.cells #[.int .i64 4, .int .u8 lo, .int .u8 hi, .slice a ks.length c] 54)
    have HE0 := Lib.hid hE0
    clear hE0
    go_enter Try.func43, Try.ntmps43
    go_wp2_with fail
    refine (containsFunc_any ks 43 #[] enters_nullable nullable _ A a c fa fc _ (Nat.le_refl _) (HS.out.ext HE0.out.1) (fun W B x a c hW hx hxr => HI.out x hx (HPK.out x hx) W B a c hxr)).mono ?_
    rintro e w' ⟨rfl, hE⟩
    have HE := Lib.hid (HE0.out.trans hE)
    clear hE
    go_wp2_with fail
    go_ret
    exact ⟨ret_bool HP3.out.symm, HE.out⟩
  · have hE0 := Ext.alloc w (.cells #[.int .i64 6, .int .u8 lo, .int .u8 hi, .slice a ks.length c] 54)
    obtain ⟨b, o, x, rfl, hA, hbb, hx, ⟨g0, g1, g2, g3⟩, hxr⟩ := (HS.out.ext hE0.1).at (i := 0) (by omega)
    have e : pr = !nullable x := by
      rw [← HPR.out]
      match ks, hx with
      | y :: ys, hx => simp at hx; subst hx; simp [nullable, nullFst]
    have HP3 := Lib.hid e
    have HPK := Lib.hid (properL_mem hpk)
    have HCALL := Lib.hid (HI.out x (List.mem_of_getElem? hx) (HPK.out x (List.mem_of_getElem? hx)) _ A (fa 0) (fc 0) hxr)
    have HE0 := Lib.hid hE0
    have h1' : 0 < ks.length := by omega
    clear e hpk hx hxr hE0 HPR h1
    simp only [Nat.zero_mul, Nat.add_zero] at g0 g1 g2 g3
    go_enter Try.func43, Try.ntmps43
    go_wp2_with fail
    refine HCALL.out.mono ?_
    rintro e w' ⟨rfl, hE⟩
    have HE := Lib.hid (HE0.out.trans hE)
    clear hE
    go_wp2_with fail
    go_ret
    exact ⟨ret_bool HP3.out.symm, HE.out⟩

theorem Nullable_any (r : Rx) (hv : rvalid r = 0) (w : World) (A : Nat → Prop) (a : Option Addr) (c : Nat) (h : RxRep w A r a c) :
   Calls Try.prog 33 #[rxv r a c] w fun e w' => e = .returned (.tuple #[.bool (nullable r), .int .i64 0]) ∧ Ext w w' := by
  have hE0 := Ext.alloc w (.cells #[.int .i64 r.k, .int .u8 r.lo, .int .u8 r.hi, .slice a r.ks.length c] 54)
  have H := Lib.hid (h.ext hE0.1)
  have HE0 := Lib.hid hE0
  have V := rvalid_any r
  rw [hv] at V
  have hpr : proper r = true := by
    unfold rvalid at hv
    split at hv
    · omega
    · split at hv
      · assumption
      · omega
  have HN := Lib.hid (nullable_any r hpr)
  have HV := Lib.hid V
  clear h hE0 V hv hpr
  simp only [rxv]
  go_enter Try.func33, Try.ntmps33
  go_wp2_with fail
  refine (HV.out _ A a c H.out).mono ?_
  rintro e w' ⟨rfl, hE⟩
  obtain ⟨h0, h1, h2, h3⟩ := hE.box4
  have HE := Lib.hid hE
  clear hE
  go_wp2_with fail
  refine (HN.out _ A a c (H.out.ext HE.out.1)).mono ?_
  rintro e w'' ⟨rfl, hE'⟩
  have HE2 := Lib.hid ((HE0.out.trans HE.out).trans hE')
  clear hE' h0 h1 h2 h3
  go_wp2_with fail
  go_ret2
  exact ⟨rfl, HE2.out⟩
end Go.Proofs.Ytbepohpppailnaa
