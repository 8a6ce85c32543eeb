/- Walks of the program's order of expressions. -/
import Derived.Test.YtbepohpppailnaaW1
import Derived.Deep.DrawnRows
import Derived.Deep.RegionHeld3
set_option linter.unusedSimpArgs false
set_option linter.unusedVariables false
namespace Go.Proofs.Ytbepohpppailnaa
open Go.RowKit

def CmpC (x : Rx) : Prop := ∀ (w : World) (A B : Nat → Prop) (y : Rx) (a a' : Option Addr) (c c' : Nat), RxRep w A x a c → RxRep w B y a' c' →
  Calls Try.prog 57 #[rxv x a c, rxv y a' c'] w fun e w' => e = .returned (.int .i64 (rcmp x y)) ∧ Ext w w'

theorem rcmpL_drop (ks ls : List Rx) (i : Nat) (x y : Rx) (hx : ks[i]? = some x) (hy : ls[i]? = some y) : rcmpL (ks.drop i) (ls.drop i) = if rcmp x y ≠ 0 then rcmp x y else rcmpL (ks.drop (i + 1)) (ls.drop (i + 1)) := by
  obtain ⟨hi, rfl⟩ := List.getElem?_eq_some_iff.1 hx
  obtain ⟨hj, rfl⟩ := List.getElem?_eq_some_iff.1 hy
  rw [List.drop_eq_getElem_cons hi, List.drop_eq_getElem_cons hj]
  simp only [rcmpL]
theorem rcmpL_more (ks ls : List Rx) (i : Nat) (h : i < ks.length) (h2 : ls.length ≤ i) : rcmpL (ks.drop i) (ls.drop i) = 1 := by
  rw [List.drop_eq_getElem_cons h, List.drop_eq_nil_of_le h2]
  rfl
theorem rcmpL_end (ks ls : List Rx) (i : Nat) (h : ks.length ≤ i) (h' : i ≤ ls.length) (hi : i ≤ ks.length) : rcmpL (ks.drop i) (ls.drop i) = if ks.length < ls.length then -1 else 0 := by
  obtain rfl : i = ks.length := by omega
  rw [List.drop_eq_nil_of_le h]
  by_cases hl : ks.length < ls.length
  · rw [List.drop_eq_getElem_cons hl, if_pos hl]; rfl
  · rw [List.drop_eq_nil_of_le (by omega), if_neg hl]; rfl

set_option maxHeartbeats 400000 in
theorem compareFunc (ks : List Rx) (H : ∀ x ∈ ks, CmpC x) (w : World) (A B : Nat → Prop) (ls : List Rx) (a a' : Option Addr) (c c' : Nat) (fa fb : Nat → Option Addr) (fc fd : Nat → Nat)
    (h1 : RxsRep w A ks a c fa fc) (h2 : RxsRep w B ls a' c' fb fd) :
    Calls Try.prog 71 #[.slice a ks.length c, .slice a' ls.length c', .func (.func 57) #[] #[]] w fun e w' => e = .returned (.int .i64 (rcmpL ks ls)) ∧ Ext w w' := by
  have hl1 := h1.1
  have hl2 := h2.1
  have H1 := Lib.hid h1
  have H2 := Lib.hid h2
  have HH := Lib.hid H
  clear h1 h2 H
  go_enter Try.func71, Try.ntmps71
  go_wp2
  go_loopw [13] (fun iv wr => ∃ (i : Nat), i ≤ ks.length ∧ i ≤ ls.length ∧ iv = .int .i64 i ∧ Hid (rcmpL ks ls = rcmpL (ks.drop i) (ls.drop i)) ∧ Ext w wr)
    (fun i _ => ks.length - (intOf i).toNat)
  case atStart => exact ⟨0, Nat.zero_le _, Nat.zero_le _, rfl, Lib.hid (by simp), Ext.refl _⟩
  case round =>
    obtain ⟨i, hi, hi2, rfl, HC, hext⟩ := hrel
    by_cases hlt : i < ks.length
    · have K1 := H1.out.ext hext.1
      obtain ⟨b, o, x, rfl, hA, hbb, hx, hxa, hxr⟩ := K1.at hlt
      obtain ⟨g0, g1, g2, g3⟩ := hxa
      have HX := Lib.hid hx
      have HR := Lib.hid hxr
      clear hx hxr K1
      by_cases hlt2 : i < ls.length
      · have K2 := H2.out.ext hext.1
        obtain ⟨b', o', y, rfl, hA', hbb', hy, hya, hyr⟩ := K2.at hlt2
        obtain ⟨f0, f1, f2, f3⟩ := hya
        have HY := Lib.hid hy
        have HS := Lib.hid hyr
        clear hy hyr K2
        have hE2 : Ext wr ((wr.alloc (.cells #[.int .i64 x.k, .int .u8 x.lo, .int .u8 x.hi, .slice (fa i) x.ks.length (fc i)] 54)).alloc (.cells #[.int .i64 y.k, .int .u8 y.lo, .int .u8 y.hi, .slice (fb i) y.ks.length (fd i)] 54)) := (Ext.alloc _ _).trans (Ext.alloc _ _)
        have HE2 := Lib.hid hE2
        have hd := rcmpL_drop ks ls i x y HX.out HY.out
        clear hE2
        by_cases hc : rcmp x y = 0
        · have hc' : (rcmp x y != 0) = false := by simp [hc]
          rw [if_neg (by simp [hc])] at hd
          have HD := Lib.hid (HC.out.trans hd)
          clear hc hd
          go_wp2_with fail
          refine (HH.out x (List.mem_of_getElem? HX.out) _ A B y _ _ _ _ (HR.out.ext HE2.out.1) (HS.out.ext HE2.out.1)).mono ?_
          rintro e w' ⟨rfl, hE⟩
          have HE := Lib.hid ((hext.trans HE2.out).trans hE)
          clear hE
          go_wp2_with fail
          go_roundw
          case rel => exact ⟨i + 1, by omega, by omega, by go_num, HD, HE.out⟩
          case measure => simp [intOf]; omega
        · have hc' : (rcmp x y != 0) = true := by simp [hc]
          rw [if_pos hc] at hd
          have HD := Lib.hid (HC.out.trans hd)
          clear hc hd
          go_wp2_with fail
          refine (HH.out x (List.mem_of_getElem? HX.out) _ A B y _ _ _ _ (HR.out.ext HE2.out.1) (HS.out.ext HE2.out.1)).mono ?_
          rintro e w' ⟨rfl, hE⟩
          have HE := Lib.hid ((hext.trans HE2.out).trans hE)
          clear hE
          go_wp2_with fail
          go_ret
          exact ⟨ret_i64 HD.out.symm, HE.out⟩
      · have hd := HC.out.trans (rcmpL_more ks ls i hlt (by omega))
        have HD := Lib.hid hd
        clear hd
        go_wp2_with fail
        go_ret
        exact ⟨ret_i64 HD.out.symm, hext.trans (Ext.alloc _ _)⟩
    · have hd := HC.out.trans (rcmpL_end ks ls i (by omega) hi2 hi)
      by_cases hll : ks.length < ls.length
      · rw [if_pos hll] at hd
        have HD := Lib.hid hd
        clear hd
        go_wp2_with fail
        go_ret
        exact ⟨ret_i64 HD.out.symm, hext⟩
      · rw [if_neg hll] at hd
        have HD := Lib.hid hd
        clear hd
        go_wp2_with fail
        go_ret
        exact ⟨ret_i64 HD.out.symm, hext⟩

set_option maxRecDepth 100000 in
set_option maxHeartbeats 400000 in
theorem compare_any (x : Rx) : CmpC x := by
  induction x using Rx.ind with
  | h k lo hi ks ih =>
  have HI := Lib.hid ih
  clear ih
  intro w A B y a a' c c' h1 h2
  obtain ⟨hk, hlo, hhi, fa, fc, hs1⟩ := h1.kids
  obtain ⟨hk', hlo', hhi', fb, fd, hs2⟩ := h2.kids
  cases y with
  | mk k' lo' hi' ls =>
  simp only [Rx.k_mk, Rx.lo_mk, Rx.hi_mk, Rx.ks_mk] at *
  simp only [rxv, Rx.k_mk, Rx.lo_mk, Rx.hi_mk, Rx.ks_mk, rcmp]
  have H1 := Lib.hid hs1
  have H2 := Lib.hid hs2
  clear h1 h2 hs1 hs2
  go_enter Try.func57, Try.ntmps57
  go_wp2_with fail
  refine wp_region_still_tail 15 (by kernel_rfl) (by kernel_rfl) ?_
  simp only [List.take_succ_cons, List.take_zero, List.drop_succ_cons, List.drop_zero]
  show wpStill _ _ (World.drew _) _ _ _
  repeat still_step
  still_call ((cmp_int _ _ _).mono fun e w' h => ⟨h.1, h.2.symm⟩)
  repeat still_step
  still_call ((cmp_byte _ _ _).mono fun e w' h => ⟨h.1, h.2.symm⟩)
  repeat still_step
  still_call ((cmp_byte _ _ _).mono fun e w' h => ⟨h.1, h.2.symm⟩)
  repeat still_step
  refine wpStill_nil ?_
  show wpList _ _ _ _ _ (World.drew _)
  have H3 : Ext w (((w.alloc (.cells #[.int .i64 k, .int .u8 lo, .int .u8 hi, .slice a ks.length c] 54)).alloc (.cells #[.int .i64 k', .int .u8 lo', .int .u8 hi', .slice a' ls.length c'] 54)).alloc (.cells #[.int .i64 (icmp k k'), .int .i64 (icmp lo lo'), .int .i64 (icmp hi hi')] 3)).drew := (((Ext.alloc _ _).trans (Ext.alloc _ _)).trans (Ext.alloc _ _)).trans (Ext.drew _)
  have HE3 := Lib.hid H3
  clear H3
  by_cases hc : or3 (icmp k k') (icmp lo lo') (icmp hi hi') = 0
  · have hc' : (or3 (icmp k k') (icmp lo lo') (icmp hi hi') != 0) = false := by simp [hc]
    have HC := Lib.hid hc
    clear hc
    go_wp2_with fail
    refine (or_int (icmp k k') (icmp lo lo') (icmp hi hi') _ _ (by go_side) (by go_side) (by go_side)).mono ?_
    rintro e w' ⟨rfl, rfl⟩
    go_wp2_with fail
    refine (compareFunc ks HI.out _ A B ls a a' c c' fa fb fc fd (H1.out.ext HE3.out.1) (H2.out.ext HE3.out.1)).mono ?_
    rintro e w' ⟨rfl, hE⟩
    have HE := Lib.hid (HE3.out.trans hE)
    clear hE
    go_wp2_with fail
    go_ret
    exact ⟨rfl, HE.out⟩
  · have hc' : (or3 (icmp k k') (icmp lo lo') (icmp hi hi') != 0) = true := by simp [hc]
    have HC := Lib.hid hc
    clear hc
    go_wp2_with fail
    refine (or_int (icmp k k') (icmp lo lo') (icmp hi hi') _ _ (by go_side) (by go_side) (by go_side)).mono ?_
    rintro e w' ⟨rfl, rfl⟩
    go_wp2_with fail
    go_ret
    exact ⟨rfl, HE3.out⟩
end Go.Proofs.Ytbepohpppailnaa
