/- Walks of the program's predicates of expressions. -/
import Derived.Test.YtbepohpppailnaaW2
set_option linter.unusedSimpArgs false
set_option linter.unusedVariables false
namespace Go.Proofs.Ytbepohpppailnaa
open Go.RowKit

set_option maxHeartbeats 400000 in
theorem countdown_any (r : Rx) : ∀ (w : World) (A : Nat → Prop) (a : Option Addr) (c : Nat) (left : Int), RxRep w A r a c → -1 ≤ left → left ≤ 1000 →
   Calls Try.prog 63 #[rxv r a c, .int .i64 left] w fun e w' => e = .returned (.int .i64 (cdown r left)) ∧ Ext w w' := by
  induction r using Rx.ind with
  | h k lo hi ks ih =>
  intro w A a c left hr h0 h1
  obtain ⟨hk, hlo, hhi, fa, fc, hs⟩ := hr.kids
  have hl := hs.1
  simp only [Rx.k_mk, Rx.lo_mk, Rx.hi_mk, Rx.ks_mk] at *
  have HI := Lib.hid ih
  have HS := Lib.hid hs
  clear ih hs hr
  simp only [rxv, Rx.k_mk, Rx.lo_mk, Rx.hi_mk, Rx.ks_mk, cdown]
  go_enter Try.func63, Try.ntmps63
  go_wp2
  go_loopw [1, 5] (fun lv iv wr => ∃ (i : Nat) (l : Int), i ≤ ks.length ∧ iv = .int .i64 i ∧ lv = .int .i64 l ∧ -2 ≤ l ∧ l ≤ 1000 ∧ Hid (cdownL ks (left - 1) = cdownL (ks.drop i) l) ∧ Ext (w.alloc (.cells #[.int .i64 k, .int .u8 lo, .int .u8 hi, .slice a ks.length c] 54)) wr)
    (fun _ i _ => ks.length - (intOf i).toNat)
  case atStart => exact ⟨0, _, Nat.zero_le _, rfl, rfl, by omega, by omega, Lib.hid (by simp), Ext.refl _⟩
  case round =>
    obtain ⟨i, l, hi, rfl, rfl, hl0, hl1, HC, hb⟩ := hrel
    have hbox : wr.cell? ⟨w.heap.size, 3, none⟩ = some (.slice a ks.length c) := by rw [hb.1.cell (by simp)]; go_side
    have HE := Lib.hid ((Ext.alloc w _).trans hb)
    by_cases hlt : i < ks.length
    · by_cases hge : 0 ≤ l
      · obtain ⟨b, o, x, rfl, hA, hbb, hx, ⟨g0, g1, g2, g3⟩, hxr⟩ := (HS.out.ext HE.out.1).at hlt
        have hstep := cdownL_drop ks i x l hx
        rw [if_pos hge] at hstep
        have hrg := cdown_range x l (by omega)
        have HX := Lib.hid hx
        have HC2 := Lib.hid (HC.out.trans hstep)
        have HR := Lib.hid hxr
        clear hx hstep hxr
        go_wp2_with fail
        refine (HI.out x (List.mem_of_getElem? HX.out) _ A _ _ l HR.out (by omega) (by omega)).mono ?_
        rintro e w' ⟨rfl, hb'⟩
        have hb2 := hb.trans hb'
        go_wp2_with fail
        go_roundw
        case rel => exact ⟨i + 1, _, by omega, by go_num, rfl, by omega, by omega, HC2, hb2⟩
        case measure => simp [intOf]; omega
      · have hd := cdownL_neg (ks.drop i) l (by omega)
        have HD := Lib.hid (HC.out.trans hd)
        clear hd
        go_wp2_with fail
        go_ret
        exact ⟨ret_i64 HD.out.symm, HE.out⟩
    · have hd : cdownL (ks.drop i) l = l := by rw [List.drop_eq_nil_of_le (by omega)]; rfl
      have HD := Lib.hid (HC.out.trans hd)
      clear hd
      go_wp2_with fail
      go_ret
      exact ⟨ret_i64 HD.out.symm, HE.out⟩

theorem tooLarge_any (r : Rx) (w : World) (A : Nat → Prop) (a : Option Addr) (c : Nat) (h : RxRep w A r a c) :
   Calls Try.prog 46 #[rxv r a c] w fun e w' => e = .returned (.bool (decide (cdown r 64 < 0))) ∧ Ext w w' := by
  have H := Lib.hid (h.ext (Ext.alloc w (.cells #[.int .i64 r.k, .int .u8 r.lo, .int .u8 r.hi, .slice a r.ks.length c] 54)).1)
  clear h
  simp only [rxv]
  go_enter Try.func46, Try.ntmps46
  go_wp2_with fail
  refine (countdown_any r _ A a c 64 H.out (by omega) (by omega)).mono ?_
  rintro e w' ⟨rfl, hE⟩
  have HE := Lib.hid ((Ext.alloc w _).trans hE)
  clear hE
  go_wp2_with fail
  go_ret
  exact ⟨rfl, HE.out⟩

theorem equal_any (x y : Rx) (w : World) (A B : Nat → Prop) (a a' : Option Addr) (c c' : Nat) (h1 : RxRep w A x a c) (h2 : RxRep w B y a' c') :
    Calls Try.prog 55 #[rxv x a c, rxv y a' c'] w fun e w' => e = .returned (.bool (rcmp x y == 0)) ∧ Ext w w' := by
  have H3 : Ext w ((w.alloc (.cells #[.int .i64 x.k, .int .u8 x.lo, .int .u8 x.hi, .slice a x.ks.length c] 54)).alloc (.cells #[.int .i64 y.k, .int .u8 y.lo, .int .u8 y.hi, .slice a' y.ks.length c'] 54)) := (Ext.alloc _ _).trans (Ext.alloc _ _)
  have HE3 := Lib.hid H3
  have H1 := Lib.hid (h1.ext H3.1)
  have H2 := Lib.hid (h2.ext H3.1)
  clear H3 h1 h2
  simp only [rxv]
  go_enter Try.func55, Try.ntmps55
  go_wp2_with fail
  refine (compare_any x _ A B y a a' c c' H1.out H2.out).mono ?_
  rintro e w' ⟨rfl, hE⟩
  have HE := Lib.hid (HE3.out.trans hE)
  clear hE
  go_wp2_with fail
  go_ret
  exact ⟨rfl, HE.out⟩

/-- a predicate of expressions, at the elements of a list: in every world that is as w was below block 'base' -/
def PredC (g : Nat) (lb : Array Value) (S : Rx → Prop) (p : Rx → Bool) (w : World) (base : Nat) : Prop :=
  ∀ (W : World) (A : Nat → Prop) (x : Rx) (a : Option Addr) (c : Nat), Below base w W → S x → RxRep W A x a c → Calls Try.prog g (#[rxv x a c] ++ lb) W fun e w' => e = .returned (.bool (p x)) ∧ Ext W w'
theorem PredC.later {g : Nat} {lb : Array Value} {S : Rx → Prop} {p : Rx → Bool} {w w' : World} {base : Nat} (h : PredC g lb S p w base) (hb : Below base w w') : PredC g lb S p w' base :=
  fun W A x a c hW hS hx => h W A x a c (hb.trans hW) hS hx

set_option maxHeartbeats 400000 in
theorem indexFunc_any (ks : List Rx) (g : Nat) (lb : Array Value) (eg : ∀ args w, (callFunc g args).run Try.prog w = .ok (.enter g args) w) (p : Rx → Bool) (w : World) (A : Nat → Prop) (a : Option Addr) (c : Nat) (fa : Nat → Option Addr) (fc : Nat → Nat)
    (base : Nat) (hbase : base ≤ w.heap.size) (h1 : RxsRep w A ks a c fa fc) (hp : PredC g lb (· ∈ ks) p w base) :
    Calls Try.prog 66 #[.slice a ks.length c, .func (.func g) #[] lb] w fun e w' => e = .returned (.int .i64 (fidx p ks)) ∧ Ext w w' := by
  have hl1 := h1.1
  have H1 := Lib.hid h1
  have HP := Lib.hid hp
  clear h1 hp
  go_enter Try.func66, Try.ntmps66
  go_wp2
  go_loopw [8] (fun iv wr => ∃ (i : Nat), i ≤ ks.length ∧ iv = .int .i64 i ∧ Hid (∀ (j : Nat) (y : Rx), j < i → ks[j]? = some y → p y = false) ∧ Ext w wr)
    (fun i _ => ks.length - (intOf i).toNat)
  case atStart => exact ⟨0, Nat.zero_le _, rfl, Lib.hid (by intro j y hj; omega), Ext.refl _⟩
  case round =>
    obtain ⟨i, hi, rfl, HC, hext⟩ := hrel
    by_cases hlt : i < ks.length
    · obtain ⟨b, o, x, rfl, hA, hbb, hx, ⟨g0, g1, g2, g3⟩, hxr⟩ := (H1.out.ext hext.1).at hlt
      have HX := Lib.hid hx
      have HCALL := Lib.hid (HP.out wr A x (fa i) (fc i) (hext.1.mono hbase) (List.mem_of_getElem? hx) hxr)
      clear hx hxr
      cases hq : p x with
      | true =>
        have HQ := Lib.hid hq
        rw [hq] at HCALL
        clear hq
        go_wp2_with fail
        refine HCALL.out.mono ?_
        rintro e w' ⟨rfl, hE⟩
        have HE := Lib.hid (hext.trans hE)
        clear hE
        go_wp2_with fail
        go_ret
        exact ⟨ret_i64 (fidx_hit p ks i x HX.out HQ.out HC.out).symm, HE.out⟩
      | false =>
        have HQ := Lib.hid hq
        rw [hq] at HCALL
        clear hq
        go_wp2_with fail
        refine HCALL.out.mono ?_
        rintro e w' ⟨rfl, hE⟩
        have HE := Lib.hid (hext.trans hE)
        clear hE
        go_wp2_with fail
        go_roundw
        case rel =>
          refine ⟨i + 1, by omega, by go_num, Lib.hid (fun j y hj hy => ?_), HE.out⟩
          by_cases hji : j = i
          · subst hji
            have := HX.out
            rw [hy] at this
            cases this
            exact HQ.out
          · exact HC.out j y (by omega) hy
        case measure => simp [intOf]; omega
    · go_wp2_with fail
      go_ret
      exact ⟨ret_i64 (fidx_miss p ks (fun j y hy => HC.out j y (by have := (List.getElem?_eq_some_iff.1 hy).1; omega) hy)).symm, hext⟩

theorem containsFunc_any (ks : List Rx) (g : Nat) (lb : Array Value) (eg : ∀ args w, (callFunc g args).run Try.prog w = .ok (.enter g args) w) (p : Rx → Bool) (w : World) (A : Nat → Prop) (a : Option Addr) (c : Nat) (fa : Nat → Option Addr) (fc : Nat → Nat)
    (base : Nat) (hbase : base ≤ w.heap.size) (h1 : RxsRep w A ks a c fa fc) (hp : PredC g lb (· ∈ ks) p w base) :
    Calls Try.prog 53 #[.slice a ks.length c, .func (.func g) #[] lb] w fun e w' => e = .returned (.bool (ks.any p)) ∧ Ext w w' := by
  have H1 := Lib.hid h1
  have HP := Lib.hid hp
  clear h1 hp
  rw [← fidx_any]
  go_enter Try.func53, Try.ntmps53
  go_wp2_with fail
  refine (indexFunc_any ks g lb eg p w A a c fa fc base hbase H1.out HP.out).mono ?_
  rintro e w' ⟨rfl, hE⟩
  have HE := Lib.hid hE
  clear hE
  go_wp2_with fail
  go_ret
  exact ⟨rfl, HE.out⟩
end Go.Proofs.Ytbepohpppailnaa
