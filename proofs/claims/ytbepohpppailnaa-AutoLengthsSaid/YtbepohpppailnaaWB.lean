/- Walks: the closures of forms. -/
import Derived.Test.YtbepohpppailnaaWA
import Derived.Test.YtbepohpppailnaaMP
set_option linter.unusedSimpArgs false
set_option linter.unusedVariables false
namespace Go.Proofs.Ytbepohpppailnaa
open Go.RowKit

theorem enters_zero : ∀ args w, (callFunc 54 args).run Try.prog w = .ok (.enter 54 args) w := by
  intro args w
  go_simp
/-- the closure that asks whether an expression is the captured one -/
theorem isZero_any (bu : Nat) (un : Rx) (au : Option Addr) (cu : Nat) (w : World) (base : Nat) (hu : rxAt w bu 0 un au cu) (hur : RxRep w (fun b => base ≤ b) un au cu) (hbu : bu < base) :
    PredC 54 #[.pointer (some ⟨bu, 0, none⟩)] (fun _ => True) (fun x => rcmp x un == 0) w base := by
  intro W A x a c hW _ hx
  have hu' := rxAt_keep hu (hW.block bu hbu)
  have hur' := hur.keep (fun b hb hn => hW.block b (by omega))
  have hbs : bu < W.heap.size := rxAt_lt hu'
  obtain ⟨u0, u1, u2, u3⟩ := hu'
  simp only [Nat.zero_add] at u1 u2 u3
  have hE0 := Ext.alloc W (.cells #[.int .i64 x.k, .int .u8 x.lo, .int .u8 x.hi, .slice a x.ks.length c] 54)
  have HE0 := Lib.hid hE0
  have H1 := Lib.hid (hx.ext hE0.1)
  have H2 := Lib.hid (hur'.ext hE0.1)
  clear hx hur' hur hu hE0 hW
  simp only [rxv]
  show Calls Try.prog 54 #[.agg #[.int .i64 x.k, .int .u8 x.lo, .int .u8 x.hi, .slice a x.ks.length c], .pointer (some ⟨bu, 0, none⟩)] W _
  go_enter Try.func54, Try.ntmps54
  go_wp2_with fail
  refine (equal_any x un _ A (fun b => base ≤ b) a au c cu H1.out H2.out).mono ?_
  rintro e w' ⟨rfl, hE⟩
  have HE := Lib.hid (HE0.out.trans hE)
  clear hE
  go_wp2_with fail
  go_ret
  exact ⟨rfl, HE.out⟩

/-- a function from expressions to expressions: what it leaves -/
def FnRx (w : World) (A : Nat → Prop) (y : Rx) (e : Ending) (w' : World) : Prop :=
  ∃ a' c', e = .returned (rxv y a' c') ∧ Below w.heap.size w w' ∧ RxRep w' (fun b => A b ∧ b < w.heap.size) y a' c'

theorem itself_any (r : Rx) (w : World) (A : Nat → Prop) (a : Option Addr) (c : Nat) (h : RxRep w A r a c) :
    Calls Try.prog 49 #[rxv r a c] w (FnRx w A r) := by
  have hold := h.old
  have H := Lib.hid hold
  have HE0 := Lib.hid ((Ext.alloc w (.cells #[.int .i64 r.k, .int .u8 r.lo, .int .u8 r.hi, .slice a r.ks.length c] 54)).trans (Ext.alloc _ (.cells #[.int .i64 0, .int .u8 0, .int .u8 0, .slice none 0 0] 54)))
  clear h hold
  simp only [rxv]
  go_enter Try.func49, Try.ntmps49
  go_wp2
  refine bodyPost_ret (v := .agg #[.int .i64 r.k, .int .u8 r.lo, .int .u8 r.hi, .slice a r.ks.length c]) (by simp [results, Try.results49, go_sem]) rfl ?_
  have hE := ((Ext.alloc w (.cells #[.int .i64 r.k, .int .u8 r.lo, .int .u8 r.hi, .slice a r.ks.length c] 54)).trans (Ext.alloc _ (.cells #[.int .i64 r.k, .int .u8 r.lo, .int .u8 r.hi, .slice a r.ks.length c] 54))).1
  exact ⟨a, c, rfl, hE, (H.out.ext hE).avoid fun b _ hh => .inl hh.1⟩

/-- what a function that laid two blocks and hands back old memory leaves -/
theorem FnRx.two {w : World} {A : Nat → Prop} {y : Rx} {a : Option Addr} {c : Nat} (h : RxRep w (fun b => A b ∨ w.heap.size ≤ b) y a c) (o1 o2 : Obj) : FnRx w A y (.returned (rxv y a c)) ((w.alloc o1).alloc o2) :=
  have hE := ((Ext.alloc w o1).trans (Ext.alloc _ o2)).1
  ⟨a, c, rfl, hE, (h.ext hE).avoid fun _ _ hh => .inl hh.1⟩
theorem FnRx.three {w : World} {A : Nat → Prop} {y : Rx} {a : Option Addr} {c : Nat} (h : RxRep w (fun b => A b ∨ w.heap.size ≤ b) y a c) (o1 o2 o3 : Obj) : FnRx w A y (.returned (rxv y a c)) (((w.alloc o1).alloc o2).alloc o3) :=
  have hE := (((Ext.alloc w o1).trans (Ext.alloc _ o2)).trans (Ext.alloc _ o3)).1
  ⟨a, c, rfl, hE, (h.ext hE).avoid fun _ _ hh => .inl hh.1⟩

set_option maxHeartbeats 800000 in
theorem notF_any (ks : List Rx) (x : Rx) (hx : ks = [x]) (hxk : x.k = 6 → ∃ y, x.ks = [y]) (w : World) (A : Nat → Prop) (a : Option Addr) (c : Nat) (h : RxRep w A (.mk 6 0 0 ks) a c) :
    Calls Try.prog 59 #[rxv (.mk 6 0 0 ks) a c] w (FnRx w A (notF ks)) := by
  have hold := h.old
  obtain ⟨_, _, _, fa, fc, hs⟩ := hold.kids
  simp only [Rx.ks_mk] at hs
  subst hx
  obtain ⟨b, o, x', rfl, hA, hbb, hx', ⟨g0, g1, g2, g3⟩, hxr⟩ := hs.at (i := 0) (by simp)
  simp only [List.getElem?_cons_zero, Option.some.injEq] at hx'
  subst hx'
  simp only [Nat.zero_mul, Nat.add_zero] at g0 g1 g2 g3
  by_cases hk6 : x.k = 6
  · obtain ⟨y, hy⟩ := hxk hk6
    obtain ⟨_, _, _, fa', fc', hxs⟩ := hxr.kids
    rw [hy] at hxs
    obtain ⟨b2, o2, y', hfa, hA2, hbb2, hy', ⟨p0, p1, p2, p3⟩, hyr⟩ := hxs.at (i := 0) (by simp)
    simp only [List.getElem?_cons_zero, Option.some.injEq] at hy'
    subst hy'
    simp only [Nat.zero_mul, Nat.add_zero] at p0 p1 p2 p3
    have hN : notF [x] = y := by simp [notF, hk6, hy]
    rw [hN]
    rw [hfa, hy] at g3
    rw [hk6] at g0
    have HY := Lib.hid hyr
    clear hxs hxr hs hold h hN hy hfa hk6 hyr
    simp only [rxv, Rx.k_mk, Rx.lo_mk, Rx.hi_mk, Rx.ks_mk, List.length_singleton, List.length_cons, List.length_nil, Nat.zero_add] at *
    go_enter Try.func59, Try.ntmps59
    go_wp2
    exact bodyPost_ret (v := .agg #[.int .i64 y.k, .int .u8 y.lo, .int .u8 y.hi, .slice (fa' 0) y.ks.length (fc' 0)]) (by simp [results, Try.results59, go_sem]) rfl (FnRx.two HY.out _ _)
  · have hN : notF [x] = .mk 6 0 0 [x] := by simp [notF, hk6]
    rw [hN]
    have hk6' : (x.k == 6) = false := ieq_f hk6
    have HO := Lib.hid hold
    clear hxr hs hold h hN hk6
    simp only [rxv, Rx.k_mk, Rx.lo_mk, Rx.hi_mk, Rx.ks_mk, List.length_singleton, List.length_cons, List.length_nil, Nat.zero_add] at *
    go_enter Try.func59, Try.ntmps59
    go_wp2
    exact bodyPost_ret (v := .agg #[.int .i64 6, .int .u8 0, .int .u8 0, .slice (some ⟨b, o, none⟩) 1 c]) (by simp [results, Try.results59, go_sem]) rfl (FnRx.two (y := .mk 6 0 0 [x]) HO.out _ _)

set_option maxHeartbeats 1600000 in
theorem starF_any (ks : List Rx) (x : Rx) (hx : ks = [x]) (w : World) (A : Nat → Prop) (a : Option Addr) (c : Nat) (h : RxRep w A (.mk 7 0 0 ks) a c)
    (be bv : Nat) (ae av : Option Addr) (ce cv : Nat) (hem : rxAt w be 0 emptyR ae ce) (hemr : RxRep w A emptyR ae ce) (hev : rxAt w bv 0 everything av cv) (hevr : RxRep w A everything av cv) :
    Calls Try.prog 60 #[rxv (.mk 7 0 0 ks) a c, .pointer (some ⟨be, 0, none⟩), .pointer (some ⟨bv, 0, none⟩)] w (FnRx w A (starF ks)) := by
  have hold := h.old
  obtain ⟨_, _, _, fa, fc, hs⟩ := hold.kids
  simp only [Rx.ks_mk] at hs
  subst hx
  obtain ⟨b, o, x', rfl, hA, hbb, hx', ⟨g0, g1, g2, g3⟩, hxr⟩ := hs.at (i := 0) (by simp)
  simp only [List.getElem?_cons_zero, Option.some.injEq] at hx'
  subst hx'
  simp only [Nat.zero_mul, Nat.add_zero] at g0 g1 g2 g3
  have hbe := rxAt_lt hem
  have hbv := rxAt_lt hev
  have hbe1 : be < w.heap.size + 1 := by omega
  have hbe2 : be < w.heap.size + 1 + 1 := by omega
  have hbv1 : bv < w.heap.size + 1 := by omega
  have hbv2 : bv < w.heap.size + 1 + 1 := by omega
  obtain ⟨m0, m1, m2, m3⟩ := hem
  obtain ⟨v0, v1, v2, v3⟩ := hev
  simp only [Nat.zero_add] at m1 m2 m3 v1 v2 v3
  simp only [emptyR, everything, Rx.k_mk, Rx.lo_mk, Rx.hi_mk, Rx.ks_mk, List.length_nil, List.length_singleton, Int.natCast_zero] at m0 m1 m2 m3 v0 v1 v2 v3
  have HEM := Lib.hid hemr.old
  have HEV := Lib.hid hevr
  have HO := Lib.hid hold
  have HX := Lib.hid hxr
  clear hxr hs hold h hemr hevr
  by_cases h01 : x.k = 0 ∨ x.k = 1
  · have hN : starF [x] = emptyR := by simp [starF, h01]
    rw [hN]
    simp only [rxv, Rx.k_mk, Rx.lo_mk, Rx.hi_mk, Rx.ks_mk, List.length_singleton, List.length_cons, List.length_nil, Nat.zero_add]
    rcases h01 with h0 | h0
    all_goals
      rw [h0] at g0
      clear h0 hN
      go_enter Try.func60, Try.ntmps60
      go_wp2
      exact bodyPost_ret (v := .agg #[.int .i64 1, .int .u8 0, .int .u8 0, .slice ae 0 ce]) (by simp [results, Try.results60, go_sem]) rfl (FnRx.three (y := .mk 1 0 0 []) HEM.out _ _ _)
  · have hk0 : (x.k == 0) = false := ieq_f (by omega)
    have hk1 : (x.k == 1) = false := ieq_f (by omega)
    by_cases h7 : x.k = 7
    · have hN : starF [x] = x := by simp [starF, h01, h7]
      rw [hN]
      have hk7 : (x.k == 7) = true := ieq_t h7
      simp only [rxv, Rx.k_mk, Rx.lo_mk, Rx.hi_mk, Rx.ks_mk, List.length_singleton, List.length_cons, List.length_nil, Nat.zero_add]
      clear h01 hN h7
      go_enter Try.func60, Try.ntmps60
      go_wp2
      exact bodyPost_ret (v := .agg #[.int .i64 x.k, .int .u8 x.lo, .int .u8 x.hi, .slice (fa 0) x.ks.length (fc 0)]) (by simp [results, Try.results60, go_sem]) rfl (FnRx.three HX.out _ _ _)
    · have hk7 : (x.k == 7) = false := ieq_f h7
      have hE3 := ((Ext.alloc w (.cells #[.int .i64 7, .int .u8 0, .int .u8 0, .slice (some ⟨b, o, none⟩) 1 c] 54)).trans (Ext.alloc _ (.cells #[.int .i64 0, .int .u8 0, .int .u8 0, .slice none 0 0] 54))).trans (Ext.alloc _ (.cells #[.int .i64 x.k, .int .u8 x.lo, .int .u8 x.hi, .slice (fa 0) x.ks.length (fc 0)] 54))
      have HE3 := Lib.hid hE3
      have HCALL := Lib.hid (equal_any x everything _ _ _ (fa 0) av (fc 0) cv (HX.out.ext hE3.1) (HEV.out.ext hE3.1))
      clear hE3
      cases hq : (rcmp x everything == 0) with
      | true =>
        rw [hq] at HCALL
        have hN : starF [x] = x := by simp [starF, h01, h7]; intro h; simp at hq; exact absurd hq h
        rw [hN]
        clear hN hq h01 h7
        simp only [rxv, Rx.k_mk, Rx.lo_mk, Rx.hi_mk, Rx.ks_mk, List.length_singleton, List.length_cons, List.length_nil, Nat.zero_add] at *
        go_enter Try.func60, Try.ntmps60
        go_wp2_with fail
        refine HCALL.out.mono ?_
        rintro e w1 ⟨rfl, hE⟩
        obtain ⟨⟨r0, r1, r2, r3⟩, f0, f1, f2, f3⟩ := ext_box3 hE
        obtain ⟨t0, t1, t2, t3⟩ := ext_box3c hE
        have HE := Lib.hid hE
        clear hE
        go_wp2_with fail
        refine bodyPost_ret (v := .agg #[.int .i64 x.k, .int .u8 x.lo, .int .u8 x.hi, .slice (fa 0) x.ks.length (fc 0)]) (by simp [results, Try.results60, go_sem, r0, r1, r2, r3]) rfl ?_
        have hEE := (HE3.out.trans HE.out).1
        refine ⟨fa 0, fc 0, rfl, set4_below hEE (by omega) _ _ _ _, ?_⟩
        exact ((HX.out.ext hEE).keep (fun b hb hn => set4_other _ _ _ _ _ _ b (fun e => hn (.inr (by omega))))).avoid (fun b _ hh => .inl hh.1)
      | false =>
        rw [hq] at HCALL
        have hN : starF [x] = .mk 7 0 0 [x] := by simp only [starF, if_neg h01]; rw [if_neg]; intro h; rcases h with h | h; exact h7 h; rw [h] at hq; cases hq
        rw [hN]
        clear hN hq h01 h7
        simp only [rxv, Rx.k_mk, Rx.lo_mk, Rx.hi_mk, Rx.ks_mk, List.length_singleton, List.length_cons, List.length_nil, Nat.zero_add] at *
        go_enter Try.func60, Try.ntmps60
        go_wp2_with fail
        refine HCALL.out.mono ?_
        rintro e w1 ⟨rfl, hE⟩
        obtain ⟨⟨r0, r1, r2, r3⟩, f0, f1, f2, f3⟩ := ext_box3 hE
        obtain ⟨t0, t1, t2, t3⟩ := ext_box3a hE
        have HE := Lib.hid hE
        clear hE
        go_wp2_with fail
        refine bodyPost_ret (v := .agg #[.int .i64 7, .int .u8 0, .int .u8 0, .slice (some ⟨b, o, none⟩) 1 c]) (by simp [results, Try.results60, go_sem, r0, r1, r2, r3]) rfl ?_
        have hEE := (HE3.out.trans HE.out).1
        refine ⟨_, c, rfl, set4_below hEE (by omega) _ _ _ _, ?_⟩
        exact ((HO.out.ext hEE).keep (fun b hb hn => set4_other _ _ _ _ _ _ b (fun e => hn (.inr (by omega))))).avoid (fun b _ hh => .inl hh.1)
end Go.Proofs.Ytbepohpppailnaa
