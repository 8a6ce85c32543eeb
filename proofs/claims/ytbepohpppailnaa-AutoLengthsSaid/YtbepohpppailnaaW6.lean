/- Walks: clone, limited. -/
import Derived.Test.YtbepohpppailnaaW5
import Derived.Test.YtbepohpppailnaaBP
set_option linter.unusedSimpArgs false
set_option linter.unusedVariables false
namespace Go.Proofs.Ytbepohpppailnaa
open Go.RowKit

theorem tabR : Tab Try.prog 52 54 := ⟨Try.underlying52, by kernel_rfl⟩

set_option maxHeartbeats 800000 in
theorem clone_any (r : Rx) : nodes r ≤ 1000000 → ∀ (w : World) (A : Nat → Prop) (a : Option Addr) (c : Nat), RxRep w A r a c →
   Calls Try.prog 48 #[rxv r a c] w fun e w' => ∃ a' c', e = .returned (rxv r a' c') ∧ Below w.heap.size w w' ∧ RxRep w' (fun b => b < w.heap.size) r a' c' := by
  induction r using Rx.ind with
  | h k lo hi ks ih =>
  intro hn w A a c hr
  obtain ⟨hk, hlo, hhi, fa, fc, hs⟩ := hr.kids
  have hl := hs.1
  simp only [Rx.k_mk, Rx.lo_mk, Rx.hi_mk, Rx.ks_mk] at *
  have hnl : nodesL ks ≤ 1000000 := by simp only [nodes] at hn; omega
  have hkl := nodesL_length ks
  have HI := Lib.hid ih
  have HS := Lib.hid hs
  clear ih hs hr hn
  simp only [rxv, Rx.k_mk, Rx.lo_mk, Rx.hi_mk, Rx.ks_mk]
  have HE1 := Lib.hid ((Ext.alloc w (.cells #[.int .i64 k, .int .u8 lo, .int .u8 hi, .slice a ks.length c] 54)).trans (Ext.alloc _ (.cells #[.int .i64 0, .int .u8 0, .int .u8 0, .slice none 0 0] 54)))
  go_enter Try.func48, Try.ntmps48
  go_wp2
  go_loopw [3, 9] (fun sv iv wr => ∃ (l : List Pl) (g : Option Addr) (cap : Nat), l.length ≤ ks.length ∧ iv = .int .i64 l.length ∧ sv = .slice g l.length cap ∧
      Hid (OwnRx wr (fun b => b < w.heap.size + 2) (w.heap.size + 2) 54 (.slice g l.length cap) l) ∧ Hid (l.map Pl.r = ks.take l.length) ∧
      Below (w.heap.size + 2) ((w.alloc (.cells #[.int .i64 k, .int .u8 lo, .int .u8 hi, .slice a ks.length c] 54)).alloc (.cells #[.int .i64 0, .int .u8 0, .int .u8 0, .slice none 0 0] 54)) wr)
    (fun _ i _ => ks.length - (intOf i).toNat)
  case atStart => exact ⟨[], none, 0, Nat.zero_le _, rfl, rfl, Lib.hid (OwnRx.nil _ _ _ _), Lib.hid (by simp), Below.refl _ _⟩
  case round =>
    obtain ⟨l, g, cap, hle, rfl, rfl, HO, HM, hb⟩ := hrel
    have hsz : w.heap.size + 2 ≤ wr.heap.size := by have := hb.size; simp at this; omega
    have hbw : Below w.heap.size w wr := HE1.out.1.trans (hb.mono (by omega))
    by_cases hlt : l.length < ks.length
    · obtain ⟨b, o, x, rfl, hA, hbb, hx, hat, hxr⟩ := (HS.out.ext hbw).at hlt
      obtain ⟨g0, g1, g2, g3⟩ := hat
      have hE2 := Ext.alloc wr (.cells #[.int .i64 x.k, .int .u8 x.lo, .int .u8 x.hi, .slice (fa l.length) x.ks.length (fc l.length)] 54)
      have hxm := nodesL_mem (List.mem_of_getElem? hx)
      have HCALL := Lib.hid (HI.out x (List.mem_of_getElem? hx) (by omega) _ A (fa l.length) (fc l.length) (hxr.ext hE2.1))
      have HX := Lib.hid hx
      have HE2 := Lib.hid hE2
      have HB := Lib.hid hb
      clear hx hxr hE2 hxm hb hbw
      go_wp2_with fail
      refine HCALL.out.mono ?_
      rintro e w1 ⟨a1, c1, rfl, hb1, hr1⟩
      have hb2 : Below wr.heap.size wr w1 := HE2.out.1.trans (hb1.mono (by simp))
      have hb3 := ext_trans hb2 ((Ext.alloc w1 (.cells #[.int .i64 x.k, .int .u8 x.lo, .int .u8 x.hi, .slice a1 x.ks.length c1] 54)).1)
      have hown := HO.out.ext hb3
      have hs1 := hb2.size
      have hlt1 := HO.out.1.lt
      have hsr : RxsRep (w1.alloc (.cells #[.int .i64 x.k, .int .u8 x.lo, .int .u8 x.hi, .slice a1 x.ks.length c1] 54)) (fun b => b < w.heap.size + 2 ∨ (Value.slice g l.length cap).ownBlock = some b) [x] (some ⟨w1.heap.size, 0, none⟩) 1 (fun _ => a1) (fun _ => c1) := by
        refine RxsRep.one (rxAt_box _ _ _ _ _) ((hr1.ext (Ext.alloc _ _).1).avoid fun b _ hh => ?_) ?_
        · rcases hh with hh | hh
          · simp; omega
          · have := (hlt1 b hh).2; simp; omega
        · intro hh
          rcases hh with hh | hh
          · omega
          · have := (hlt1 _ hh).2; omega
      have HB3 := Lib.hid hb3
      have HOWN := Lib.hid hown
      have HSR := Lib.hid hsr
      clear hb2 hr1 hb1 hb3 hown hlt1 hsr
      simp only [rxv]
      go_wp2_with (at_builtin; refine wpList_append_rx rfl _ _ 52 54 rfl tabR (fun b => b < w.heap.size + 2) (w.heap.size + 2) _ l rfl HOWN.out (by simp; omega) [x] (some ⟨w1.heap.size, 0, none⟩) 1 (fun _ => a1) (fun _ => c1) rfl HSR.out (by simp; omega) (fun b hb => by simp; omega) ?_; intro g' cap' w2 hown2 hb4; have HO2 := Lib.hid hown2; have HB4 := Lib.hid hb4; clear hown2 hb4)
      go_roundw
      case rel => exact ⟨l ++ [⟨x, a1, c1⟩], g', cap', by simp; omega, by simp, by simp, Lib.hid (by simpa [pls_one] using HO2.out), Lib.hid (by rw [List.map_append, HM.out]; simp only [List.map_cons, List.map_nil, List.length_append, List.length_singleton]; rw [List.take_add_one, HX.out]; rfl), (HB.out.trans (HB3.out.mono (by omega))).trans HB4.out⟩
      case measure => simp [intOf]; omega
    · have he : l.length = ks.length := by omega
      have hm : l.map Pl.r = ks := by rw [HM.out, he]; simp
      obtain ⟨b0, b1, b2, b3⟩ := below_box4 hb (by omega)
      obtain ⟨⟨r0, r1, r2, r3⟩, f0, f1, f2, f3⟩ := below_box4' hb (by omega)
      have HB := Lib.hid hb
      have HEQ := Lib.hid he
      have HMM := Lib.hid hm
      have HBW := Lib.hid hbw
      clear hb he hm hbw
      go_wp2_with fail
      refine bodyPost_ret (v := .agg #[.int .i64 k, .int .u8 lo, .int .u8 hi, .slice g l.length cap]) (by simp [results, Try.results48, go_sem, r0, r1, r2, r3]) rfl ?_
      refine ⟨g, cap, by rw [HEQ.out], set4_below HBW.out (by omega) _ _ _ _, ?_⟩
      have hrep := HO.out.rep (fun b hb hh => by omega)
      have hrx := hrep.rx (k := k) (lo := lo) (hi := hi) hk hlo hhi
      rw [HMM.out] at hrx
      exact (hrx.keep (fun b hb hn => set4_other _ _ _ _ _ _ b (by omega))).avoid (fun b _ hh => by omega)

theorem limited_any (r : Rx) (hn : nodes r ≤ 1000000) (w : World) (A : Nat → Prop) (a : Option Addr) (c : Nat) (h : RxRep w A r a c) :
   Calls Try.prog 37 #[rxv r a c] w fun e w' => ∃ a' c', e = .returned (.tuple #[rxv (if nodes r ≤ 64 then r else .mk 0 0 0 []) a' c', .int .i64 (if nodes r ≤ 64 then 0 else 4)]) ∧ Below w.heap.size w w' ∧ RxRep w' (fun b => b < w.heap.size) (if nodes r ≤ 64 then r else .mk 0 0 0 []) a' c' := by
  have hE0 := (Ext.alloc w (.cells #[.int .i64 r.k, .int .u8 r.lo, .int .u8 r.hi, .slice a r.ks.length c] 54)).trans (Ext.alloc _ (.cells #[.int .i64 0, .int .u8 0, .int .u8 0, .slice none 0 0] 54))
  have H := Lib.hid (h.ext hE0.1)
  have HE0 := Lib.hid hE0
  have T := tooLarge_any r
  have hcd := cdown_spec r 64 (by omega)
  clear h hE0
  by_cases hs : nodes r ≤ 64
  · have hlt : decide (cdown r 64 < 0) = false := by have := hcd.1 (by omega); simp; omega
    rw [hlt] at T
    have HT := Lib.hid T
    have HC := Lib.hid (clone_any r hn)
    simp only [if_pos hs]
    clear T hcd hlt hs hn
    simp only [rxv]
    go_enter Try.func37, Try.ntmps37
    go_wp2_with fail
    refine (HT.out _ A a c H.out).mono ?_
    rintro e w1 ⟨rfl, hE⟩
    obtain ⟨b0, b1, b2, b3⟩ := below_box4 hE.1 (by simp only [World.size_alloc]; omega)
    have HE := Lib.hid hE
    clear hE
    go_wp2_with fail
    refine (HC.out _ A a c (H.out.ext HE.out.1)).mono ?_
    rintro e w2 ⟨a2, c2, rfl, hb2, hr2⟩
    have hb3 : Below (w.heap.size + 2) ((w.alloc (.cells #[.int .i64 r.k, .int .u8 r.lo, .int .u8 r.hi, .slice a r.ks.length c] 54)).alloc (.cells #[.int .i64 0, .int .u8 0, .int .u8 0, .slice none 0 0] 54)) w2 := (HE.out.1.trans (hb2.mono HE.out.1.size)).mono (by simp)
    obtain ⟨⟨r0, r1, r2, r3⟩, f0, f1, f2, f3⟩ := below_box4' hb3 (by omega)
    have HB3 := Lib.hid hb3
    have HR2 := Lib.hid hr2
    have hsz := HE.out.1.size
    clear hb3 hr2 hb2 b0 b1 b2 b3
    simp only [rxv]
    go_wp2_with fail
    refine bodyPost_ret (v := .tuple #[.agg #[.int .i64 r.k, .int .u8 r.lo, .int .u8 r.hi, .slice a2 r.ks.length c2], .int .i64 0]) (by simp [results, Try.results37, go_sem, r0, r1, r2, r3]) rfl ?_
    refine ⟨a2, c2, rfl, set4_below (HE0.out.1.trans (HB3.out.mono (by omega))) (by omega) _ _ _ _, ?_⟩
    simp only [World.size_alloc] at hsz
    exact (HR2.out.keep (fun b hb hn => set4_other _ _ _ _ _ _ b (by omega))).avoid (fun b _ hh => by omega)
  · have hlt : decide (cdown r 64 < 0) = true := by have := hcd.2 (by omega); simp; omega
    rw [hlt] at T
    have HT := Lib.hid T
    simp only [if_neg hs]
    clear T hcd hlt hs hn
    simp only [rxv, Rx.k_mk, Rx.lo_mk, Rx.hi_mk, Rx.ks_mk, List.length_nil]
    go_enter Try.func37, Try.ntmps37
    go_wp2_with fail
    refine (HT.out _ A a c H.out).mono ?_
    rintro e w1 ⟨rfl, hE⟩
    obtain ⟨⟨r0, r1, r2, r3⟩, f0, f1, f2, f3⟩ := below_box4' hE.1 (by simp only [World.size_alloc]; omega)
    have HE := Lib.hid hE
    have hsz := hE.1.size
    clear hE
    go_wp2_with fail
    refine bodyPost_ret (v := .tuple #[.agg #[.int .i64 0, .int .u8 0, .int .u8 0, .slice none 0 0], .int .i64 4]) (by simp [results, Try.results37, go_sem, r0, r1, r2, r3]) rfl ?_
    refine ⟨none, 0, rfl, set4_below (HE0.out.1.trans (HE.out.1.mono (by simp; omega))) (by omega) _ _ _ _, ?_⟩
    exact .mk (fun _ => none) (fun _ => 0) (by omega) (by omega) (by omega) (by simp) (by omega) (by simp) (by simp) (by simp)
end Go.Proofs.Ytbepohpppailnaa
