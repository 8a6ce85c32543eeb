/- Walks: Derive. -/
import Derived.Test.YtbepohpppailnaaWN
import Derived.Deep.RegionLaw
set_option linter.unusedSimpArgs false
set_option linter.unusedVariables false
namespace Go.Proofs.Ytbepohpppailnaa
open Go.RowKit
attribute [local go_sem ↓] Go.wp_at_zero Go.wp_at_succ

set_option maxHeartbeats 1600000 in
theorem Derive_bad (r : Rx) (hv : rvalid r ≠ 0) (ch : Nat) (hch : ch < 256) (w : World) (A : Nat → Prop) (a : Option Addr) (c : Nat) (h : RxRep w A r a c) :
    Calls Try.prog 32 #[rxv r a c, .int .u8 ch] w fun e w' => e = .returned (.tuple #[rxv noneR none 0, .int .i64 (rvalid r)]) ∧ Below w.heap.size w w' := by
  have hE0 := (Ext.alloc w (.cells #[.int .i64 r.k, .int .u8 r.lo, .int .u8 r.hi, .slice a r.ks.length c] 54)).trans (Ext.alloc _ (.cells #[.int .i64 0, .int .u8 0, .int .u8 0, .slice none 0 0] 54))
  have H := Lib.hid (h.ext hE0.1)
  have HE0 := Lib.hid hE0
  have HV := Lib.hid (rvalid_any r)
  have hvr : rvalid r = 4 ∨ rvalid r = 1 := by
    unfold rvalid at hv ⊢
    split
    · exact .inl rfl
    · split
      · rename_i h1 h2; rw [if_neg h1, if_pos h2] at hv; exact absurd rfl hv
      · exact .inr rfl
  clear h hE0 hv
  simp only [rxv]
  go_enter Try.func32, Try.ntmps32
  go_wp2_with fail
  refine (HV.out _ A a c H.out).mono ?_
  rintro e w' ⟨rfl, hE⟩
  have hB := hE.1
  simp only [World.size_alloc] at hB
  obtain ⟨⟨r0, r1, r2, r3⟩, f0, f1, f2, f3⟩ := below_box4' hB (by omega)
  have hs1 : w.heap.size + 1 < w'.heap.size := by have := hB.size; simp only [World.size_alloc] at this; omega
  have HB := Lib.hid (HE0.out.1.trans (hB.mono (by omega)))
  clear hE hB
  rcases hvr with hv | hv
  all_goals
    rw [hv]
    go_wp2_with fail
    refine bodyPost_ret (v := .tuple #[.agg #[.int .i64 0, .int .u8 0, .int .u8 0, .slice none 0 0], .int .i64 (rvalid r)]) (by simp [results, Try.results32, go_sem, r0, r1, r2, r3, hv]) rfl ⟨rfl, ?_⟩
    exact set4_below HB.out (by omega) _ _ _ _

set_option maxHeartbeats 1600000 in
theorem Derive_good (r : Rx) (hv : rvalid r = 0) (ch : Nat) (hch : ch < 256) (w : World) (A : Nat → Prop) (a : Option Addr) (c : Nat) (h : RxRep w A r a c) :
    Calls Try.prog 32 #[rxv r a c, .int .u8 ch] w fun e w' => ∃ a' c', e = .returned (.tuple #[rxv (rxLim (drv ch (nrm r))) a' c', .int .i64 (errLim (drv ch (nrm r)))]) ∧ Below w.heap.size w w' ∧ RxRep w' (fun b => b < w.heap.size) (rxLim (drv ch (nrm r))) a' c' := by
  obtain ⟨hp, hn⟩ := rvalid_zero hv
  have hnn := nrm_nodes r
  have hE0 := (Ext.alloc w (.cells #[.int .i64 r.k, .int .u8 r.lo, .int .u8 r.hi, .slice a r.ks.length c] 54)).trans (Ext.alloc _ (.cells #[.int .i64 0, .int .u8 0, .int .u8 0, .slice none 0 0] 54))
  have H := Lib.hid (h.old.ext hE0.1)
  have HE0 := Lib.hid hE0
  have V := rvalid_any r
  rw [hv] at V
  have HV := Lib.hid V
  have HNRM := Lib.hid (normal_any r hp (by omega))
  have hnd := drv_nodes_300 ch (nrm r) (by omega)
  have HLIM := Lib.hid (limited_any' (drv ch (nrm r)) (by omega))
  have HDRV := Lib.hid (derive_any ch hch (nrm r) (nrm_proper r hp) (by omega))
  clear h hE0 V hv hp hn hnn
  simp only [rxv]
  go_enter Try.func32, Try.ntmps32
  go_wp2_with fail
  refine (HV.out _ _ a c H.out).mono ?_
  rintro e w' ⟨rfl, hE⟩
  have hB := hE.1
  simp only [World.size_alloc] at hB
  obtain ⟨b0, b1, b2, b3⟩ := below_box4 hB (by omega)
  obtain ⟨⟨r0, r1, r2, r3⟩, f0, f1, f2, f3⟩ := below_box4' hB (by omega)
  have hsz : w.heap.size + 2 ≤ w'.heap.size := by have := hB.size; simp only [World.size_alloc] at this; omega
  have hs0 : w.heap.size < w'.heap.size := by omega
  have hs1 : w.heap.size + 1 < w'.heap.size := by omega
  have HB := Lib.hid (HE0.out.1.trans (hB.mono (by omega)))
  have H1 := Lib.hid (H.out.ext hE.1)
  clear hE hB
  go_wp2_with fail
  refine (forms_any _).mono ?_
  rintro e w3 ⟨f, rfl, hb3, hF⟩
  have c0 := below_cell hb3 hs0 b0
  have c1 := below_cell hb3 hs0 b1
  have c2 := below_cell hb3 hs0 b2
  have c3 := below_cell hb3 hs0 b3
  have hsz3 := hb3.size
  have HF := Lib.hid hF
  have HB3 := Lib.hid hb3
  have hs3 : w.heap.size < w3.heap.size := by omega
  clear hb3 hF
  go_wp2_with fail
  refine (HNRM.out w3 w3.heap.size f (fun b => w3.heap.size ≤ b) a c HF.out (Nat.le_refl _) (fun b hb hh => by omega) ((H1.out.ext HB3.out).avoid fun b hb hh => by have hh' : w3.heap.size ≤ b := hh; exact .inr (by omega))).mono ?_
  rintro e w4 ⟨a4, c4, rfl, hb4, hr4⟩
  have hsz4 := hb4.size
  have HB4 := Lib.hid hb4
  have HR4 := Lib.hid hr4
  clear hb4 hr4
  simp only [rxv]
  go_wp2_with fail
  refine (HDRV.out w4 w3.heap.size f (fun b => w3.heap.size ≤ b ∧ b < w3.heap.size) a4 c4 (HF.out.later HB4.out) hsz4 (fun b hb hh => by omega) HR4.out).mono ?_
  rintro e w6 ⟨a6, c6, rfl, hb6, hr6⟩
  have hsz6 := hb6.size
  have HB6 := Lib.hid hb6
  have HR6 := Lib.hid hr6
  clear hb6 hr6
  simp only [rxv]
  go_wp2_with fail
  refine (HLIM.out w6 _ a6 c6 HR6.out).mono ?_
  rintro e w5 ⟨a5, c5, rfl, hb5, hr5⟩
  have hsz5 := hb5.size
  have hW5 : Below w'.heap.size w' w5 := ((HB3.out.trans (HB4.out.mono hsz3)).trans (HB6.out.mono (by omega))).trans (hb5.mono (by omega))
  have q0 := below_free hW5 hs1 f0
  have q1 := below_free hW5 hs1 f1
  have q2 := below_free hW5 hs1 f2
  have q3 := below_free hW5 hs1 f3
  have k0 := below_cell hW5 hs1 r0
  have k1 := below_cell hW5 hs1 r1
  have k2 := below_cell hW5 hs1 r2
  have k3 := below_cell hW5 hs1 r3
  have hs5 : w.heap.size + 1 < w5.heap.size := by omega
  have HW5 := Lib.hid hW5
  have HR5 := Lib.hid hr5
  clear hb5 hr5 hW5
  simp only [rxv]
  all_goals
    generalize hy : rxLim (drv ch (nrm r)) = y at *
    generalize her : errLim (drv ch (nrm r)) = er at *
    go_wp2_with fail
    refine bodyPost_ret (v := .tuple #[.agg #[.int .i64 y.k, .int .u8 y.lo, .int .u8 y.hi, .slice a5 y.ks.length c5], .int .i64 er]) (by simp [results, Try.results32, go_sem, k0, k1, k2, k3]) rfl ?_
    rw [hy, her]
    refine ⟨a5, c5, rfl, set4_below (HB.out.trans (HW5.out.mono (by omega))) (by omega) _ _ _ _, ?_⟩
    exact (HR5.out.keep (fun b hb hn => set4_other _ _ _ _ _ _ b (by omega))).avoid (fun b _ hh => by omega)
end Go.Proofs.Ytbepohpppailnaa
