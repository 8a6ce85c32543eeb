/- Walks: Of's second closure. -/
import Derived.Test.YtbepohpppailnaaA6
import Derived.Deep.RegionLaw
set_option linter.unusedSimpArgs false
set_option linter.unusedVariables false
namespace Go.Proofs.Ytbepohpppailnaa
open Go.RowKit
attribute [local go_sem ↓] Go.wp_at_zero Go.wp_at_succ

theorem size_2drew (w : World) (o1 o2 : Obj) : (((w.alloc o1).alloc o2).drew).heap.size = w.heap.size + 2 := by show ((w.alloc o1).alloc o2).heap.size = _; simp only [World.size_alloc]
set_option maxRecDepth 100000 in
set_option maxHeartbeats 4000000 in
theorem Of2_any (s : Rx) (hv : rvalid s = 0) (cuts : List Int) (hcut : ∀ x ∈ cuts, 0 ≤ x ∧ x ≤ 255) (k : Nat) (hk : k < cuts.length) (w : World) (A A' : Nat → Prop) (a : Option Addr) (c : Nat) (hr : RxRep w A s a c) (cb : Nat) (ca : Option Addr) (cc : Nat)
    (hcell : w.cell? ⟨cb, 0, none⟩ = some (.slice ca cuts.length cc)) (hcuts : SlRep w A' (ints cuts) ca cc) :
    Calls Try.prog 31 #[rxv s a c, .int .i64 k, .pointer (some ⟨cb, 0, none⟩)] w fun e w' => ∃ a' c', e = .returned (.tuple #[rxv (rxLim (drv (cuts.getD k 0).toNat (nrm s))) a' c', .int .i64 (errLim (drv (cuts.getD k 0).toNat (nrm s)))]) ∧ Below w.heap.size w w' ∧ RxRep w' (fun b => b < w.heap.size) (rxLim (drv (cuts.getD k 0).toNat (nrm s))) a' c' := by
  have hE0 := (Ext.alloc w (.cells #[.int .i64 s.k, .int .u8 s.lo, .int .u8 s.hi, .slice a s.ks.length c] 54)).trans (Ext.alloc _ (.cells #[.int .i64 0, .int .u8 0, .int .u8 0, .slice none 0 0] 54))
  have hcb := World.block_lt_of_cell? w _ hcell
  simp only at hcb
  have hl := hcuts.bd
  simp only [List.length_map] at hl
  obtain ⟨b, o, rfl, hA, hb, hx⟩ := hcuts.at (i := k) (by simpa using hk)
  obtain ⟨x, hxe⟩ : ∃ x, cuts[k]? = some x := ⟨_, List.getElem?_eq_getElem hk⟩
  have hxx : cuts.getD k 0 = x := by simp [List.getD, hxe]
  have hxr := hcut x (List.mem_of_getElem? hxe)
  have hce : (ints cuts)[k]'(by simpa using hk) = .int .i64 x := by
    obtain ⟨h0, h1⟩ := List.getElem?_eq_some_iff.1 hxe
    simp [h1]
  rw [hce] at hx
  rw [hxx]
  obtain ⟨ch, rfl⟩ : ∃ ch : Nat, x = (ch : Int) := ⟨x.toNat, by omega⟩
  have hch : ch < 256 := by omega
  have hch' : (ch : Int) < 256 := by omega
  have i1 : (0 : Int) ≤ k := by omega
  have i2 : (k : Int) < cuts.length := by omega
  have i5 : IntKind.u8.wrap (ch : Int) = (ch : Int) := IntWalk.u8_in _ (by omega)
  simp only [Int.toNat_natCast]
  have HD := Lib.hid (fun W A a c h => Derive_good s hv ch hch W A a c h)
  have HR := Lib.hid (hr.ext hE0.1)
  have HE0 := Lib.hid hE0
  clear hE0 hr hcut hcuts hxe hxx hce hv hxr
  simp only [rxv]
  go_enter Try.func31, Try.ntmps31
  go_wp2_with fail
  go_region_law (first
    | (go_simp; go_at_call 32; refine (HD.out _ A a c (HR.out.ext (Ext.drew _).1)).mono ?_; rintro e w1 ⟨a1, c1, rfl, hb1, hr1⟩; have hsz1 := hb1.size; have hW1 := ((Below.refl _ _).drew).trans hb1; have hB1 : Below (w.heap.size + 2) _ w1 := hW1.mono (by simp); obtain ⟨⟨r0, r1, r2, r3⟩, f0, f1, f2, f3⟩ := below_box4' hB1 (by omega); have hs1 : w.heap.size + 1 < w1.heap.size := (by have := hB1.size; simp only [World.size_alloc] at this; omega); have HB1 := Lib.hid (HE0.out.1.trans (hB1.mono (by omega))); clear hW1 hB1 hsz1; rw [size_2drew] at hr1; have HR1 := Lib.hid hr1; clear hb1 hr1; simp only [rxv]))
  all_goals
    generalize hy : rxLim (drv ch (nrm s)) = y at *
    generalize her : errLim (drv ch (nrm s)) = er at *
    go_wp2_with fail
    refine bodyPost_ret (v := .tuple #[.agg #[.int .i64 y.k, .int .u8 y.lo, .int .u8 y.hi, .slice a1 y.ks.length c1], .int .i64 er]) (by simp [results, Try.results31, go_sem, r0, r1, r2, r3]) rfl ?_
    rw [hy, her]
    refine ⟨a1, c1, rfl, set4_below HB1.out (by omega) _ _ _ _, ?_⟩
    exact (HR1.out.keep (fun b hb hn => set4_other _ _ _ _ _ _ b (by omega))).avoid (fun b _ hh => by omega)
end Go.Proofs.Ytbepohpppailnaa
