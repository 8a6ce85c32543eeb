/- Walks: normal. -/
import Derived.Test.YtbepohpppailnaaWD
import Derived.Deep.DrawnRows
import Derived.Deep.RegionLaw
set_option linter.unusedSimpArgs false
set_option linter.unusedVariables false
namespace Go.Proofs.Ytbepohpppailnaa
open Go.RowKit
attribute [local go_sem ↓] Go.wp_at_zero Go.wp_at_succ

theorem nrmL_take (ks : List Rx) (i : Nat) (x : Rx) (hx : ks[i]? = some x) : (nrmL ks).take (i + 1) = (nrmL ks).take i ++ [nrm x] := by
  rw [nrmL_map, List.take_add_one, List.getElem?_map, hx]
  rfl
theorem nrmL_length (ks : List Rx) : (nrmL ks).length = ks.length := by rw [nrmL_map, List.length_map]
theorem nrmL_nodes (ks : List Rx) : nodesL (nrmL ks) ≤ 2 * nodesL ks := by
  induction ks with
  | nil => simp [nrmL, nodesL]
  | cons b bs ih => simp only [nrmL, nodesL]; have := nrm_nodes b; omega

/-- the new kid, as it is appended -/
theorem normal_hsr {w1 : World} {B : Nat → Prop} {h n b0 : Nat} {y : Rx} {a1 : Option Addr} {c1 : Nat} {wr : World} {base : Nat} {v : Value} {l : List Pl} {t : TypeId} (hn : h ≤ n) (hn1 : n ≤ w1.heap.size)
    (hr : RxRep w1 (fun b => B b ∧ b < n) y a1 c1) (ho : OwnRx wr (fun b => B b ∧ b < h) base t v l) (hwr : wr.heap.size ≤ n) (hB : ∀ b, b0 ≤ b → B b) (hb0 : b0 ≤ base) :
    RxsRep (w1.alloc (.cells #[.int .i64 y.k, .int .u8 y.lo, .int .u8 y.hi, .slice a1 y.ks.length c1] t)) (fun b => (B b ∧ b < h) ∨ v.ownBlock = some b) [y] (some ⟨w1.heap.size, 0, none⟩) 1 (fun _ => a1) (fun _ => c1) := by
  have hlt := ho.1.lt
  refine RxsRep.one (rxAt_box _ _ _ _ _) ((hr.ext (Ext.alloc _ _).1).avoid fun b _ hh => ?_) ?_
  · rcases hh with hh | hh
    · exact ⟨hh.1, by omega⟩
    · have := hlt b hh; exact ⟨hB b (by omega), by omega⟩
  · intro hh
    rcases hh with hh | hh
    · omega
    · have := (hlt _ hh).2; omega

set_option maxRecDepth 100000 in
set_option maxHeartbeats 3200000 in
theorem normal_any (r : Rx) : proper r = true → nodes r ≤ 400000 → ∀ (w : World) (N : Nat) (f : Value) (A : Nat → Prop) (a : Option Addr) (c : Nat), FormsRep w N f → N ≤ w.heap.size → (∀ b, b < N → ¬ A b) → RxRep w A r a c →
    Calls Try.prog 38 #[f, rxv r a c] w (FnRx w A (nrm r)) := by
  induction r using Rx.ind with
  | h k lo hi ks ih =>
  intro hp hn w N f A a c hF hN hA hr
  obtain ⟨hk, hlo, hhi, fa, fc, hs⟩ := hr.old.kids
  have hkp := proper_kind hp
  have hl := hs.bd
  simp only [Rx.k_mk, Rx.lo_mk, Rx.hi_mk, Rx.ks_mk] at *
  have hnl : nodesL ks ≤ 400000 := by simp only [nodes] at hn; omega
  have hkl := nodesL_length ks
  obtain ⟨v, hV, hlook⟩ := hF.look k hkp.1 hkp.2
  have HF := Lib.hid hF
  obtain ⟨mb, es, clock, hfm, _⟩ := hF
  obtain ⟨g, lb, hv, eg, hcall⟩ := hV
  subst hv hfm
  have hok : FormOK (.mk k lo hi (nrmL ks)) := by
    refine formOK_of_proper ?_ ?_
    · rw [nrmL_map]; exact proper_map nrm hp fun x hx => nrm_proper x (proper_kids hp x hx)
    · have := nrmL_nodes ks; simp only [nodes]; omega
  have HI := Lib.hid ih
  have HS := Lib.hid hs
  have HP := Lib.hid (proper_kids hp)
  have HA := Lib.hid hA
  have HLOOK := Lib.hid hlook
  have HCALL := Lib.hid hcall
  have HOK := Lib.hid hok
  have HE1 := Lib.hid (((Ext.alloc w (.cells #[.int .i64 k, .int .u8 lo, .int .u8 hi, .slice a ks.length c] 54)).trans (Ext.alloc _ (.cells #[.int .i64 0, .int .u8 0, .int .u8 0, .slice none 0 0] 54))).trans (Ext.alloc _ (.cells #[.int .i64 k, .int .u8 lo, .int .u8 hi, .slice none 0 0] 54)))
  clear ih hs hr hn hp hA hlook hcall hok
  simp only [rxv, Rx.k_mk, Rx.lo_mk, Rx.hi_mk, Rx.ks_mk, nrm]
  go_enter Try.func38, Try.ntmps38
  go_wp2
  go_loopw [18] (fun iv wr => ∃ (l : List Pl) (g : Option Addr) (cap : Nat), l.length ≤ ks.length ∧ iv = .int .i64 l.length ∧
      wr.cell? ⟨w.heap.size + 1 + 1, 3, none⟩ = some (.slice g l.length cap) ∧ wr.frozen? ⟨w.heap.size + 1 + 1, 3, none⟩ = false ∧
      Hid (wr.cell? ⟨w.heap.size + 1 + 1, 0, none⟩ = some (.int .i64 k) ∧ wr.cell? ⟨w.heap.size + 1 + 1, 1, none⟩ = some (.int .u8 lo) ∧ wr.cell? ⟨w.heap.size + 1 + 1, 2, none⟩ = some (.int .u8 hi)) ∧
      Hid (OwnRx wr (fun b => (A b ∨ w.heap.size ≤ b) ∧ b < w.heap.size + 1 + 1 + 1) (w.heap.size + 1 + 1 + 1) 54 (.slice g l.length cap) l) ∧ Hid (l.map Pl.r = (nrmL ks).take l.length) ∧
      Below (w.heap.size + 1 + 1) ((w.alloc (.cells #[.int .i64 k, .int .u8 lo, .int .u8 hi, .slice a ks.length c] 54)).alloc (.cells #[.int .i64 0, .int .u8 0, .int .u8 0, .slice none 0 0] 54)) wr ∧ w.heap.size + 1 + 1 < wr.heap.size)
    (fun i _ => ks.length - (intOf i).toNat)
  case atStart => exact ⟨[], none, 0, Nat.zero_le _, rfl, by go_side, by go_side, Lib.hid ⟨by go_side, by go_side, by go_side⟩, Lib.hid (OwnRx.nil _ _ _ _), Lib.hid (by simp), ((Below.refl _ _).alloc (by simp) _), by simp only [World.size_alloc]; omega⟩
  case round =>
    obtain ⟨l, gk, cap, hle, rfl, hc3, hf3, HC, HO, HM, hb, hsz⟩ := hrel
    have hs0 : w.heap.size < wr.heap.size := by omega
    have hs1 : w.heap.size + 1 < wr.heap.size := by omega
    have hbw : Below w.heap.size w wr := (((Ext.alloc w _).trans (Ext.alloc _ _)).1).trans (hb.mono (by omega))
    by_cases hlt : l.length < ks.length
    · obtain ⟨b, o, x, rfl, hA', hbb, hx, hat, hxr⟩ := (HS.out.ext hbw).at hlt
      obtain ⟨g0, g1, g2, g3⟩ := hat
      have hE2 := Ext.alloc wr (.cells #[.int .i64 x.k, .int .u8 x.lo, .int .u8 x.hi, .slice (fa l.length) x.ks.length (fc l.length)] 54)
      have hxm := nodesL_mem (List.mem_of_getElem? hx)
      have HREC := Lib.hid (HI.out x (List.mem_of_getElem? hx) (HP.out x (List.mem_of_getElem? hx)) (by omega) (wr.alloc (.cells #[.int .i64 x.k, .int .u8 x.lo, .int .u8 x.hi, .slice (fa l.length) x.ks.length (fc l.length)] 54)).drew N _ (fun b => A b ∨ w.heap.size ≤ b) (fa l.length) (fc l.length) (HF.out.later (((hbw.trans (hE2.1.mono (by omega))).drew).mono hN)) (by show N ≤ (wr.alloc _).heap.size; simp only [World.size_alloc]; omega) (fun b hb hh => by rcases hh with hh | hh; exact HA.out b hb hh; omega) ((hxr.ext hE2.1).ext (Ext.drew _).1))
      have HX := Lib.hid hx
      have HB := Lib.hid hb
      have HE2 := Lib.hid hE2
      clear hx hxr hE2 hxm hb hbw
      go_wp2_with fail
      have hs2 : wr.heap.size < wr.heap.size + 1 := by omega
      have hs3 : w.heap.size + 1 + 1 < wr.heap.size + 1 := by omega
      have hmk : ∀ (w1 : World) (a1 : Option Addr) (c1 : Nat), Below (wr.alloc (.cells #[.int .i64 x.k, .int .u8 x.lo, .int .u8 x.hi, .slice (fa l.length) x.ks.length (fc l.length)] 54)).drew.heap.size (wr.alloc (.cells #[.int .i64 x.k, .int .u8 x.lo, .int .u8 x.hi, .slice (fa l.length) x.ks.length (fc l.length)] 54)).drew w1 →
          RxRep w1 (fun b => (A b ∨ w.heap.size ≤ b) ∧ b < (wr.alloc (.cells #[.int .i64 x.k, .int .u8 x.lo, .int .u8 x.hi, .slice (fa l.length) x.ks.length (fc l.length)] 54)).drew.heap.size) (nrm x) a1 c1 →
          RxsRep (w1.alloc (.cells #[.int .i64 (nrm x).k, .int .u8 (nrm x).lo, .int .u8 (nrm x).hi, .slice a1 (nrm x).ks.length c1] 54)) (fun b => ((A b ∨ w.heap.size ≤ b) ∧ b < w.heap.size + 1 + 1 + 1) ∨ (Value.slice gk l.length cap).ownBlock = some b) [nrm x] (some ⟨w1.heap.size, 0, none⟩) 1 (fun _ => a1) (fun _ => c1) := by
        intro w1 a1 c1 hb1 hr1
        have e1 : (wr.alloc (.cells #[.int .i64 x.k, .int .u8 x.lo, .int .u8 x.hi, .slice (fa l.length) x.ks.length (fc l.length)] 54)).drew.heap.size = wr.heap.size + 1 := World.size_alloc _ _
        have h1 := hb1.size
        rw [e1] at hr1 h1
        exact normal_hsr (B := fun b => A b ∨ w.heap.size ≤ b) (h := w.heap.size + 1 + 1 + 1) (b0 := w.heap.size) (by omega) h1 hr1 HO.out (by omega) (fun b hb => .inr hb) (by omega)
      have HMK := Lib.hid hmk
      clear hmk
      go_region_law
        (first
          | (go_simp; go_at_call 38; refine HREC.out.mono ?_; rintro e w1 ⟨a1, c1, rfl, hb1, hr1⟩; have hb2 : Below wr.heap.size wr w1 := (HE2.out.1.drew).trans (hb1.mono (by simp)); have hc3' := below_cell hb2 hsz hc3; have hf3' := below_free hb2 hsz hf3; have hsz1 := hb2.size; have hs5 : w.heap.size + 1 + 1 < w1.heap.size := (by omega); have HB2 := Lib.hid hb2; have HSR := Lib.hid (HMK.out w1 a1 c1 hb1 hr1); clear hb1 hr1 hb2; simp only [rxv])
          | (refine step_append_rx (by rfl) _ _ 52 54 (by rfl) tabR (fun b => (A b ∨ w.heap.size ≤ b) ∧ b < w.heap.size + 1 + 1 + 1) (w.heap.size + 1 + 1 + 1) _ l (by rfl) (HO.out.ext (ext_trans HB2.out (Ext.alloc _ _).1)) (by simp; omega) [nrm x] (some ⟨w1.heap.size, 0, none⟩) 1 (fun _ => a1) (fun _ => c1) (by rfl) HSR.out (by simp; omega) (fun b hb => by simp; omega) ?_; intro g' cap' w2 hown2 hb4; have hc4 := below_cell hb4 (show w.heap.size + 1 + 1 < w.heap.size + 1 + 1 + 1 by omega) ((Ext.alloc w1 _).cell hc3'); have hf4 := below_free hb4 (show w.heap.size + 1 + 1 < w.heap.size + 1 + 1 + 1 by omega) (below_free (Ext.alloc w1 _).1 (show w.heap.size + 1 + 1 < w1.heap.size by omega) hf3'); have hsz4 := hb4.size; simp only [World.size_alloc] at hsz4; have HO2 := Lib.hid hown2; have HB4 := Lib.hid hb4; clear hown2 hb4))
      all_goals
        go_wp2_with fail
        go_roundw
        case rel =>
          obtain ⟨e0, e1, e2⟩ := HC.out
          have hW : Below wr.heap.size wr (w1.alloc (.cells #[.int .i64 (nrm x).k, .int .u8 (nrm x).lo, .int .u8 (nrm x).hi, .slice a1 (nrm x).ks.length c1] 54)) := ext_trans HB2.out (Ext.alloc _ _).1
          have f0 := below_cell hW hsz e0
          have f1 := below_cell hW hsz e1
          have f2 := below_cell hW hsz e2
          have k0 := below_cell HB4.out (show w.heap.size + 1 + 1 < w.heap.size + 1 + 1 + 1 by omega) f0
          have k1 := below_cell HB4.out (show w.heap.size + 1 + 1 < w.heap.size + 1 + 1 + 1 by omega) f1
          have k2 := below_cell HB4.out (show w.heap.size + 1 + 1 < w.heap.size + 1 + 1 + 1 by omega) f2
          have hO := (HO2.out).setBelow (b := w.heap.size + 1 + 1) (by omega) ⟨.inr (by omega), by omega⟩ 3 (.slice g' (l.length + 1) cap')
          refine ⟨l ++ [⟨nrm x, a1, c1⟩], g', cap', by simp; omega, by simp, by simp [go_sem, hc4], by simp [go_sem, hf4], Lib.hid ⟨by simp [go_sem, k0], by simp [go_sem, k1], by simp [go_sem, k2]⟩, Lib.hid (by simpa [pls_one] using hO), Lib.hid ?_, ?_, ?_⟩
          · rw [List.map_append, HM.out]
            simp only [List.map_cons, List.map_nil, List.length_append, List.length_singleton]
            rw [nrmL_take ks l.length x HX.out]
          · exact ((HB.out.trans (hW.mono (by omega))).trans (HB4.out.mono (by omega))).setCell (by simp) _
          · simp only [World.size_setCell]; omega
        case measure => simp [intOf]; omega
    · have he : l.length = ks.length := by omega
      have hm := HM.out
      rw [he, List.take_of_length_le (by rw [nrmL_length]; omega)] at hm
      obtain ⟨⟨r0, r1, r2, r3⟩, f0, f1, f2, f3⟩ := below_box4' hb (by omega)
      obtain ⟨b0, b1, b2, b3⟩ := below_box4 hb (by omega)
      obtain ⟨e0, e1, e2⟩ := HC.out
      have hlk := HLOOK.out wr (hbw.mono hN)
      have hrep := HO.out.rep (fun b hb hh => by omega)
      rw [hm] at hrep
      have hrx : RxRep wr (fun b => (A b ∨ w.heap.size ≤ b) ∧ b < w.heap.size + 1 + 1 + 1) (.mk k lo hi (nrmL ks)) gk cap := hrep.rx hk hlo hhi
      have HCL := Lib.hid (HCALL.out wr _ _ gk cap (hbw.mono hN) (by omega) (fun b hb hh => by rcases hh.1 with h | h; exact HA.out b hb h; omega) rfl HOK.out hrx)
      have HEQ := Lib.hid (show l.length = (nrmL ks).length by rw [he, nrmL_length])
      have HBW := Lib.hid hbw
      have HB := Lib.hid hb
      clear he hm hrep hrx hbw hb
      go_wp2_with fail
      rw [HEQ.out]
      refine HCL.out.mono ?_
      rintro e w2 ⟨a2, c2, rfl, hb2, hr2⟩
      have hsz2 := hb2.size
      have k0 := below_cell hb2 hs1 r0
      have k1 := below_cell hb2 hs1 r1
      have k2 := below_cell hb2 hs1 r2
      have k3 := below_cell hb2 hs1 r3
      have q0 := below_free hb2 hs1 f0
      have q1 := below_free hb2 hs1 f1
      have q2 := below_free hb2 hs1 f2
      have q3 := below_free hb2 hs1 f3
      have HB2 := Lib.hid hb2
      have HR2 := Lib.hid hr2
      clear hb2 hr2
      simp only [rxv]
      go_wp2_with fail
      generalize hy : form (.mk k lo hi (nrmL ks)) = y at *
      refine bodyPost_ret (v := .agg #[.int .i64 y.k, .int .u8 y.lo, .int .u8 y.hi, .slice a2 y.ks.length c2]) (by simp [results, Try.results38, go_sem, k0, k1, k2, k3]) rfl ?_
      refine ⟨a2, c2, rfl, set4_below (HBW.out.trans (HB2.out.mono (by omega))) (by omega) _ _ _ _, ?_⟩
      exact (HR2.out.keep (fun b hb hn => set4_other _ _ _ _ _ _ b (fun e => hn ⟨⟨.inr (by omega), by omega⟩, by omega⟩))).avoid (fun b _ hh => ⟨⟨.inl hh.1, by omega⟩, by omega⟩)
end Go.Proofs.Ytbepohpppailnaa
