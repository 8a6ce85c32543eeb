/- Walks: derive, for Alt, All and Not. -/
import Derived.Test.YtbepohpppailnaaWJ
import Derived.Deep.RegionLaw
set_option linter.unusedSimpArgs false
set_option linter.unusedVariables false
namespace Go.Proofs.Ytbepohpppailnaa
open Go.RowKit
attribute [local go_sem ↓] Go.wp_at_zero Go.wp_at_succ

theorem drvL_nodes_300 (ch : Nat) (ks : List Rx) (h : 1 + nodesL ks ≤ 300) : nodesL (drvL ch ks) ≤ 90900 := by
  have : ∀ l : List Rx, nodesL l ≤ 300 → nodesL (drvL ch l) ≤ nodesL l * 303 := by
    intro l
    induction l with
    | nil => intro _; simp [drvL, nodesL]
    | cons a l ihl =>
      intro hl
      simp only [nodesL] at hl
      have h1 := ihl (by omega)
      have h2 := drv_nodes ch 300 a (by omega)
      simp only [drvL, nodesL]
      omega
  have := this ks (by omega)
  omega

set_option maxRecDepth 100000 in
set_option maxHeartbeats 3200000 in
theorem derive_list4 (ch : Nat) (k : Int) (hkK : k = 4) (lo hi : Nat) (ks : List Rx) (ih : ∀ x ∈ ks, DrvC ch x) : DrvC ch (.mk k lo hi ks) := by
  intro hp hn w N f A a c hF hN hA hr
  obtain ⟨hk, hlo, hhi, fa, fc, hs⟩ := hr.old.kids
  have hkp := proper_kind hp
  have hl := hs.bd
  simp only [Rx.k_mk, Rx.lo_mk, Rx.hi_mk, Rx.ks_mk] at *
  have hnl : 1 + nodesL ks ≤ 300 := by simp only [nodes] at hn; omega
  have hkl := nodesL_length ks
  obtain ⟨v, hV, hlook⟩ := hF.look k hkp.1 hkp.2
  have HF := Lib.hid hF
  obtain ⟨mb, es, clock, hfm, _⟩ := hF
  obtain ⟨g, lb, hv, eg, hcall⟩ := hV
  subst hv hfm
  have hd : drv ch (.mk k lo hi ks) = form (.mk k 0 0 (drvL ch ks)) := by simp only [drv]; rw [if_neg (by omega), if_neg (by omega), if_pos (by omega)]
  have hdn := drvL_nodes_300 ch ks hnl
  have hok : FormOK (.mk k 0 0 (drvL ch ks)) := by
    refine formOK_of_proper ?_ ?_
    · have hp' : proper (.mk k 0 0 ks) = true := by
        have := proper_lohi hp (by simp only [Rx.k_mk]; omega)
        simp only [Rx.lo_mk, Rx.hi_mk] at this
        rw [this.1, this.2] at hp
        exact hp
      rw [drvL_map]; exact proper_map (drv ch) hp' fun x hx => drv_proper ch x (proper_kids hp x hx)
    · simp only [nodes]; omega
  have HI := Lib.hid ih
  have HS := Lib.hid hs
  have HP := Lib.hid (proper_kids hp)
  have HA := Lib.hid hA
  have HLOOK := Lib.hid hlook
  have HCALL := Lib.hid hcall
  have HOK := Lib.hid hok
  have HE1 := Lib.hid (((Ext.alloc w (.cells #[.int .i64 k, .int .u8 lo, .int .u8 hi, .slice a ks.length c] 54)).trans (Ext.alloc _ (.cells #[.int .i64 0, .int .u8 0, .int .u8 0, .slice none 0 0] 54))).trans (Ext.alloc _ (.cells #[.int .i64 k, .int .u8 0, .int .u8 0, .slice none 0 0] 54)))
  clear ih hs hr hn hp hA hlook hcall hok
  rw [hd]
  simp only [rxv, Rx.k_mk, Rx.lo_mk, Rx.hi_mk, Rx.ks_mk]
  subst hkK
  go_enter Try.func42, Try.ntmps42
  go_wp2
  go_loopw [76] (fun iv wr => ∃ (l : List Pl) (g : Option Addr) (cap : Nat), l.length ≤ ks.length ∧ iv = .int .i64 l.length ∧
      wr.cell? ⟨w.heap.size + 1 + 1, 3, none⟩ = some (.slice g l.length cap) ∧ wr.frozen? ⟨w.heap.size + 1 + 1, 3, none⟩ = false ∧
      Hid (wr.cell? ⟨w.heap.size + 1 + 1, 0, none⟩ = some (.int .i64 4) ∧ wr.cell? ⟨w.heap.size + 1 + 1, 1, none⟩ = some (.int .u8 0) ∧ wr.cell? ⟨w.heap.size + 1 + 1, 2, none⟩ = some (.int .u8 0)) ∧
      Hid (OwnRx wr (fun b => (A b ∨ w.heap.size ≤ b) ∧ b < w.heap.size + 1 + 1 + 1) (w.heap.size + 1 + 1 + 1) 54 (.slice g l.length cap) l) ∧ Hid (l.map Pl.r = (drvL ch ks).take l.length) ∧
      Below (w.heap.size + 1 + 1) ((w.alloc (.cells #[.int .i64 4, .int .u8 lo, .int .u8 hi, .slice a ks.length c] 54)).alloc (.cells #[.int .i64 0, .int .u8 0, .int .u8 0, .slice none 0 0] 54)) wr ∧ w.heap.size + 1 + 1 < wr.heap.size)
    (fun i _ => ks.length - (intOf i).toNat)
  case atStart => exact ⟨[], none, 0, Nat.zero_le _, rfl, by go_side, by go_side, Lib.hid ⟨by go_side, by go_side, by go_side⟩, Lib.hid (OwnRx.nil _ _ _ _), Lib.hid (by simp), ((Below.refl _ _).alloc (by simp) _), by simp only [World.size_alloc]; omega⟩
  case round =>
    obtain ⟨l, gk, cap, hle, rfl, hc3, hf3, HC, HO, HM, hb, hsz⟩ := hrel
    have hs0 : w.heap.size < wr.heap.size := by omega
    have hs1 : w.heap.size + 1 < wr.heap.size := by omega
    have hbw : Below w.heap.size w wr := (((Ext.alloc w _).trans (Ext.alloc _ _)).1).trans (hb.mono (by omega))
    by_cases hlt : l.length < ks.length
    · obtain ⟨b, o, x, rfl, hA', hbb, hx, hat, hxr⟩ := (HS.out.ext hbw).at hlt
      obtain ⟨g0, g1, g2, g3⟩ := hat
      have hE2 := Ext.alloc wr (.cells #[.int .i64 x.k, .int .u8 x.lo, .int .u8 x.hi, .slice (fa l.length) x.ks.length (fc l.length)] 54)
      have hxm := nodesL_mem (List.mem_of_getElem? hx)
      have hxn := drv_nodes_300 ch x (by omega)
      have HREC := Lib.hid (HI.out x (List.mem_of_getElem? hx) (HP.out x (List.mem_of_getElem? hx)) (by omega) (wr.alloc (.cells #[.int .i64 x.k, .int .u8 x.lo, .int .u8 x.hi, .slice (fa l.length) x.ks.length (fc l.length)] 54)).drew N _ (fun b => A b ∨ w.heap.size ≤ b) (fa l.length) (fc l.length) (HF.out.later (((hbw.trans (hE2.1.mono (by omega))).drew).mono hN)) (by show N ≤ (wr.alloc _).heap.size; simp only [World.size_alloc]; omega) (fun b hb hh => by rcases hh with hh | hh; exact HA.out b hb hh; omega) ((hxr.ext hE2.1).ext (Ext.drew _).1))
      have HX := Lib.hid hx
      have HB := Lib.hid hb
      have HE2 := Lib.hid hE2
      clear hx hxr hE2 hxm hb hbw
      go_wp2_with fail
      have hs2 : wr.heap.size < wr.heap.size + 1 := by omega
      have hs3 : w.heap.size + 1 + 1 < wr.heap.size + 1 := by omega
      have hmk : ∀ (w1 : World) (a1 : Option Addr) (c1 : Nat), Below (wr.alloc (.cells #[.int .i64 x.k, .int .u8 x.lo, .int .u8 x.hi, .slice (fa l.length) x.ks.length (fc l.length)] 54)).drew.heap.size (wr.alloc (.cells #[.int .i64 x.k, .int .u8 x.lo, .int .u8 x.hi, .slice (fa l.length) x.ks.length (fc l.length)] 54)).drew w1 →
          RxRep w1 (fun b => (A b ∨ w.heap.size ≤ b) ∧ b < (wr.alloc (.cells #[.int .i64 x.k, .int .u8 x.lo, .int .u8 x.hi, .slice (fa l.length) x.ks.length (fc l.length)] 54)).drew.heap.size) (drv ch x) a1 c1 →
          RxsRep (w1.alloc (.cells #[.int .i64 (drv ch x).k, .int .u8 (drv ch x).lo, .int .u8 (drv ch x).hi, .slice a1 (drv ch x).ks.length c1] 54)) (fun b => ((A b ∨ w.heap.size ≤ b) ∧ b < w.heap.size + 1 + 1 + 1) ∨ (Value.slice gk l.length cap).ownBlock = some b) [drv ch x] (some ⟨w1.heap.size, 0, none⟩) 1 (fun _ => a1) (fun _ => c1) := by
        intro w1 a1 c1 hb1 hr1
        have e1 : (wr.alloc (.cells #[.int .i64 x.k, .int .u8 x.lo, .int .u8 x.hi, .slice (fa l.length) x.ks.length (fc l.length)] 54)).drew.heap.size = wr.heap.size + 1 := World.size_alloc _ _
        have h1 := hb1.size
        rw [e1] at hr1 h1
        exact normal_hsr (B := fun b => A b ∨ w.heap.size ≤ b) (h := w.heap.size + 1 + 1 + 1) (b0 := w.heap.size) (by omega) h1 hr1 HO.out (by omega) (fun b hb => .inr hb) (by omega)
      have HMK := Lib.hid hmk
      clear hmk
      go_region_law
        (first
          | (go_simp; go_at_call 42; refine HREC.out.mono ?_; rintro e w1 ⟨a1, c1, rfl, hb1, hr1⟩; have hb2 : Below wr.heap.size wr w1 := (HE2.out.1.drew).trans (hb1.mono (by simp)); have hc3' := below_cell hb2 hsz hc3; have hf3' := below_free hb2 hsz hf3; have hsz1 := hb2.size; have hs5 : w.heap.size + 1 + 1 < w1.heap.size := (by omega); have HB2 := Lib.hid hb2; have HSR := Lib.hid (HMK.out w1 a1 c1 hb1 hr1); clear hb1 hr1 hb2; simp only [rxv])
          | (refine step_append_rx (by rfl) _ _ 52 54 (by rfl) tabR (fun b => (A b ∨ w.heap.size ≤ b) ∧ b < w.heap.size + 1 + 1 + 1) (w.heap.size + 1 + 1 + 1) _ l (by rfl) (HO.out.ext (ext_trans HB2.out (Ext.alloc _ _).1)) (by simp; omega) [drv ch x] (some ⟨w1.heap.size, 0, none⟩) 1 (fun _ => a1) (fun _ => c1) (by rfl) HSR.out (by simp; omega) (fun b hb => by simp; omega) ?_; intro g' cap' w2 hown2 hb4; have hc4 := below_cell hb4 (show w.heap.size + 1 + 1 < w.heap.size + 1 + 1 + 1 by omega) ((Ext.alloc w1 _).cell hc3'); have hf4 := below_free hb4 (show w.heap.size + 1 + 1 < w.heap.size + 1 + 1 + 1 by omega) (below_free (Ext.alloc w1 _).1 (show w.heap.size + 1 + 1 < w1.heap.size by omega) hf3'); have hsz4 := hb4.size; simp only [World.size_alloc] at hsz4; have HO2 := Lib.hid hown2; have HB4 := Lib.hid hb4; clear hown2 hb4))
      all_goals
        go_wp2_with fail
        go_roundw
        case rel =>
          obtain ⟨e0, e1, e2⟩ := HC.out
          have hW : Below wr.heap.size wr (w1.alloc (.cells #[.int .i64 (drv ch x).k, .int .u8 (drv ch x).lo, .int .u8 (drv ch x).hi, .slice a1 (drv ch x).ks.length c1] 54)) := ext_trans HB2.out (Ext.alloc _ _).1
          have f0 := below_cell hW hsz e0
          have f1 := below_cell hW hsz e1
          have f2 := below_cell hW hsz e2
          have k0 := below_cell HB4.out (show w.heap.size + 1 + 1 < w.heap.size + 1 + 1 + 1 by omega) f0
          have k1 := below_cell HB4.out (show w.heap.size + 1 + 1 < w.heap.size + 1 + 1 + 1 by omega) f1
          have k2 := below_cell HB4.out (show w.heap.size + 1 + 1 < w.heap.size + 1 + 1 + 1 by omega) f2
          have hO := (HO2.out).setBelow (b := w.heap.size + 1 + 1) (by omega) ⟨.inr (by omega), by omega⟩ 3 (.slice g' (l.length + 1) cap')
          refine ⟨l ++ [⟨drv ch x, a1, c1⟩], g', cap', by simp; omega, by simp, by simp [go_sem, hc4], by simp [go_sem, hf4], Lib.hid ⟨by simp [go_sem, k0], by simp [go_sem, k1], by simp [go_sem, k2]⟩, Lib.hid (by simpa [pls_one] using hO), Lib.hid ?_, ?_, ?_⟩
          · rw [List.map_append, HM.out]
            simp only [List.map_cons, List.map_nil, List.length_append, List.length_singleton]
            rw [drvL_take ch ks l.length x HX.out]
          · exact ((HB.out.trans (hW.mono (by omega))).trans (HB4.out.mono (by omega))).setCell (by simp) _
          · simp only [World.size_setCell]; omega
        case measure => simp [intOf]; omega
    · have he : l.length = ks.length := by omega
      have hm := HM.out
      rw [he, List.take_of_length_le (by rw [drvL_length]; omega)] at hm
      obtain ⟨⟨r0, r1, r2, r3⟩, f0, f1, f2, f3⟩ := below_box4' hb (by omega)
      obtain ⟨b0, b1, b2, b3⟩ := below_box4 hb (by omega)
      obtain ⟨e0, e1, e2⟩ := HC.out
      have hlk := HLOOK.out wr (hbw.mono hN)
      have hrep := HO.out.rep (fun b hb hh => by omega)
      rw [hm] at hrep
      have hrx : RxRep wr (fun b => (A b ∨ w.heap.size ≤ b) ∧ b < w.heap.size + 1 + 1 + 1) (.mk 4 0 0 (drvL ch ks)) gk cap := hrep.rx hk (by omega) (by omega)
      have HCL := Lib.hid (HCALL.out wr _ _ gk cap (hbw.mono hN) (by omega) (fun b hb hh => by rcases hh.1 with h | h; exact HA.out b hb h; omega) rfl HOK.out hrx)
      have HEQ := Lib.hid (show l.length = (drvL ch ks).length by rw [he, drvL_length])
      have HBW := Lib.hid hbw
      have HB := Lib.hid hb
      clear he hm hrep hrx hbw hb
      go_wp2_with fail
      rw [HEQ.out]
      refine HCL.out.mono ?_
      rintro e w2 ⟨a2, c2, rfl, hb2, hr2⟩
      have hsz2 := hb2.size
      have k0 := below_cell hb2 hs1 r0
      have k1 := below_cell hb2 hs1 r1
      have k2 := below_cell hb2 hs1 r2
      have k3 := below_cell hb2 hs1 r3
      have q0 := below_free hb2 hs1 f0
      have q1 := below_free hb2 hs1 f1
      have q2 := below_free hb2 hs1 f2
      have q3 := below_free hb2 hs1 f3
      have HB2 := Lib.hid hb2
      have HR2 := Lib.hid hr2
      clear hb2 hr2
      simp only [rxv]
      go_wp2_with fail
      generalize hy : form (.mk 4 0 0 (drvL ch ks)) = y at *
      refine bodyPost_ret (v := .agg #[.int .i64 y.k, .int .u8 y.lo, .int .u8 y.hi, .slice a2 y.ks.length c2]) (by simp [results, Try.results42, go_sem, k0, k1, k2, k3]) rfl ?_
      refine ⟨a2, c2, rfl, set4_below (HBW.out.trans (HB2.out.mono (by omega))) (by omega) _ _ _ _, ?_⟩
      exact (HR2.out.keep (fun b hb hn => set4_other _ _ _ _ _ _ b (fun e => hn ⟨⟨.inr (by omega), by omega⟩, by omega⟩))).avoid (fun b _ hh => ⟨⟨.inl hh.1, by omega⟩, by omega⟩)
set_option maxRecDepth 100000 in
set_option maxHeartbeats 3200000 in
theorem derive_list5 (ch : Nat) (k : Int) (hkK : k = 5) (lo hi : Nat) (ks : List Rx) (ih : ∀ x ∈ ks, DrvC ch x) : DrvC ch (.mk k lo hi ks) := by
  intro hp hn w N f A a c hF hN hA hr
  obtain ⟨hk, hlo, hhi, fa, fc, hs⟩ := hr.old.kids
  have hkp := proper_kind hp
  have hl := hs.bd
  simp only [Rx.k_mk, Rx.lo_mk, Rx.hi_mk, Rx.ks_mk] at *
  have hnl : 1 + nodesL ks ≤ 300 := by simp only [nodes] at hn; omega
  have hkl := nodesL_length ks
  obtain ⟨v, hV, hlook⟩ := hF.look k hkp.1 hkp.2
  have HF := Lib.hid hF
  obtain ⟨mb, es, clock, hfm, _⟩ := hF
  obtain ⟨g, lb, hv, eg, hcall⟩ := hV
  subst hv hfm
  have hd : drv ch (.mk k lo hi ks) = form (.mk k 0 0 (drvL ch ks)) := by simp only [drv]; rw [if_neg (by omega), if_neg (by omega), if_pos (by omega)]
  have hdn := drvL_nodes_300 ch ks hnl
  have hok : FormOK (.mk k 0 0 (drvL ch ks)) := by
    refine formOK_of_proper ?_ ?_
    · have hp' : proper (.mk k 0 0 ks) = true := by
        have := proper_lohi hp (by simp only [Rx.k_mk]; omega)
        simp only [Rx.lo_mk, Rx.hi_mk] at this
        rw [this.1, this.2] at hp
        exact hp
      rw [drvL_map]; exact proper_map (drv ch) hp' fun x hx => drv_proper ch x (proper_kids hp x hx)
    · simp only [nodes]; omega
  have HI := Lib.hid ih
  have HS := Lib.hid hs
  have HP := Lib.hid (proper_kids hp)
  have HA := Lib.hid hA
  have HLOOK := Lib.hid hlook
  have HCALL := Lib.hid hcall
  have HOK := Lib.hid hok
  have HE1 := Lib.hid (((Ext.alloc w (.cells #[.int .i64 k, .int .u8 lo, .int .u8 hi, .slice a ks.length c] 54)).trans (Ext.alloc _ (.cells #[.int .i64 0, .int .u8 0, .int .u8 0, .slice none 0 0] 54))).trans (Ext.alloc _ (.cells #[.int .i64 k, .int .u8 0, .int .u8 0, .slice none 0 0] 54)))
  clear ih hs hr hn hp hA hlook hcall hok
  rw [hd]
  simp only [rxv, Rx.k_mk, Rx.lo_mk, Rx.hi_mk, Rx.ks_mk]
  subst hkK
  go_enter Try.func42, Try.ntmps42
  go_wp2
  go_loopw [76] (fun iv wr => ∃ (l : List Pl) (g : Option Addr) (cap : Nat), l.length ≤ ks.length ∧ iv = .int .i64 l.length ∧
      wr.cell? ⟨w.heap.size + 1 + 1, 3, none⟩ = some (.slice g l.length cap) ∧ wr.frozen? ⟨w.heap.size + 1 + 1, 3, none⟩ = false ∧
      Hid (wr.cell? ⟨w.heap.size + 1 + 1, 0, none⟩ = some (.int .i64 5) ∧ wr.cell? ⟨w.heap.size + 1 + 1, 1, none⟩ = some (.int .u8 0) ∧ wr.cell? ⟨w.heap.size + 1 + 1, 2, none⟩ = some (.int .u8 0)) ∧
      Hid (OwnRx wr (fun b => (A b ∨ w.heap.size ≤ b) ∧ b < w.heap.size + 1 + 1 + 1) (w.heap.size + 1 + 1 + 1) 54 (.slice g l.length cap) l) ∧ Hid (l.map Pl.r = (drvL ch ks).take l.length) ∧
      Below (w.heap.size + 1 + 1) ((w.alloc (.cells #[.int .i64 5, .int .u8 lo, .int .u8 hi, .slice a ks.length c] 54)).alloc (.cells #[.int .i64 0, .int .u8 0, .int .u8 0, .slice none 0 0] 54)) wr ∧ w.heap.size + 1 + 1 < wr.heap.size)
    (fun i _ => ks.length - (intOf i).toNat)
  case atStart => exact ⟨[], none, 0, Nat.zero_le _, rfl, by go_side, by go_side, Lib.hid ⟨by go_side, by go_side, by go_side⟩, Lib.hid (OwnRx.nil _ _ _ _), Lib.hid (by simp), ((Below.refl _ _).alloc (by simp) _), by simp only [World.size_alloc]; omega⟩
  case round =>
    obtain ⟨l, gk, cap, hle, rfl, hc3, hf3, HC, HO, HM, hb, hsz⟩ := hrel
    have hs0 : w.heap.size < wr.heap.size := by omega
    have hs1 : w.heap.size + 1 < wr.heap.size := by omega
    have hbw : Below w.heap.size w wr := (((Ext.alloc w _).trans (Ext.alloc _ _)).1).trans (hb.mono (by omega))
    by_cases hlt : l.length < ks.length
    · obtain ⟨b, o, x, rfl, hA', hbb, hx, hat, hxr⟩ := (HS.out.ext hbw).at hlt
      obtain ⟨g0, g1, g2, g3⟩ := hat
      have hE2 := Ext.alloc wr (.cells #[.int .i64 x.k, .int .u8 x.lo, .int .u8 x.hi, .slice (fa l.length) x.ks.length (fc l.length)] 54)
      have hxm := nodesL_mem (List.mem_of_getElem? hx)
      have hxn := drv_nodes_300 ch x (by omega)
      have HREC := Lib.hid (HI.out x (List.mem_of_getElem? hx) (HP.out x (List.mem_of_getElem? hx)) (by omega) (wr.alloc (.cells #[.int .i64 x.k, .int .u8 x.lo, .int .u8 x.hi, .slice (fa l.length) x.ks.length (fc l.length)] 54)).drew N _ (fun b => A b ∨ w.heap.size ≤ b) (fa l.length) (fc l.length) (HF.out.later (((hbw.trans (hE2.1.mono (by omega))).drew).mono hN)) (by show N ≤ (wr.alloc _).heap.size; simp only [World.size_alloc]; omega) (fun b hb hh => by rcases hh with hh | hh; exact HA.out b hb hh; omega) ((hxr.ext hE2.1).ext (Ext.drew _).1))
      have HX := Lib.hid hx
      have HB := Lib.hid hb
      have HE2 := Lib.hid hE2
      clear hx hxr hE2 hxm hb hbw
      go_wp2_with fail
      have hs2 : wr.heap.size < wr.heap.size + 1 := by omega
      have hs3 : w.heap.size + 1 + 1 < wr.heap.size + 1 := by omega
      have hmk : ∀ (w1 : World) (a1 : Option Addr) (c1 : Nat), Below (wr.alloc (.cells #[.int .i64 x.k, .int .u8 x.lo, .int .u8 x.hi, .slice (fa l.length) x.ks.length (fc l.length)] 54)).drew.heap.size (wr.alloc (.cells #[.int .i64 x.k, .int .u8 x.lo, .int .u8 x.hi, .slice (fa l.length) x.ks.length (fc l.length)] 54)).drew w1 →
          RxRep w1 (fun b => (A b ∨ w.heap.size ≤ b) ∧ b < (wr.alloc (.cells #[.int .i64 x.k, .int .u8 x.lo, .int .u8 x.hi, .slice (fa l.length) x.ks.length (fc l.length)] 54)).drew.heap.size) (drv ch x) a1 c1 →
          RxsRep (w1.alloc (.cells #[.int .i64 (drv ch x).k, .int .u8 (drv ch x).lo, .int .u8 (drv ch x).hi, .slice a1 (drv ch x).ks.length c1] 54)) (fun b => ((A b ∨ w.heap.size ≤ b) ∧ b < w.heap.size + 1 + 1 + 1) ∨ (Value.slice gk l.length cap).ownBlock = some b) [drv ch x] (some ⟨w1.heap.size, 0, none⟩) 1 (fun _ => a1) (fun _ => c1) := by
        intro w1 a1 c1 hb1 hr1
        have e1 : (wr.alloc (.cells #[.int .i64 x.k, .int .u8 x.lo, .int .u8 x.hi, .slice (fa l.length) x.ks.length (fc l.length)] 54)).drew.heap.size = wr.heap.size + 1 := World.size_alloc _ _
        have h1 := hb1.size
        rw [e1] at hr1 h1
        exact normal_hsr (B := fun b => A b ∨ w.heap.size ≤ b) (h := w.heap.size + 1 + 1 + 1) (b0 := w.heap.size) (by omega) h1 hr1 HO.out (by omega) (fun b hb => .inr hb) (by omega)
      have HMK := Lib.hid hmk
      clear hmk
      go_region_law
        (first
          | (go_simp; go_at_call 42; refine HREC.out.mono ?_; rintro e w1 ⟨a1, c1, rfl, hb1, hr1⟩; have hb2 : Below wr.heap.size wr w1 := (HE2.out.1.drew).trans (hb1.mono (by simp)); have hc3' := below_cell hb2 hsz hc3; have hf3' := below_free hb2 hsz hf3; have hsz1 := hb2.size; have hs5 : w.heap.size + 1 + 1 < w1.heap.size := (by omega); have HB2 := Lib.hid hb2; have HSR := Lib.hid (HMK.out w1 a1 c1 hb1 hr1); clear hb1 hr1 hb2; simp only [rxv])
          | (refine step_append_rx (by rfl) _ _ 52 54 (by rfl) tabR (fun b => (A b ∨ w.heap.size ≤ b) ∧ b < w.heap.size + 1 + 1 + 1) (w.heap.size + 1 + 1 + 1) _ l (by rfl) (HO.out.ext (ext_trans HB2.out (Ext.alloc _ _).1)) (by simp; omega) [drv ch x] (some ⟨w1.heap.size, 0, none⟩) 1 (fun _ => a1) (fun _ => c1) (by rfl) HSR.out (by simp; omega) (fun b hb => by simp; omega) ?_; intro g' cap' w2 hown2 hb4; have hc4 := below_cell hb4 (show w.heap.size + 1 + 1 < w.heap.size + 1 + 1 + 1 by omega) ((Ext.alloc w1 _).cell hc3'); have hf4 := below_free hb4 (show w.heap.size + 1 + 1 < w.heap.size + 1 + 1 + 1 by omega) (below_free (Ext.alloc w1 _).1 (show w.heap.size + 1 + 1 < w1.heap.size by omega) hf3'); have hsz4 := hb4.size; simp only [World.size_alloc] at hsz4; have HO2 := Lib.hid hown2; have HB4 := Lib.hid hb4; clear hown2 hb4))
      all_goals
        go_wp2_with fail
        go_roundw
        case rel =>
          obtain ⟨e0, e1, e2⟩ := HC.out
          have hW : Below wr.heap.size wr (w1.alloc (.cells #[.int .i64 (drv ch x).k, .int .u8 (drv ch x).lo, .int .u8 (drv ch x).hi, .slice a1 (drv ch x).ks.length c1] 54)) := ext_trans HB2.out (Ext.alloc _ _).1
          have f0 := below_cell hW hsz e0
          have f1 := below_cell hW hsz e1
          have f2 := below_cell hW hsz e2
          have k0 := below_cell HB4.out (show w.heap.size + 1 + 1 < w.heap.size + 1 + 1 + 1 by omega) f0
          have k1 := below_cell HB4.out (show w.heap.size + 1 + 1 < w.heap.size + 1 + 1 + 1 by omega) f1
          have k2 := below_cell HB4.out (show w.heap.size + 1 + 1 < w.heap.size + 1 + 1 + 1 by omega) f2
          have hO := (HO2.out).setBelow (b := w.heap.size + 1 + 1) (by omega) ⟨.inr (by omega), by omega⟩ 3 (.slice g' (l.length + 1) cap')
          refine ⟨l ++ [⟨drv ch x, a1, c1⟩], g', cap', by simp; omega, by simp, by simp [go_sem, hc4], by simp [go_sem, hf4], Lib.hid ⟨by simp [go_sem, k0], by simp [go_sem, k1], by simp [go_sem, k2]⟩, Lib.hid (by simpa [pls_one] using hO), Lib.hid ?_, ?_, ?_⟩
          · rw [List.map_append, HM.out]
            simp only [List.map_cons, List.map_nil, List.length_append, List.length_singleton]
            rw [drvL_take ch ks l.length x HX.out]
          · exact ((HB.out.trans (hW.mono (by omega))).trans (HB4.out.mono (by omega))).setCell (by simp) _
          · simp only [World.size_setCell]; omega
        case measure => simp [intOf]; omega
    · have he : l.length = ks.length := by omega
      have hm := HM.out
      rw [he, List.take_of_length_le (by rw [drvL_length]; omega)] at hm
      obtain ⟨⟨r0, r1, r2, r3⟩, f0, f1, f2, f3⟩ := below_box4' hb (by omega)
      obtain ⟨b0, b1, b2, b3⟩ := below_box4 hb (by omega)
      obtain ⟨e0, e1, e2⟩ := HC.out
      have hlk := HLOOK.out wr (hbw.mono hN)
      have hrep := HO.out.rep (fun b hb hh => by omega)
      rw [hm] at hrep
      have hrx : RxRep wr (fun b => (A b ∨ w.heap.size ≤ b) ∧ b < w.heap.size + 1 + 1 + 1) (.mk 5 0 0 (drvL ch ks)) gk cap := hrep.rx hk (by omega) (by omega)
      have HCL := Lib.hid (HCALL.out wr _ _ gk cap (hbw.mono hN) (by omega) (fun b hb hh => by rcases hh.1 with h | h; exact HA.out b hb h; omega) rfl HOK.out hrx)
      have HEQ := Lib.hid (show l.length = (drvL ch ks).length by rw [he, drvL_length])
      have HBW := Lib.hid hbw
      have HB := Lib.hid hb
      clear he hm hrep hrx hbw hb
      go_wp2_with fail
      rw [HEQ.out]
      refine HCL.out.mono ?_
      rintro e w2 ⟨a2, c2, rfl, hb2, hr2⟩
      have hsz2 := hb2.size
      have k0 := below_cell hb2 hs1 r0
      have k1 := below_cell hb2 hs1 r1
      have k2 := below_cell hb2 hs1 r2
      have k3 := below_cell hb2 hs1 r3
      have q0 := below_free hb2 hs1 f0
      have q1 := below_free hb2 hs1 f1
      have q2 := below_free hb2 hs1 f2
      have q3 := below_free hb2 hs1 f3
      have HB2 := Lib.hid hb2
      have HR2 := Lib.hid hr2
      clear hb2 hr2
      simp only [rxv]
      go_wp2_with fail
      generalize hy : form (.mk 5 0 0 (drvL ch ks)) = y at *
      refine bodyPost_ret (v := .agg #[.int .i64 y.k, .int .u8 y.lo, .int .u8 y.hi, .slice a2 y.ks.length c2]) (by simp [results, Try.results42, go_sem, k0, k1, k2, k3]) rfl ?_
      refine ⟨a2, c2, rfl, set4_below (HBW.out.trans (HB2.out.mono (by omega))) (by omega) _ _ _ _, ?_⟩
      exact (HR2.out.keep (fun b hb hn => set4_other _ _ _ _ _ _ b (fun e => hn ⟨⟨.inr (by omega), by omega⟩, by omega⟩))).avoid (fun b _ hh => ⟨⟨.inl hh.1, by omega⟩, by omega⟩)
set_option maxRecDepth 100000 in
set_option maxHeartbeats 3200000 in
theorem derive_list6 (ch : Nat) (k : Int) (hkK : k = 6) (lo hi : Nat) (ks : List Rx) (ih : ∀ x ∈ ks, DrvC ch x) : DrvC ch (.mk k lo hi ks) := by
  intro hp hn w N f A a c hF hN hA hr
  obtain ⟨hk, hlo, hhi, fa, fc, hs⟩ := hr.old.kids
  have hkp := proper_kind hp
  have hl := hs.bd
  simp only [Rx.k_mk, Rx.lo_mk, Rx.hi_mk, Rx.ks_mk] at *
  have hnl : 1 + nodesL ks ≤ 300 := by simp only [nodes] at hn; omega
  have hkl := nodesL_length ks
  obtain ⟨v, hV, hlook⟩ := hF.look k hkp.1 hkp.2
  have HF := Lib.hid hF
  obtain ⟨mb, es, clock, hfm, _⟩ := hF
  obtain ⟨g, lb, hv, eg, hcall⟩ := hV
  subst hv hfm
  have hd : drv ch (.mk k lo hi ks) = form (.mk k 0 0 (drvL ch ks)) := by simp only [drv]; rw [if_neg (by omega), if_neg (by omega), if_pos (by omega)]
  have hdn := drvL_nodes_300 ch ks hnl
  have hok : FormOK (.mk k 0 0 (drvL ch ks)) := by
    refine formOK_of_proper ?_ ?_
    · have hp' : proper (.mk k 0 0 ks) = true := by
        have := proper_lohi hp (by simp only [Rx.k_mk]; omega)
        simp only [Rx.lo_mk, Rx.hi_mk] at this
        rw [this.1, this.2] at hp
        exact hp
      rw [drvL_map]; exact proper_map (drv ch) hp' fun x hx => drv_proper ch x (proper_kids hp x hx)
    · simp only [nodes]; omega
  have HI := Lib.hid ih
  have HS := Lib.hid hs
  have HP := Lib.hid (proper_kids hp)
  have HA := Lib.hid hA
  have HLOOK := Lib.hid hlook
  have HCALL := Lib.hid hcall
  have HOK := Lib.hid hok
  have HE1 := Lib.hid (((Ext.alloc w (.cells #[.int .i64 k, .int .u8 lo, .int .u8 hi, .slice a ks.length c] 54)).trans (Ext.alloc _ (.cells #[.int .i64 0, .int .u8 0, .int .u8 0, .slice none 0 0] 54))).trans (Ext.alloc _ (.cells #[.int .i64 k, .int .u8 0, .int .u8 0, .slice none 0 0] 54)))
  clear ih hs hr hn hp hA hlook hcall hok
  rw [hd]
  simp only [rxv, Rx.k_mk, Rx.lo_mk, Rx.hi_mk, Rx.ks_mk]
  subst hkK
  go_enter Try.func42, Try.ntmps42
  go_wp2
  go_loopw [76] (fun iv wr => ∃ (l : List Pl) (g : Option Addr) (cap : Nat), l.length ≤ ks.length ∧ iv = .int .i64 l.length ∧
      wr.cell? ⟨w.heap.size + 1 + 1, 3, none⟩ = some (.slice g l.length cap) ∧ wr.frozen? ⟨w.heap.size + 1 + 1, 3, none⟩ = false ∧
      Hid (wr.cell? ⟨w.heap.size + 1 + 1, 0, none⟩ = some (.int .i64 6) ∧ wr.cell? ⟨w.heap.size + 1 + 1, 1, none⟩ = some (.int .u8 0) ∧ wr.cell? ⟨w.heap.size + 1 + 1, 2, none⟩ = some (.int .u8 0)) ∧
      Hid (OwnRx wr (fun b => (A b ∨ w.heap.size ≤ b) ∧ b < w.heap.size + 1 + 1 + 1) (w.heap.size + 1 + 1 + 1) 54 (.slice g l.length cap) l) ∧ Hid (l.map Pl.r = (drvL ch ks).take l.length) ∧
      Below (w.heap.size + 1 + 1) ((w.alloc (.cells #[.int .i64 6, .int .u8 lo, .int .u8 hi, .slice a ks.length c] 54)).alloc (.cells #[.int .i64 0, .int .u8 0, .int .u8 0, .slice none 0 0] 54)) wr ∧ w.heap.size + 1 + 1 < wr.heap.size)
    (fun i _ => ks.length - (intOf i).toNat)
  case atStart => exact ⟨[], none, 0, Nat.zero_le _, rfl, by go_side, by go_side, Lib.hid ⟨by go_side, by go_side, by go_side⟩, Lib.hid (OwnRx.nil _ _ _ _), Lib.hid (by simp), ((Below.refl _ _).alloc (by simp) _), by simp only [World.size_alloc]; omega⟩
  case round =>
    obtain ⟨l, gk, cap, hle, rfl, hc3, hf3, HC, HO, HM, hb, hsz⟩ := hrel
    have hs0 : w.heap.size < wr.heap.size := by omega
    have hs1 : w.heap.size + 1 < wr.heap.size := by omega
    have hbw : Below w.heap.size w wr := (((Ext.alloc w _).trans (Ext.alloc _ _)).1).trans (hb.mono (by omega))
    by_cases hlt : l.length < ks.length
    · obtain ⟨b, o, x, rfl, hA', hbb, hx, hat, hxr⟩ := (HS.out.ext hbw).at hlt
      obtain ⟨g0, g1, g2, g3⟩ := hat
      have hE2 := Ext.alloc wr (.cells #[.int .i64 x.k, .int .u8 x.lo, .int .u8 x.hi, .slice (fa l.length) x.ks.length (fc l.length)] 54)
      have hxm := nodesL_mem (List.mem_of_getElem? hx)
      have hxn := drv_nodes_300 ch x (by omega)
      have HREC := Lib.hid (HI.out x (List.mem_of_getElem? hx) (HP.out x (List.mem_of_getElem? hx)) (by omega) (wr.alloc (.cells #[.int .i64 x.k, .int .u8 x.lo, .int .u8 x.hi, .slice (fa l.length) x.ks.length (fc l.length)] 54)).drew N _ (fun b => A b ∨ w.heap.size ≤ b) (fa l.length) (fc l.length) (HF.out.later (((hbw.trans (hE2.1.mono (by omega))).drew).mono hN)) (by show N ≤ (wr.alloc _).heap.size; simp only [World.size_alloc]; omega) (fun b hb hh => by rcases hh with hh | hh; exact HA.out b hb hh; omega) ((hxr.ext hE2.1).ext (Ext.drew _).1))
      have HX := Lib.hid hx
      have HB := Lib.hid hb
      have HE2 := Lib.hid hE2
      clear hx hxr hE2 hxm hb hbw
      go_wp2_with fail
      have hs2 : wr.heap.size < wr.heap.size + 1 := by omega
      have hs3 : w.heap.size + 1 + 1 < wr.heap.size + 1 := by omega
      have hmk : ∀ (w1 : World) (a1 : Option Addr) (c1 : Nat), Below (wr.alloc (.cells #[.int .i64 x.k, .int .u8 x.lo, .int .u8 x.hi, .slice (fa l.length) x.ks.length (fc l.length)] 54)).drew.heap.size (wr.alloc (.cells #[.int .i64 x.k, .int .u8 x.lo, .int .u8 x.hi, .slice (fa l.length) x.ks.length (fc l.length)] 54)).drew w1 →
          RxRep w1 (fun b => (A b ∨ w.heap.size ≤ b) ∧ b < (wr.alloc (.cells #[.int .i64 x.k, .int .u8 x.lo, .int .u8 x.hi, .slice (fa l.length) x.ks.length (fc l.length)] 54)).drew.heap.size) (drv ch x) a1 c1 →
          RxsRep (w1.alloc (.cells #[.int .i64 (drv ch x).k, .int .u8 (drv ch x).lo, .int .u8 (drv ch x).hi, .slice a1 (drv ch x).ks.length c1] 54)) (fun b => ((A b ∨ w.heap.size ≤ b) ∧ b < w.heap.size + 1 + 1 + 1) ∨ (Value.slice gk l.length cap).ownBlock = some b) [drv ch x] (some ⟨w1.heap.size, 0, none⟩) 1 (fun _ => a1) (fun _ => c1) := by
        intro w1 a1 c1 hb1 hr1
        have e1 : (wr.alloc (.cells #[.int .i64 x.k, .int .u8 x.lo, .int .u8 x.hi, .slice (fa l.length) x.ks.length (fc l.length)] 54)).drew.heap.size = wr.heap.size + 1 := World.size_alloc _ _
        have h1 := hb1.size
        rw [e1] at hr1 h1
        exact normal_hsr (B := fun b => A b ∨ w.heap.size ≤ b) (h := w.heap.size + 1 + 1 + 1) (b0 := w.heap.size) (by omega) h1 hr1 HO.out (by omega) (fun b hb => .inr hb) (by omega)
      have HMK := Lib.hid hmk
      clear hmk
      go_region_law
        (first
          | (go_simp; go_at_call 42; refine HREC.out.mono ?_; rintro e w1 ⟨a1, c1, rfl, hb1, hr1⟩; have hb2 : Below wr.heap.size wr w1 := (HE2.out.1.drew).trans (hb1.mono (by simp)); have hc3' := below_cell hb2 hsz hc3; have hf3' := below_free hb2 hsz hf3; have hsz1 := hb2.size; have hs5 : w.heap.size + 1 + 1 < w1.heap.size := (by omega); have HB2 := Lib.hid hb2; have HSR := Lib.hid (HMK.out w1 a1 c1 hb1 hr1); clear hb1 hr1 hb2; simp only [rxv])
          | (refine step_append_rx (by rfl) _ _ 52 54 (by rfl) tabR (fun b => (A b ∨ w.heap.size ≤ b) ∧ b < w.heap.size + 1 + 1 + 1) (w.heap.size + 1 + 1 + 1) _ l (by rfl) (HO.out.ext (ext_trans HB2.out (Ext.alloc _ _).1)) (by simp; omega) [drv ch x] (some ⟨w1.heap.size, 0, none⟩) 1 (fun _ => a1) (fun _ => c1) (by rfl) HSR.out (by simp; omega) (fun b hb => by simp; omega) ?_; intro g' cap' w2 hown2 hb4; have hc4 := below_cell hb4 (show w.heap.size + 1 + 1 < w.heap.size + 1 + 1 + 1 by omega) ((Ext.alloc w1 _).cell hc3'); have hf4 := below_free hb4 (show w.heap.size + 1 + 1 < w.heap.size + 1 + 1 + 1 by omega) (below_free (Ext.alloc w1 _).1 (show w.heap.size + 1 + 1 < w1.heap.size by omega) hf3'); have hsz4 := hb4.size; simp only [World.size_alloc] at hsz4; have HO2 := Lib.hid hown2; have HB4 := Lib.hid hb4; clear hown2 hb4))
      all_goals
        go_wp2_with fail
        go_roundw
        case rel =>
          obtain ⟨e0, e1, e2⟩ := HC.out
          have hW : Below wr.heap.size wr (w1.alloc (.cells #[.int .i64 (drv ch x).k, .int .u8 (drv ch x).lo, .int .u8 (drv ch x).hi, .slice a1 (drv ch x).ks.length c1] 54)) := ext_trans HB2.out (Ext.alloc _ _).1
          have f0 := below_cell hW hsz e0
          have f1 := below_cell hW hsz e1
          have f2 := below_cell hW hsz e2
          have k0 := below_cell HB4.out (show w.heap.size + 1 + 1 < w.heap.size + 1 + 1 + 1 by omega) f0
          have k1 := below_cell HB4.out (show w.heap.size + 1 + 1 < w.heap.size + 1 + 1 + 1 by omega) f1
          have k2 := below_cell HB4.out (show w.heap.size + 1 + 1 < w.heap.size + 1 + 1 + 1 by omega) f2
          have hO := (HO2.out).setBelow (b := w.heap.size + 1 + 1) (by omega) ⟨.inr (by omega), by omega⟩ 3 (.slice g' (l.length + 1) cap')
          refine ⟨l ++ [⟨drv ch x, a1, c1⟩], g', cap', by simp; omega, by simp, by simp [go_sem, hc4], by simp [go_sem, hf4], Lib.hid ⟨by simp [go_sem, k0], by simp [go_sem, k1], by simp [go_sem, k2]⟩, Lib.hid (by simpa [pls_one] using hO), Lib.hid ?_, ?_, ?_⟩
          · rw [List.map_append, HM.out]
            simp only [List.map_cons, List.map_nil, List.length_append, List.length_singleton]
            rw [drvL_take ch ks l.length x HX.out]
          · exact ((HB.out.trans (hW.mono (by omega))).trans (HB4.out.mono (by omega))).setCell (by simp) _
          · simp only [World.size_setCell]; omega
        case measure => simp [intOf]; omega
    · have he : l.length = ks.length := by omega
      have hm := HM.out
      rw [he, List.take_of_length_le (by rw [drvL_length]; omega)] at hm
      obtain ⟨⟨r0, r1, r2, r3⟩, f0, f1, f2, f3⟩ := below_box4' hb (by omega)
      obtain ⟨b0, b1, b2, b3⟩ := below_box4 hb (by omega)
      obtain ⟨e0, e1, e2⟩ := HC.out
      have hlk := HLOOK.out wr (hbw.mono hN)
      have hrep := HO.out.rep (fun b hb hh => by omega)
      rw [hm] at hrep
      have hrx : RxRep wr (fun b => (A b ∨ w.heap.size ≤ b) ∧ b < w.heap.size + 1 + 1 + 1) (.mk 6 0 0 (drvL ch ks)) gk cap := hrep.rx hk (by omega) (by omega)
      have HCL := Lib.hid (HCALL.out wr _ _ gk cap (hbw.mono hN) (by omega) (fun b hb hh => by rcases hh.1 with h | h; exact HA.out b hb h; omega) rfl HOK.out hrx)
      have HEQ := Lib.hid (show l.length = (drvL ch ks).length by rw [he, drvL_length])
      have HBW := Lib.hid hbw
      have HB := Lib.hid hb
      clear he hm hrep hrx hbw hb
      go_wp2_with fail
      rw [HEQ.out]
      refine HCL.out.mono ?_
      rintro e w2 ⟨a2, c2, rfl, hb2, hr2⟩
      have hsz2 := hb2.size
      have k0 := below_cell hb2 hs1 r0
      have k1 := below_cell hb2 hs1 r1
      have k2 := below_cell hb2 hs1 r2
      have k3 := below_cell hb2 hs1 r3
      have q0 := below_free hb2 hs1 f0
      have q1 := below_free hb2 hs1 f1
      have q2 := below_free hb2 hs1 f2
      have q3 := below_free hb2 hs1 f3
      have HB2 := Lib.hid hb2
      have HR2 := Lib.hid hr2
      clear hb2 hr2
      simp only [rxv]
      go_wp2_with fail
      generalize hy : form (.mk 6 0 0 (drvL ch ks)) = y at *
      refine bodyPost_ret (v := .agg #[.int .i64 y.k, .int .u8 y.lo, .int .u8 y.hi, .slice a2 y.ks.length c2]) (by simp [results, Try.results42, go_sem, k0, k1, k2, k3]) rfl ?_
      refine ⟨a2, c2, rfl, set4_below (HBW.out.trans (HB2.out.mono (by omega))) (by omega) _ _ _ _, ?_⟩
      exact (HR2.out.keep (fun b hb hn => set4_other _ _ _ _ _ _ b (fun e => hn ⟨⟨.inr (by omega), by omega⟩, by omega⟩))).avoid (fun b _ hh => ⟨⟨.inl hh.1, by omega⟩, by omega⟩)
end Go.Proofs.Ytbepohpppailnaa
