/- Walks: derive, for Star. -/
import Derived.Test.YtbepohpppailnaaWJ
import Derived.Deep.RegionLaw
set_option linter.unusedSimpArgs false
set_option linter.unusedVariables false
namespace Go.Proofs.Ytbepohpppailnaa
open Go.RowKit
attribute [local go_sem ↓] Go.wp_at_zero Go.wp_at_succ

theorem below_three {w w1 : World} {v0 v1 v2 v3 z0 z1 z2 z3 u0 u1 u2 u3 : Value} {t : TypeId} (h : Below (w.heap.size + 1 + 1 + 1) ((((w.alloc (.cells #[v0, v1, v2, v3] t)).alloc (.cells #[z0, z1, z2, z3] t)).alloc (.cells #[u0, u1, u2, u3] t)).drew) w1) :
    (w1.cell? ⟨w.heap.size, 0, none⟩ = some v0 ∧ w1.cell? ⟨w.heap.size, 1, none⟩ = some v1 ∧ w1.cell? ⟨w.heap.size, 2, none⟩ = some v2 ∧ w1.cell? ⟨w.heap.size, 3, none⟩ = some v3) ∧
    (w1.cell? ⟨w.heap.size + 1, 0, none⟩ = some z0 ∧ w1.cell? ⟨w.heap.size + 1, 1, none⟩ = some z1 ∧ w1.cell? ⟨w.heap.size + 1, 2, none⟩ = some z2 ∧ w1.cell? ⟨w.heap.size + 1, 3, none⟩ = some z3) ∧
    (w1.frozen? ⟨w.heap.size + 1, 0, none⟩ = false ∧ w1.frozen? ⟨w.heap.size + 1, 1, none⟩ = false ∧ w1.frozen? ⟨w.heap.size + 1, 2, none⟩ = false ∧ w1.frozen? ⟨w.heap.size + 1, 3, none⟩ = false) ∧
    (w1.cell? ⟨w.heap.size + 1 + 1, 0, none⟩ = some u0 ∧ w1.cell? ⟨w.heap.size + 1 + 1, 1, none⟩ = some u1 ∧ w1.cell? ⟨w.heap.size + 1 + 1, 2, none⟩ = some u2 ∧ w1.cell? ⟨w.heap.size + 1 + 1, 3, none⟩ = some u3) ∧
    w1.frozen? ⟨w.heap.size + 1 + 1, 3, none⟩ = false ∧ w.heap.size + 1 + 1 + 1 ≤ w1.heap.size := by
  have hs := h.size
  simp [World.drew] at hs
  have l0 : w.heap.size < w.heap.size + 1 + 1 + 1 := by omega
  have l1 : w.heap.size + 1 < w.heap.size + 1 + 1 + 1 := by omega
  have l2 : w.heap.size + 1 + 1 < w.heap.size + 1 + 1 + 1 := by omega
  exact ⟨⟨below_cell h l0 (by go_side), below_cell h l0 (by go_side), below_cell h l0 (by go_side), below_cell h l0 (by go_side)⟩, ⟨below_cell h l1 (by go_side), below_cell h l1 (by go_side), below_cell h l1 (by go_side), below_cell h l1 (by go_side)⟩,
    ⟨below_free h l1 (by go_side), below_free h l1 (by go_side), below_free h l1 (by go_side), below_free h l1 (by go_side)⟩, ⟨below_cell h l2 (by go_side), below_cell h l2 (by go_side), below_cell h l2 (by go_side), below_cell h l2 (by go_side)⟩, below_free h l2 (by go_side), by omega⟩

theorem RxsRep.two {w : World} {A : Nat → Prop} {B : Nat} {r s : Rx} {a a' : Option Addr} {c c' : Nat} (h : rxAt w B 0 r a c) (hr : RxRep w A r a c) (h' : rxAt w B 4 s a' c') (hr' : RxRep w A s a' c') (hA : ¬ A B) :
    RxsRep w A [r, s] (some ⟨B, 0, none⟩) 2 (fun i => if i = 0 then a else a') (fun i => if i = 0 then c else c') := by
  refine ⟨⟨by simp, by omega⟩, fun h => by simp at h, fun _ => ⟨B, 0, rfl, hA, fun i x hi => ?_⟩, fun i x hi => ?_⟩
  · match i, hi with
    | 0, hi => simp at hi; subst hi; simpa using h
    | 1, hi => simp at hi; subst hi; simpa using h'
  · match i, hi with
    | 0, hi => simp at hi; subst hi; simpa using hr
    | 1, hi => simp at hi; subst hi; simpa using hr'

set_option maxRecDepth 100000 in
set_option maxHeartbeats 3200000 in
theorem derive_star (ch : Nat) (lo hi : Nat) (ks : List Rx) (ih : ∀ x ∈ ks, DrvC ch x) : DrvC ch (.mk 7 lo hi ks) := by
  intro hp hn w N f A a c hF hN hA hr
  obtain ⟨x, hx⟩ := proper_one hp (.inr rfl)
  simp only [Rx.ks_mk] at hx
  subst hx
  have hold := hr.old
  obtain ⟨hk, hlo, hhi, fa, fc, hs⟩ := hold.kids
  have hl := hs.bd
  have hlohi := proper_lohi hp (by simp only [Rx.k_mk]; omega)
  simp only [Rx.k_mk, Rx.lo_mk, Rx.hi_mk, Rx.ks_mk] at *
  obtain ⟨rfl, rfl⟩ := hlohi
  have hxn : nodes x ≤ 300 := by simp only [nodes, nodesL] at hn; omega
  have hxd := drv_nodes_300 ch x hxn
  have hxp := proper_kids hp x List.mem_cons_self
  obtain ⟨v, hV, hlook⟩ := hF.look 3 (by omega) (by omega)
  have HF := Lib.hid hF
  obtain ⟨mb, es, clock, hfm, _⟩ := hF
  obtain ⟨g, lb, hv, eg, hcall⟩ := hV
  subst hv hfm
  have hd : drv ch (.mk 7 0 0 [x]) = form (.mk 3 0 0 [drv ch x, .mk 7 0 0 [x]]) := by simp only [drv, drvL]; rw [if_neg (by omega), if_neg (by omega), if_neg (by omega), if_pos trivial]; rfl
  have hok : FormOK (.mk 3 0 0 [drv ch x, .mk 7 0 0 [x]]) := by
    refine formOK_of_proper (proper_join (.inl rfl) fun y hy => ?_) ?_
    · simp only [List.mem_cons, List.not_mem_nil, or_false] at hy
      rcases hy with rfl | rfl
      · exact drv_proper ch x hxp
      · exact hp
    · simp only [nodes, nodesL] at hn ⊢; omega
  have hE1 := (((Ext.alloc w (.cells #[.int .i64 7, .int .u8 0, .int .u8 0, .slice a 1 c] 54)).trans (Ext.alloc _ (.cells #[.int .i64 0, .int .u8 0, .int .u8 0, .slice none 0 0] 54))).trans (Ext.alloc _ (.cells #[.int .i64 3, .int .u8 0, .int .u8 0, .slice none 0 0] 54)))
  obtain ⟨b, o, x', rfl, hA', hbb, hx, hat, hxr⟩ := hs.at (i := 0) (by simp)
  simp only [List.getElem?_cons_zero, Option.some.injEq] at hx
  subst hx
  obtain ⟨g0, g1, g2, g3⟩ := hat
  simp only [Nat.zero_mul, Nat.add_zero] at g0 g1 g2 g3
  have hsW : ((((w.alloc (.cells #[.int .i64 7, .int .u8 0, .int .u8 0, .slice (some ⟨b, o, none⟩) 1 c] 54)).alloc (.cells #[.int .i64 0, .int .u8 0, .int .u8 0, .slice none 0 0] 54)).alloc (.cells #[.int .i64 3, .int .u8 0, .int .u8 0, .slice none 0 0] 54)).drew).heap.size = w.heap.size + 1 + 1 + 1 := by simp [World.drew]
  have HREC := Lib.hid (ih x List.mem_cons_self hxp hxn ((((w.alloc (.cells #[.int .i64 7, .int .u8 0, .int .u8 0, .slice (some ⟨b, o, none⟩) 1 c] 54)).alloc (.cells #[.int .i64 0, .int .u8 0, .int .u8 0, .slice none 0 0] 54)).alloc (.cells #[.int .i64 3, .int .u8 0, .int .u8 0, .slice none 0 0] 54)).drew) N _ (fun b => A b ∨ w.heap.size ≤ b) (fa 0) (fc 0) (HF.out.later ((hE1.1.drew).mono hN)) (by rw [hsW]; omega) (fun b hb hh => by rcases hh with hh | hh; exact hA b hb hh; omega) ((hxr.ext hE1.1).ext (Ext.drew _).1))
  have HMK : Hid (∀ (w1 : World) (a1 : Option Addr) (c1 : Nat), Below (w.heap.size + 1 + 1 + 1) ((((w.alloc (.cells #[.int .i64 7, .int .u8 0, .int .u8 0, .slice (some ⟨b, o, none⟩) 1 c] 54)).alloc (.cells #[.int .i64 0, .int .u8 0, .int .u8 0, .slice none 0 0] 54)).alloc (.cells #[.int .i64 3, .int .u8 0, .int .u8 0, .slice none 0 0] 54)).drew) w1 → RxRep w1 (fun b => (A b ∨ w.heap.size ≤ b) ∧ b < w.heap.size + 1 + 1 + 1) (drv ch x) a1 c1 →
      Below w.heap.size w ((w1.setCell ⟨w.heap.size + 1 + 1, 3, none⟩ (.slice (some ⟨w1.heap.size, 0, none⟩) 2 2)).alloc (.cells #[.int .i64 (drv ch x).k, .int .u8 (drv ch x).lo, .int .u8 (drv ch x).hi, .slice a1 (drv ch x).ks.length c1, .int .i64 7, .int .u8 0, .int .u8 0, .slice (some ⟨b, o, none⟩) 1 c] 54)) ∧ RxsRep ((w1.setCell ⟨w.heap.size + 1 + 1, 3, none⟩ (.slice (some ⟨w1.heap.size, 0, none⟩) 2 2)).alloc (.cells #[.int .i64 (drv ch x).k, .int .u8 (drv ch x).lo, .int .u8 (drv ch x).hi, .slice a1 (drv ch x).ks.length c1, .int .i64 7, .int .u8 0, .int .u8 0, .slice (some ⟨b, o, none⟩) 1 c] 54)) (fun b => (A b ∨ w.heap.size ≤ b) ∧ b < w.heap.size + 1 + 1 + 1) [drv ch x, .mk 7 0 0 [x]] (some ⟨w1.heap.size, 0, none⟩) 2 (fun i => if i = 0 then a1 else some ⟨b, o, none⟩) (fun i => if i = 0 then c1 else c)) := by
    refine Lib.hid fun w1 a1 c1 hb hr1 => ?_
    have hs1 := hb.size
    rw [hsW] at hs1
    have hss : (w1.setCell ⟨w.heap.size + 1 + 1, 3, none⟩ (.slice (some ⟨w1.heap.size, 0, none⟩) 2 2)).heap.size = w1.heap.size := World.size_setCell _ _ _
    have hE3 := (Ext.alloc (w1.setCell ⟨w.heap.size + 1 + 1, 3, none⟩ (.slice (some ⟨w1.heap.size, 0, none⟩) 2 2)) (.cells #[.int .i64 (drv ch x).k, .int .u8 (drv ch x).lo, .int .u8 (drv ch x).hi, .slice a1 (drv ch x).ks.length c1, .int .i64 7, .int .u8 0, .int .u8 0, .slice (some ⟨b, o, none⟩) 1 c] 54)).1
    rw [hss] at hE3
    have hnew : ∀ k, k < w1.heap.size → k ≠ w.heap.size + 1 + 1 → ((w1.setCell ⟨w.heap.size + 1 + 1, 3, none⟩ (.slice (some ⟨w1.heap.size, 0, none⟩) 2 2)).alloc (.cells #[.int .i64 (drv ch x).k, .int .u8 (drv ch x).lo, .int .u8 (drv ch x).hi, .slice a1 (drv ch x).ks.length c1, .int .i64 7, .int .u8 0, .int .u8 0, .slice (some ⟨b, o, none⟩) 1 c] 54)).heap[k]? = w1.heap[k]? := fun k hk hn => (hE3.block k hk).trans (Below.heap_setCell w1 ⟨w.heap.size + 1 + 1, 3, none⟩ _ k hn)
    have hB3 : Below w.heap.size w ((w1.setCell ⟨w.heap.size + 1 + 1, 3, none⟩ (.slice (some ⟨w1.heap.size, 0, none⟩) 2 2)).alloc (.cells #[.int .i64 (drv ch x).k, .int .u8 (drv ch x).lo, .int .u8 (drv ch x).hi, .slice a1 (drv ch x).ks.length c1, .int .i64 7, .int .u8 0, .int .u8 0, .slice (some ⟨b, o, none⟩) 1 c] 54)) := ((hE1.1.drew).trans (hb.mono (by omega))).trans (((Below.refl w.heap.size w1).setCell (p := ⟨w.heap.size + 1 + 1, 3, none⟩) (by show w.heap.size ≤ w.heap.size + 1 + 1; omega) _).trans (hE3.mono (by omega)))
    refine ⟨hB3, RxsRep.two ?_ ?_ ?_ ?_ (by omega)⟩
    · rw [← hss]
      exact ⟨by go_side, by go_side, by go_side, by go_side⟩
    · exact hr1.keep fun k hk' hk => hnew k hk' fun e => hk ⟨.inr (by omega), by omega⟩
    · rw [← hss]
      unfold rxAt
      simp only [Rx.k_mk, Rx.lo_mk, Rx.hi_mk, Rx.ks_mk, List.length_singleton, Int.natCast_zero]
      exact ⟨by go_side, by go_side, by go_side, by go_side⟩
    · exact (hold.ext hB3).avoid fun _ _ hh => hh.1
  rw [hd]
  simp only [rxv, Rx.k_mk, Rx.lo_mk, Rx.hi_mk, Rx.ks_mk, List.length_singleton] at *
  have HA := Lib.hid hA
  have HLOOK := Lib.hid hlook
  have HCALL := Lib.hid hcall
  have HOK := Lib.hid hok
  have HE1 := Lib.hid hE1
  have HSW := Lib.hid hsW
  have hbb' : b < w.heap.size := hbb
  have hbb1 : b < w.heap.size + 1 := by omega
  have hbb2 : b < w.heap.size + 1 + 1 := by omega
  clear hold hxr hE1 hs hr hA hlook hcall hok hd hp hn hsW ih
  go_enter Try.func42, Try.ntmps42
  go_wp2
  go_region_law
    (go_simp; go_at_call 42; refine HREC.out.mono ?_; rintro e w1 ⟨a1, c1, rfl, hb1, hr1⟩; rw [HSW.out] at hb1 hr1; have hce := below_three hb1; obtain ⟨⟨r0, r1, r2, r3⟩, hz, hf, ⟨d0, d1, d2, d3⟩, f3, hs1⟩ := hce; have HZ := Lib.hid hz; have HF1 := Lib.hid hf; clear hz hf; have hs2 : w.heap.size < w1.heap.size := (by omega); have hs3 : w.heap.size + 1 < w1.heap.size := (by omega); have hs4 : w.heap.size + 1 + 1 < w1.heap.size := (by omega); have HB1 := Lib.hid hb1; have hmk := HMK.out w1 a1 c1 hb1 hr1; have HB3 := Lib.hid hmk.1; have HSR := Lib.hid hmk.2; clear hmk; clear hb1 hr1; simp only [rxv])
  all_goals
    have hs5 : N ≤ ((w1.setCell ⟨w.heap.size + 1 + 1, 3, none⟩ (.slice (some ⟨w1.heap.size, 0, none⟩) 2 2)).alloc (.cells #[.int .i64 (drv ch x).k, .int .u8 (drv ch x).lo, .int .u8 (drv ch x).hi, .slice a1 (drv ch x).ks.length c1, .int .i64 7, .int .u8 0, .int .u8 0, .slice (some ⟨b, o, none⟩) 1 c] 54)).heap.size := by simp only [World.size_alloc, World.size_setCell]; omega
    have hlk := HLOOK.out ((w1.setCell ⟨w.heap.size + 1 + 1, 3, none⟩ (.slice (some ⟨w1.heap.size, 0, none⟩) 2 2)).alloc (.cells #[.int .i64 (drv ch x).k, .int .u8 (drv ch x).lo, .int .u8 (drv ch x).hi, .slice a1 (drv ch x).ks.length c1, .int .i64 7, .int .u8 0, .int .u8 0, .slice (some ⟨b, o, none⟩) 1 c] 54)) (HB3.out.mono hN)
    have HCL := Lib.hid (HCALL.out ((w1.setCell ⟨w.heap.size + 1 + 1, 3, none⟩ (.slice (some ⟨w1.heap.size, 0, none⟩) 2 2)).alloc (.cells #[.int .i64 (drv ch x).k, .int .u8 (drv ch x).lo, .int .u8 (drv ch x).hi, .slice a1 (drv ch x).ks.length c1, .int .i64 7, .int .u8 0, .int .u8 0, .slice (some ⟨b, o, none⟩) 1 c] 54)) (fun b => (A b ∨ w.heap.size ≤ b) ∧ b < w.heap.size + 1 + 1 + 1) (.mk 3 0 0 [drv ch x, .mk 7 0 0 [x]]) (some ⟨w1.heap.size, 0, none⟩) 2 (HB3.out.mono hN) hs5 (fun b hb hh => by rcases hh.1 with h | h; exact HA.out b hb h; omega) rfl HOK.out (HSR.out.rx (by omega) (by omega) (by omega)))
    simp only [Rx.k_mk, Rx.lo_mk, Rx.hi_mk, Rx.ks_mk, List.length_cons, List.length_nil] at HCL
    go_wp2_with fail
    refine HCL.out.mono ?_
    rintro e w2 ⟨a2, c2, rfl, hb2, hr2⟩
    have hsz : ((w1.setCell ⟨w.heap.size + 1 + 1, 3, none⟩ (.slice (some ⟨w1.heap.size, 0, none⟩) 2 2)).alloc (.cells #[.int .i64 (drv ch x).k, .int .u8 (drv ch x).lo, .int .u8 (drv ch x).hi, .slice a1 (drv ch x).ks.length c1, .int .i64 7, .int .u8 0, .int .u8 0, .slice (some ⟨b, o, none⟩) 1 c] 54)).heap.size = w1.heap.size + 1 := by simp only [World.size_alloc, World.size_setCell]
    have hsz2 := hb2.size
    rw [hsz] at hb2 hr2 hsz2
    obtain ⟨z0, z1, z2, z3⟩ := HZ.out
    obtain ⟨q0, q1, q2, q3⟩ := HF1.out
    have k0 := below_cell hb2 (p := ⟨w.heap.size + 1, 0, none⟩) (show w.heap.size + 1 < w1.heap.size + 1 by omega) (v := .int .i64 0) (by go_side)
    have k1 := below_cell hb2 (p := ⟨w.heap.size + 1, 1, none⟩) (show w.heap.size + 1 < w1.heap.size + 1 by omega) (v := .int .u8 0) (by go_side)
    have k2 := below_cell hb2 (p := ⟨w.heap.size + 1, 2, none⟩) (show w.heap.size + 1 < w1.heap.size + 1 by omega) (v := .int .u8 0) (by go_side)
    have k3 := below_cell hb2 (p := ⟨w.heap.size + 1, 3, none⟩) (show w.heap.size + 1 < w1.heap.size + 1 by omega) (v := .slice none 0 0) (by go_side)
    have p0 := below_free hb2 (p := ⟨w.heap.size + 1, 0, none⟩) (show w.heap.size + 1 < w1.heap.size + 1 by omega) (by go_side)
    have p1 := below_free hb2 (p := ⟨w.heap.size + 1, 1, none⟩) (show w.heap.size + 1 < w1.heap.size + 1 by omega) (by go_side)
    have p2 := below_free hb2 (p := ⟨w.heap.size + 1, 2, none⟩) (show w.heap.size + 1 < w1.heap.size + 1 by omega) (by go_side)
    have p3 := below_free hb2 (p := ⟨w.heap.size + 1, 3, none⟩) (show w.heap.size + 1 < w1.heap.size + 1 by omega) (by go_side)
    have hs6 : w.heap.size + 1 < w2.heap.size := by omega
    have HB2 := Lib.hid hb2
    have HR2 := Lib.hid hr2
    clear hb2 hr2
    simp only [rxv]
    go_wp2_with fail
    generalize hy : form (.mk 3 0 0 [drv ch x, .mk 7 0 0 [x]]) = y at *
    refine bodyPost_ret (v := .agg #[.int .i64 y.k, .int .u8 y.lo, .int .u8 y.hi, .slice a2 y.ks.length c2]) (by simp [results, Try.results42, go_sem, k0, k1, k2, k3]) rfl ?_
    refine ⟨a2, c2, rfl, set4_below (HB3.out.trans (HB2.out.mono (by omega))) (by omega) _ _ _ _, ?_⟩
    exact (HR2.out.keep (fun b hb hn => set4_other _ _ _ _ _ _ b (fun e => hn ⟨⟨.inr (by omega), by omega⟩, by omega⟩))).avoid (fun b _ hh => ⟨⟨.inl hh.1, by omega⟩, by omega⟩)
end Go.Proofs.Ytbepohpppailnaa
