/- Walks: derive, for Cat. -/
import Derived.Test.YtbepohpppailnaaWK
import Derived.Test.YtbepohpppailnaaWL
set_option linter.unusedSimpArgs false
set_option linter.unusedVariables false
namespace Go.Proofs.Ytbepohpppailnaa
open Go.RowKit
attribute [local go_sem ↓] Go.wp_at_zero Go.wp_at_succ

/-- the rest of a list of expressions, as Go reslices it -/
theorem RxsRep.drop {w : World} {A : Nat → Prop} {ks : List Rx} {b o c : Nat} {fa : Nat → Option Addr} {fc : Nat → Nat} (h : RxsRep w A ks (some ⟨b, o, none⟩) c fa fc) (i : Nat) (hi : i ≤ ks.length) :
    RxsRep w A (ks.drop i) (if c = i then some ⟨b, o, none⟩ else some ⟨b, o + i * 4, none⟩) (c - i) (fun j => fa (i + j)) (fun j => fc (i + j)) := by
  have hbd := h.bd
  refine ⟨by rw [List.length_drop]; omega, fun hh => by (split at hh <;> cases hh), fun hp => ?_, fun j r hj => h.hks _ _ (by rwa [List.getElem?_drop] at hj)⟩
  rw [List.length_drop] at hp
  obtain ⟨b', o', h1, h2, h3⟩ := h.ho (by omega)
  cases h1
  refine ⟨b, o + i * 4, by rw [if_neg (by omega)], h2, fun j r hj => ?_⟩
  have := h3 (i + j) r (by rwa [List.getElem?_drop] at hj)
  rw [show o + i * 4 + j * 4 = o + (i + j) * 4 by omega]
  exact this

theorem wp_cut {P : Program} {c : Code} {Q : Exit → Act → World → Prop} {a : Act} {w : World} (F : Act → Exit → Act → World → Prop) (h1 : c.wp P (F a) a w) (h2 : ∀ e a' w', F a e a' w' → Q e a' w') : c.wp P Q a w :=
  Code.wp_mono h2 h1

set_option maxRecDepth 100000 in
set_option maxHeartbeats 3200000 in
theorem derive_cat (ch : Nat) (lo hi : Nat) (ks : List Rx) (ih : ∀ x ∈ ks, DrvC ch x) : DrvC ch (.mk 3 lo hi ks) := by
  intro hp hn w N f A a c hF hN hA hr
  obtain ⟨hk, hlo, hhi, fa, fc, hs⟩ := hr.old.kids
  have hl := hs.bd
  simp only [Rx.k_mk, Rx.lo_mk, Rx.hi_mk, Rx.ks_mk] at *
  have hnl : 1 + nodesL ks ≤ 300 := by simp only [nodes] at hn; omega
  have hkl := nodesL_length ks
  obtain ⟨v4, hV4, hlook4⟩ := hF.look 4 (by omega) (by omega)
  obtain ⟨v3, hV3, hlook3⟩ := hF.look 3 (by omega) (by omega)
  have HF := Lib.hid hF
  obtain ⟨mb, es, clock, hfm, _⟩ := hF
  obtain ⟨g4, lb4, hv4, eg4, hcall4⟩ := hV4
  obtain ⟨g3, lb3, hv3, eg3, hcall3⟩ := hV3
  subst hv4 hv3 hfm
  have hd : drv ch (.mk 3 lo hi ks) = form (.mk 4 0 0 (drvCat ch ks)) := by simp only [drv]; rw [if_neg (by omega), if_pos trivial]
  have hpk := proper_kids hp
  simp only [Rx.ks_mk] at hpk
  have hok4 : FormOK (.mk 4 0 0 (drvCat ch ks)) := by
    refine formOK_of_proper (proper_join (.inr (.inl rfl)) (drvCat_proper (fun x hx => drv_proper ch x (hpk x hx)) hpk)) ?_
    have := drvCat_nodes_300 ch ks hnl
    simp only [nodes]; omega
  have hok3 : ∀ (i : Nat) (x : Rx), ks[i]? = some x → FormOK (.mk 3 0 0 (drv ch x :: ks.drop (i + 1))) := by
    intro i x hx
    have hm := List.mem_of_getElem? hx
    refine formOK_of_proper (proper_join (.inl rfl) fun y hy => ?_) ?_
    · rcases List.mem_cons.1 hy with rfl | hy
      · exact drv_proper ch x (hpk x hm)
      · exact hpk y (List.mem_of_mem_drop hy)
    · have h1 := drv_nodes_300 ch x (by have := nodesL_mem hm; omega)
      have h2 := nodesL_append (ks.take (i + 1)) (ks.drop (i + 1))
      rw [List.take_append_drop] at h2
      simp only [nodes, nodesL]; omega
  have HEND : Hid (∀ (W : World) (l' : List Pl) (g' : Option Addr) (cap' : Nat), Below (w.heap.size + 1 + 1) ((w.alloc (.cells #[.int .i64 3, .int .u8 lo, .int .u8 hi, .slice a ks.length c] 54)).alloc (.cells #[.int .i64 0, .int .u8 0, .int .u8 0, .slice none 0 0] 54)) W → w.heap.size + 1 + 1 < W.heap.size → OwnRx W (fun b => (A b ∨ w.heap.size ≤ b) ∧ b < w.heap.size + 1 + 1 + 1) (w.heap.size + 1 + 1 + 1) 54 (.slice g' l'.length cap') l' → l'.map Pl.r = drvCat ch ks →
      ((W.cell? ⟨w.heap.size + 1, 0, none⟩ = some (.int .i64 0) ∧ W.cell? ⟨w.heap.size + 1, 1, none⟩ = some (.int .u8 0) ∧ W.cell? ⟨w.heap.size + 1, 2, none⟩ = some (.int .u8 0) ∧ W.cell? ⟨w.heap.size + 1, 3, none⟩ = some (.slice none 0 0)) ∧
        W.frozen? ⟨w.heap.size + 1, 0, none⟩ = false ∧ W.frozen? ⟨w.heap.size + 1, 1, none⟩ = false ∧ W.frozen? ⟨w.heap.size + 1, 2, none⟩ = false ∧ W.frozen? ⟨w.heap.size + 1, 3, none⟩ = false) ∧
      (Instr.lookup 75 (.map (some mb)) (.int .i64 4) false).run Try.prog W = .ok (.func (.func g4) #[] lb4) W ∧
      Calls Try.prog g4 (#[.agg #[.int .i64 4, .int .u8 0, .int .u8 0, .slice g' l'.length cap']] ++ lb4) W (FnRx W (fun b => (A b ∨ w.heap.size ≤ b) ∧ b < w.heap.size + 1 + 1 + 1) (form (.mk 4 0 0 (drvCat ch ks)))) ∧ Below w.heap.size w W) := by
    refine Lib.hid fun W l' g' cap' hb hsz ho hm => ?_
    have hbw : Below w.heap.size w W := (((Ext.alloc w _).trans (Ext.alloc _ _)).1).trans (hb.mono (by omega))
    have hrep := ho.rep (fun b hb hh => by omega)
    have hlen : l'.length = (drvCat ch ks).length := by rw [← hm, List.length_map]
    rw [hm] at hrep
    refine ⟨below_box4' hb (by omega), hlook4 W (hbw.mono hN), ?_, hbw⟩
    have := hcall4 W (fun b => (A b ∨ w.heap.size ≤ b) ∧ b < w.heap.size + 1 + 1 + 1) (.mk 4 0 0 (drvCat ch ks)) g' cap' (hbw.mono hN) (by omega) (fun b hb hh => by rcases hh.1 with h | h; exact hA b hb h; omega) rfl hok4 (hrep.rx (by omega) (by omega) (by omega))
    simp only [rxv, Rx.k_mk, Rx.lo_mk, Rx.hi_mk, Rx.ks_mk, Int.natCast_zero] at this
    rw [hlen]
    exact this
  have HI := Lib.hid ih
  have HS := Lib.hid hs
  have HP := Lib.hid hpk
  have HA := Lib.hid hA
  have HLOOK3 := Lib.hid hlook3
  have HCALL3 := Lib.hid hcall3
  have HOK3 := Lib.hid hok3
  have HE1 := Lib.hid (((Ext.alloc w (.cells #[.int .i64 3, .int .u8 lo, .int .u8 hi, .slice a ks.length c] 54)).trans (Ext.alloc _ (.cells #[.int .i64 0, .int .u8 0, .int .u8 0, .slice none 0 0] 54))).trans (Ext.alloc _ (.cells #[.int .i64 3, .int .u8 0, .int .u8 0, .slice none 0 0] 54)))
  clear ih hs hr hn hp hA hlook3 hcall3 hlook4 hcall4 hok3 hok4 hpk
  rw [hd]
  simp only [rxv, Rx.k_mk, Rx.lo_mk, Rx.hi_mk, Rx.ks_mk]
  go_enter Try.func42, Try.ntmps42
  go_wp2
  go_loopw [39] (fun iv wr => ∃ (l : List Pl) (g : Option Addr) (cap : Nat), l.length ≤ ks.length ∧ iv = .int .i64 l.length ∧
      wr.cell? ⟨w.heap.size + 1 + 1, 3, none⟩ = some (.slice g l.length cap) ∧ wr.frozen? ⟨w.heap.size + 1 + 1, 3, none⟩ = false ∧
      Hid (wr.cell? ⟨w.heap.size + 1 + 1, 0, none⟩ = some (.int .i64 4) ∧ wr.cell? ⟨w.heap.size + 1 + 1, 1, none⟩ = some (.int .u8 0) ∧ wr.cell? ⟨w.heap.size + 1 + 1, 2, none⟩ = some (.int .u8 0)) ∧
      Hid (OwnRx wr (fun b => (A b ∨ w.heap.size ≤ b) ∧ b < w.heap.size + 1 + 1 + 1) (w.heap.size + 1 + 1 + 1) 54 (.slice g l.length cap) l) ∧ Hid (l.map Pl.r ++ drvCat ch (ks.drop l.length) = drvCat ch ks) ∧
      Below (w.heap.size + 1 + 1) ((w.alloc (.cells #[.int .i64 3, .int .u8 lo, .int .u8 hi, .slice a ks.length c] 54)).alloc (.cells #[.int .i64 0, .int .u8 0, .int .u8 0, .slice none 0 0] 54)) wr ∧ w.heap.size + 1 + 1 < wr.heap.size)
    (fun i _ => ks.length - (intOf i).toNat)
  case atStart => exact ⟨[], none, 0, Nat.zero_le _, rfl, by go_side, by go_side, Lib.hid ⟨by go_side, by go_side, by go_side⟩, Lib.hid (OwnRx.nil _ _ _ _), Lib.hid (by simp), ((Below.refl _ _).alloc (by simp) _), by simp only [World.size_alloc]; omega⟩
  case round =>
    obtain ⟨l, gk, cap, hle, rfl, hc3, hf3, HC, HO, HM, hb, hsz⟩ := hrel
    have hs0 : w.heap.size < wr.heap.size := by omega
    have hs1 : w.heap.size + 1 < wr.heap.size := by omega
    have hbw : Below w.heap.size w wr := (((Ext.alloc w _).trans (Ext.alloc _ _)).1).trans (hb.mono (by omega))
    by_cases hlt : l.length < ks.length
    · obtain ⟨b, o, x, rfl, hA', hbb, hx, hat, hxr⟩ := (HS.out.ext hbw).at hlt
      obtain ⟨q0, q1, q2, q3⟩ := hat
      obtain ⟨r0, r1, r2, r3⟩ := below_box4 hb (by omega)
      have hE2 := Ext.alloc wr (.cells #[.int .i64 x.k, .int .u8 x.lo, .int .u8 x.hi, .slice (fa l.length) x.ks.length (fc l.length)] 54)
      have hxm := nodesL_mem (List.mem_of_getElem? hx)
      have hxn := drv_nodes_300 ch x (by omega)
      have hwrap : IntKind.i64.wrap ((l.length : Int) + 1) = (l.length : Int) + 1 := IntWalk.i64_in _ (by omega)
      have hi0 : (0 : Int) ≤ (l.length : Int) + 1 := by omega
      have hi1 : (l.length : Int) + 1 ≤ ks.length := by omega
      have hiN : ((l.length : Int) + 1).toNat = l.length + 1 := by omega
      have hxA : ∀ k, k < N → ¬ (A k ∨ w.heap.size ≤ k) := fun k hk hh => by rcases hh with hh | hh; exact HA.out k hk hh; omega
      have HREC := Lib.hid (HI.out x (List.mem_of_getElem? hx) (HP.out x (List.mem_of_getElem? hx)) (by omega) (wr.alloc (.cells #[.int .i64 x.k, .int .u8 x.lo, .int .u8 x.hi, .slice (fa l.length) x.ks.length (fc l.length)] 54)).drew N _ (fun b => A b ∨ w.heap.size ≤ b) (fa l.length) (fc l.length) (HF.out.later (((hbw.trans (hE2.1.mono (by omega))).drew).mono hN)) (by show N ≤ (wr.alloc _).heap.size; simp only [World.size_alloc]; omega) hxA ((hxr.ext hE2.1).ext (Ext.drew _).1))
      have hsr := ((HS.out.ext hbw).drop (l.length + 1) (by omega))
      have HSR := Lib.hid hsr
      have HX := Lib.hid hx
      have HXR := Lib.hid hxr
      have HB := Lib.hid hb
      have HBW := Lib.hid hbw
      have HE2 := Lib.hid hE2
      clear hx hxr hE2 hxm hb hbw hxA hsr
      go_wp2_with fail
      have hs2 : wr.heap.size < wr.heap.size + 1 := by omega
      have hs3 : w.heap.size + 1 + 1 < wr.heap.size + 1 := by omega
      have hs4 : w.heap.size < wr.heap.size + 1 := by omega
      have e1 : (wr.alloc (.cells #[.int .i64 x.k, .int .u8 x.lo, .int .u8 x.hi, .slice (fa l.length) x.ks.length (fc l.length)] 54)).drew.heap.size = wr.heap.size + 1 := World.size_alloc _ _
      have HSZ := Lib.hid e1
      clear e1
      refine wp_cut (fun a0 e a' w' => match e with
        | .normal => ∃ (a1 : Option Addr) (c1 s1 : Nat) (g' : Option Addr) (cap' : Nat) (v53 : Value), a' = ((((((((((((a0.put (some 44) (.map (some mb))).put (some 45) (rxv x (fa l.length) (fc l.length))).put (some 46) (.int .u8 ch)).put (some 47) (rxv (drv ch x) a1 c1)).put (some 48) (.slice (some ⟨s1, 0, none⟩) 1 1)).put (some 49) (.pointer (some ⟨w.heap.size, 3, none⟩))).put (some 50) (.slice (some ⟨b, o, none⟩) ks.length c)).put (some 51) (.int .i64 l.length)).put (some 52) (.int .i64 ((l.length : Int) + 1))).put (some 53) v53).put (some 54) (.slice g' (1 + (ks.length - (l.length + 1))) cap')).put (some 10) (.slice g' (1 + (ks.length - (l.length + 1))) cap')) ∧
            Below (wr.heap.size + 1) (wr.alloc (.cells #[.int .i64 x.k, .int .u8 x.lo, .int .u8 x.hi, .slice (fa l.length) x.ks.length (fc l.length)] 54)) w' ∧ wr.heap.size + 1 ≤ s1 ∧ OwnRx w' (fun b => (A b ∨ w.heap.size ≤ b) ∧ b < wr.heap.size + 1) s1 54 (.slice g' (1 + (ks.length - (l.length + 1))) cap') (⟨drv ch x, a1, c1⟩ :: pls (ks.drop (l.length + 1)) (fun j => fa (l.length + 1 + j)) (fun j => fc (l.length + 1 + j)))
        | _ => False) ?_ ?_
      · have HMK : Hid (∀ (w1 : World) (a1 : Option Addr) (c1 : Nat), Below (wr.heap.size + 1) (wr.alloc (.cells #[.int .i64 x.k, .int .u8 x.lo, .int .u8 x.hi, .slice (fa l.length) x.ks.length (fc l.length)] 54)).drew w1 → RxRep w1 (fun b => (A b ∨ w.heap.size ≤ b) ∧ b < wr.heap.size + 1) (drv ch x) a1 c1 →
            OwnRx (w1.alloc (.cells #[.int .i64 (drv ch x).k, .int .u8 (drv ch x).lo, .int .u8 (drv ch x).hi, .slice a1 (drv ch x).ks.length c1] 54)) (fun b => (A b ∨ w.heap.size ≤ b) ∧ b < wr.heap.size + 1) w1.heap.size 54 (.slice (some ⟨w1.heap.size, 0, none⟩) 1 1) [⟨drv ch x, a1, c1⟩] ∧
            RxsRep (w1.alloc (.cells #[.int .i64 (drv ch x).k, .int .u8 (drv ch x).lo, .int .u8 (drv ch x).hi, .slice a1 (drv ch x).ks.length c1] 54)) (fun b => (fun b => (A b ∨ w.heap.size ≤ b) ∧ b < wr.heap.size + 1) b ∨ (Value.slice (some ⟨w1.heap.size, 0, none⟩) 1 1).ownBlock = some b) (ks.drop (l.length + 1)) (if c = l.length + 1 then some ⟨b, o, none⟩ else some ⟨b, o + (l.length + 1) * 4, none⟩) (c - (l.length + 1)) (fun j => fa (l.length + 1 + j)) (fun j => fc (l.length + 1 + j))) := by
          refine Lib.hid fun w1 a1 c1 hb1 hr1 => ⟨OwnRx.box (p := ⟨drv ch x, a1, c1⟩) (Nat.le_refl _) (hr1.avoid fun b _ hh => hh), ?_⟩
          have hs5 := hb1.size
          rw [HSZ.out] at hs5
          refine ((((HSR.out.ext HE2.out.1).ext (Ext.drew _).1).ext (hb1.mono (by rw [HSZ.out]; exact Nat.le_refl _))).ext (Ext.alloc _ _).1).avoid fun b _ hh => ?_
          rcases hh with hh | hh
          · exact hh.1
          · simp [Value.ownBlock] at hh; omega
        go_region_law
          (first
            | (go_simp; go_at_call 42; refine HREC.out.mono ?_; rintro e w1 ⟨a1, c1, rfl, hb1, hr1⟩; rw [HSZ.out] at hb1 hr1; have hs5 := hb1.size; rw [HSZ.out] at hs5; have hs6 : w.heap.size < w1.heap.size := (by omega); have r3' := below_cell hb1 (p := ⟨w.heap.size, 3, none⟩) hs4 (v := .slice (some ⟨b, o, none⟩) ks.length c) (by go_side); have HB1 := Lib.hid hb1; have HR1 := Lib.hid (HMK.out w1 a1 c1 hb1 hr1); clear hb1 hr1; simp only [rxv])
            | (refine step_append_rx (by rfl) _ _ 52 54 (by rfl) tabR (fun b => (A b ∨ w.heap.size ≤ b) ∧ b < wr.heap.size + 1) w1.heap.size _ [⟨drv ch x, a1, c1⟩] (by rfl) HR1.out.1 (by simp) (ks.drop (l.length + 1)) (if c = l.length + 1 then some ⟨b, o, none⟩ else some ⟨b, o + (l.length + 1) * 4, none⟩) (c - (l.length + 1)) (fun j => fa (l.length + 1 + j)) (fun j => fc (l.length + 1 + j)) (by rw [List.length_drop]; rfl) HR1.out.2 (by simp; omega) (fun b hb => by simp; omega) ?_; rw [List.length_drop, List.length_singleton]; intro g' cap' w2 hown2 hb4; have HO2 := Lib.hid hown2; have HB4 := Lib.hid hb4; clear hown2 hb4))
        all_goals
          show ∃ (a1 : Option Addr) (c1 s1 : Nat) (g' : Option Addr) (cap' : Nat) (v53 : Value), _
          refine ⟨a1, c1, w1.heap.size, g', cap', (.slice (if c = l.length + 1 then some ⟨b, o, none⟩ else some ⟨b, o + (l.length + 1) * 4, none⟩) (ks.length - (l.length + 1)) (c - (l.length + 1))), ?_, ?_, by omega, ?_⟩
          · simp [Act.put, rxv]
          · have hh : Below (wr.heap.size + 1) (wr.alloc (.cells #[.int .i64 x.k, .int .u8 x.lo, .int .u8 x.hi, .slice (fa l.length) x.ks.length (fc l.length)] 54)) (wr.alloc (.cells #[.int .i64 x.k, .int .u8 x.lo, .int .u8 x.hi, .slice (fa l.length) x.ks.length (fc l.length)] 54)).drew := (Below.refl _ _).drew
            exact (hh.trans (HB1.out.trans ((Ext.alloc w1 _).1.mono (by omega)))).trans (HB4.out.mono (by omega))
          · exact HO2.out
      · intro e a' w2 hF'
        cases e with
        | normal =>
          obtain ⟨a1, c1, s1, g', cap', v53, rfl, hb2, hs1', hown2⟩ := hF'
          have hsz2 : wr.heap.size + 1 ≤ w2.heap.size := by have := hb2.size; simpa using this
          have hbk : Below wr.heap.size wr w2 := HE2.out.1.trans (hb2.mono (by omega))
          have m3 := below_cell hbk hsz hc3
          have mf3 := below_free hbk hsz hf3
          have hkb : rxAt w2 wr.heap.size 0 x (fa l.length) (fc l.length) := rxAt_keep (rxAt_box wr x (fa l.length) (fc l.length) 54) (hb2.block _ (by omega))
          have hw2 : Below w.heap.size w w2 := HBW.out.trans (hbk.mono (by omega))
          have hst : w.heap.size + 1 + 1 < w2.heap.size := by omega
          have hlk3 := HLOOK3.out w2.drew ((hw2.drew).mono hN)
          have hrep := hown2.rep (fun b hb hh => by omega)
          rw [List.map_cons, pls_map] at hrep
          have hrx := ((hrep.rx (k := 3) (lo := 0) (hi := 0) (by omega) (by omega) (by omega))).ext (Ext.drew _).1
          have hnA : ∀ b, b < N → ¬ ((A b ∨ w.heap.size ≤ b) ∧ b < wr.heap.size + 1) := fun b hb hh => by rcases hh.1 with h | h; exact HA.out b hb h; omega
          have HCL3 := Lib.hid (HCALL3.out w2.drew (fun b => (A b ∨ w.heap.size ≤ b) ∧ b < wr.heap.size + 1) (.mk 3 0 0 (drv ch x :: ks.drop (l.length + 1))) g' cap' ((hw2.drew).mono hN) (by show N ≤ w2.heap.size; omega) hnA rfl (HOK3.out _ x HX.out) hrx)
          have HEQ := Lib.hid (show 1 + (ks.length - (l.length + 1)) = (drv ch x :: ks.drop (l.length + 1)).length by rw [List.length_cons, List.length_drop]; omega)
          have HKB := Lib.hid hkb
          have HB2 := Lib.hid hbk
          have HW2 := Lib.hid hw2
          have HMK2 : Hid (∀ (w3 : World) (a3 : Option Addr) (c3 : Nat), Below w2.heap.size w2 w3 → RxRep w3 (fun b => ((A b ∨ w.heap.size ≤ b) ∧ b < wr.heap.size + 1) ∧ b < w2.heap.size) (form (.mk 3 0 0 (drv ch x :: ks.drop (l.length + 1)))) a3 c3 →
              RxsRep (w3.alloc (.cells #[.int .i64 (form (.mk 3 0 0 (drv ch x :: ks.drop (l.length + 1)))).k, .int .u8 (form (.mk 3 0 0 (drv ch x :: ks.drop (l.length + 1)))).lo, .int .u8 (form (.mk 3 0 0 (drv ch x :: ks.drop (l.length + 1)))).hi, .slice a3 (form (.mk 3 0 0 (drv ch x :: ks.drop (l.length + 1)))).ks.length c3] 54)) (fun b => ((A b ∨ w.heap.size ≤ b) ∧ b < w.heap.size + 1 + 1 + 1) ∨ (Value.slice gk l.length cap).ownBlock = some b) [(form (.mk 3 0 0 (drv ch x :: ks.drop (l.length + 1))))] (some ⟨w3.heap.size, 0, none⟩) 1 (fun _ => a3) (fun _ => c3)) :=
            Lib.hid fun w3 a3 c3 hb3 hr3 => normal_hsr (B := fun b => A b ∨ w.heap.size ≤ b) (h := w.heap.size + 1 + 1 + 1) (n := wr.heap.size + 1) (b0 := w.heap.size) (by omega) (by have := hb3.size; omega) (hr3.avoid fun b _ hh => ⟨hh, by omega⟩) HO.out (by omega) (fun b hb => .inr hb) (by omega)
          clear hb2 hown2 hrep hrx hkb hw2 hnA hbk
          simp only [Act.put, rxv]
          go_wp2_with fail
          go_region_law
            (first
              | (go_simp; rw [HEQ.out]; refine HCL3.out.mono ?_; rintro e w3 ⟨a3, c3, rfl, hb3', hr3⟩; have hb3 : Below w2.heap.size w2 w3 := ((Below.refl _ _).drew).trans hb3'; have m3' := below_cell hb3 hst m3; have mf3' := below_free hb3 hst mf3; have hsz3 := hb3.size; have hst3 : w.heap.size + 1 + 1 < w3.heap.size := (by omega); have HB3 := Lib.hid hb3; have HSR3 := Lib.hid (HMK2.out w3 a3 c3 hb3 hr3); clear hb3 hb3' hr3; simp only [rxv])
              | (refine step_append_rx2 (by rfl) _ _ 52 54 (by rfl) tabR (fun b => (A b ∨ w.heap.size ≤ b) ∧ b < w.heap.size + 1 + 1 + 1) (w.heap.size + 1 + 1 + 1) _ l (by rfl) ((HO.out.ext HB2.out).ext (ext_trans HB3.out (Ext.alloc _ _).1)) (by simp; omega) [(form (.mk 3 0 0 (drv ch x :: ks.drop (l.length + 1))))] (some ⟨w3.heap.size, 0, none⟩) 1 (fun _ => a3) (fun _ => c3) (by rfl) HSR3.out (by simp; omega) (fun b hb => by simp; omega) ?_; intro g4' cap4 w4 hown4 hb4 hk4; have hc4 := below_cell hb4 (show w.heap.size + 1 + 1 < w.heap.size + 1 + 1 + 1 by omega) ((Ext.alloc w3 _).cell m3'); have hf4 := below_free hb4 (show w.heap.size + 1 + 1 < w.heap.size + 1 + 1 + 1 by omega) (below_free (Ext.alloc w3 _).1 (show w.heap.size + 1 + 1 < w3.heap.size by omega) mf3'); have hsz4 := hb4.size; simp only [World.size_alloc] at hsz4; have HO4 := Lib.hid hown4; have HB4 := Lib.hid hb4; have HK4 := Lib.hid hk4; clear hown4 hb4 hk4))
          all_goals
            have hlt0 := HO.out.1.lt
            have hne : w.heap.size + 1 + 1 ≠ wr.heap.size := by omega
            have hne' : wr.heap.size ≠ w.heap.size + 1 + 1 := by omega
            have hE34 := (Ext.alloc w3 (.cells #[.int .i64 (form (.mk 3 0 0 (drv ch x :: ks.drop (l.length + 1)))).k, .int .u8 (form (.mk 3 0 0 (drv ch x :: ks.drop (l.length + 1)))).lo, .int .u8 (form (.mk 3 0 0 (drv ch x :: ks.drop (l.length + 1)))).hi, .slice a3 (form (.mk 3 0 0 (drv ch x :: ks.drop (l.length + 1)))).ks.length c3] 54)).1
            have hb24 : Below w2.heap.size w2 (w3.alloc (.cells #[.int .i64 (form (.mk 3 0 0 (drv ch x :: ks.drop (l.length + 1)))).k, .int .u8 (form (.mk 3 0 0 (drv ch x :: ks.drop (l.length + 1)))).lo, .int .u8 (form (.mk 3 0 0 (drv ch x :: ks.drop (l.length + 1)))).hi, .slice a3 (form (.mk 3 0 0 (drv ch x :: ks.drop (l.length + 1)))).ks.length c3] 54)) := ext_trans HB3.out hE34
            have hbr5 : Below (w.heap.size + 1 + 1) wr (w4.setCell ⟨w.heap.size + 1 + 1, 3, none⟩ (.slice g4' (l.length + 1) cap4)) := ((HB2.out.trans (hb24.mono (by omega))).mono (by omega)).trans ((HB4.out.mono (by omega)).setCell (by simp) _)
            have hkb5 : rxAt (w4.setCell ⟨w.heap.size + 1 + 1, 3, none⟩ (.slice g4' (l.length + 1) cap4)) wr.heap.size 0 x (fa l.length) (fc l.length) :=
              rxAt_keep (rxAt_keep (rxAt_keep HKB.out (hb24.block _ (by omega))) (HK4.out wr.heap.size (by simp only [World.size_alloc]; omega) (fun e => by have := (hlt0 _ e).2; omega))) (Below.heap_setCell w4 ⟨w.heap.size + 1 + 1, 3, none⟩ _ wr.heap.size hne')
            have hx5 : RxRep (w4.setCell ⟨w.heap.size + 1 + 1, 3, none⟩ (.slice g4' (l.length + 1) cap4)) (fun b => A b ∨ w.heap.size ≤ b) x (fa l.length) (fc l.length) := HXR.out.keep fun k _ hk => hbr5.block k (by by_cases h : k < w.heap.size + 1 + 1; exact h; exact absurd (.inr (by omega)) hk)
            obtain ⟨t0, t1, t2, t3⟩ := hkb5
            simp only [Nat.zero_add] at t1 t2 t3
            obtain ⟨e0, e1, e2⟩ := HC.out
            have u0 := below_cell HB4.out (show w.heap.size + 1 + 1 < w.heap.size + 1 + 1 + 1 by omega) (below_cell (HB2.out.trans (hb24.mono (by omega))) hsz e0)
            have u1 := below_cell HB4.out (show w.heap.size + 1 + 1 < w.heap.size + 1 + 1 + 1 by omega) (below_cell (HB2.out.trans (hb24.mono (by omega))) hsz e1)
            have u2 := below_cell HB4.out (show w.heap.size + 1 + 1 < w.heap.size + 1 + 1 + 1 by omega) (below_cell (HB2.out.trans (hb24.mono (by omega))) hsz e2)
            have hO5 := (HO4.out).setBelow (b := w.heap.size + 1 + 1) (by omega) ⟨.inr (by omega), by omega⟩ 3 (.slice g4' (l.length + 1) cap4)
            have NUL := Lib.hid (nullable_any x (HP.out x (List.mem_of_getElem? HX.out)) (w4.setCell ⟨w.heap.size + 1 + 1, 3, none⟩ (.slice g4' (l.length + 1) cap4)) _ _ _ hx5)
            have HBR5 := Lib.hid hbr5
            have HO5 := Lib.hid hO5
            have hszW : w.heap.size + 1 + 1 < w4.heap.size := by omega
            have hszW' : wr.heap.size < w4.heap.size := by omega
            clear hlt0 hE34 hb24 hbr5 hx5 hO5
            go_wp2_with fail
            refine NUL.out.mono ?_
            rintro e w6 ⟨rfl, hE6⟩
            have hs5 : (w4.setCell ⟨w.heap.size + 1 + 1, 3, none⟩ (.slice g4' (l.length + 1) cap4)).heap.size = w4.heap.size := World.size_setCell _ _ _
            have hbE := hE6.1
            rw [hs5] at hbE
            have x0 := below_cell hbE (p := ⟨w.heap.size + 1 + 1, 0, none⟩) hszW (v := .int .i64 4) (by simp [go_sem, u0])
            have x1 := below_cell hbE (p := ⟨w.heap.size + 1 + 1, 1, none⟩) hszW (v := .int .u8 0) (by simp [go_sem, u1])
            have x2 := below_cell hbE (p := ⟨w.heap.size + 1 + 1, 2, none⟩) hszW (v := .int .u8 0) (by simp [go_sem, u2])
            have x3 := below_cell hbE (p := ⟨w.heap.size + 1 + 1, 3, none⟩) hszW (v := .slice g4' (l.length + 1) cap4) (by simp [go_sem, hc4])
            have xf := below_free hbE (p := ⟨w.heap.size + 1 + 1, 3, none⟩) hszW (by simp [go_sem, hf4])
            have hO6 := HO5.out.ext hE6.1
            have hB6 := (HB.out.trans HBR5.out).trans (hbE.mono (by omega))
            have hs6 : w.heap.size + 1 + 1 < w6.heap.size := by have := hbE.size; omega
            have hstep := drvCat_step ch ks l.length x HX.out
            have hm := HM.out
            rw [hstep] at hm
            have hE66 := hbE.size
            have HBE := Lib.hid hbE
            have HB6 := Lib.hid hB6
            have HO6 := Lib.hid hO6
            clear hE6 hbE hO6 hB6 hstep hs5 t0 t1 t2 t3
            cases hq : nullable x with
            | true =>
              rw [hq, if_pos rfl] at hm
              have HM6 := Lib.hid hm
              clear hm
              go_wp2_with fail
              go_roundw
              case rel =>
                refine ⟨l ++ [⟨(form (.mk 3 0 0 (drv ch x :: ks.drop (l.length + 1)))), a3, c3⟩], g4', cap4, by simp; omega, by simp, by simpa using x3, xf, Lib.hid ⟨x0, x1, x2⟩, Lib.hid (by simpa [pls_one] using HO6.out), Lib.hid ?_, HB6.out, hs6⟩
                rw [List.map_append, List.append_assoc, List.length_append, List.length_singleton]
                exact HM6.out
              case measure => simp [intOf]; omega
            | false =>
              rw [hq] at hm
              have hm' : (l ++ [(⟨form (.mk 3 0 0 (drv ch x :: ks.drop (l.length + 1))), a3, c3⟩ : Pl)]).map Pl.r = drvCat ch ks := by rw [List.map_append]; exact hm
              have hend := HEND.out w6 (l ++ [(⟨form (.mk 3 0 0 (drv ch x :: ks.drop (l.length + 1))), a3, c3⟩ : Pl)]) g4' cap4 HB6.out hs6 (by simpa [pls_one] using HO6.out) hm'
              simp only [List.length_append, List.length_singleton] at hend
              clear hm hm'
              obtain ⟨⟨⟨z0, z1, z2, z3⟩, p0, p1, p2, p3⟩, hlk4, hcl4, hbW⟩ := hend
              have HCL4 := Lib.hid hcl4
              have HBW4 := Lib.hid hbW
              have hsz1 : w.heap.size + 1 < w6.heap.size := by omega
              clear hcl4 hbW
              go_wp2_with fail
              refine HCL4.out.mono ?_
              rintro e w7 ⟨a7, c7, rfl, hb7, hr7⟩
              have hsz7 := hb7.size
              have k0 := below_cell hb7 hsz1 z0
              have k1 := below_cell hb7 hsz1 z1
              have k2 := below_cell hb7 hsz1 z2
              have k3 := below_cell hb7 hsz1 z3
              have q0 := below_free hb7 hsz1 p0
              have q1 := below_free hb7 hsz1 p1
              have q2 := below_free hb7 hsz1 p2
              have q3 := below_free hb7 hsz1 p3
              have hs7 : w.heap.size + 1 < w7.heap.size := by omega
              have HB7 := Lib.hid hb7
              have HR7 := Lib.hid hr7
              clear hb7 hr7
              simp only [rxv]
              go_wp2_with fail
              generalize hy : form (.mk 4 0 0 (drvCat ch ks)) = y at *
              refine bodyPost_ret (v := .agg #[.int .i64 y.k, .int .u8 y.lo, .int .u8 y.hi, .slice a7 y.ks.length c7]) (by simp [results, Try.results42, go_sem, k0, k1, k2, k3]) rfl ?_
              refine ⟨a7, c7, rfl, set4_below (HBW4.out.trans (HB7.out.mono (by omega))) (by omega) _ _ _ _, ?_⟩
              exact (HR7.out.keep (fun b hb hn => set4_other _ _ _ _ _ _ b (fun e => hn ⟨⟨.inr (by omega), by omega⟩, by omega⟩))).avoid (fun b _ hh => ⟨⟨.inl hh.1, by omega⟩, by omega⟩)
        | _ => exact hF'.elim
    · have he : l.length = ks.length := by omega
      have hm := HM.out
      rw [drvCat_end ch ks _ (by omega), List.append_nil] at hm
      obtain ⟨e0, e1, e2⟩ := HC.out
      have hend := HEND.out wr l gk cap hb hsz HO.out hm
      clear hb hbw hm he
      obtain ⟨⟨⟨z0, z1, z2, z3⟩, p0, p1, p2, p3⟩, hlk4, hcl4, hbW⟩ := hend
      have HCL4 := Lib.hid hcl4
      have HBW4 := Lib.hid hbW
      have hsz1 : w.heap.size + 1 < wr.heap.size := by omega
      clear hcl4 hbW
      go_wp2_with fail
      refine HCL4.out.mono ?_
      rintro e w7 ⟨a7, c7, rfl, hb7, hr7⟩
      have hsz7 := hb7.size
      have k0 := below_cell hb7 hsz1 z0
      have k1 := below_cell hb7 hsz1 z1
      have k2 := below_cell hb7 hsz1 z2
      have k3 := below_cell hb7 hsz1 z3
      have q0 := below_free hb7 hsz1 p0
      have q1 := below_free hb7 hsz1 p1
      have q2 := below_free hb7 hsz1 p2
      have q3 := below_free hb7 hsz1 p3
      have hs7 : w.heap.size + 1 < w7.heap.size := by omega
      have HB7 := Lib.hid hb7
      have HR7 := Lib.hid hr7
      clear hb7 hr7
      simp only [rxv]
      go_wp2_with fail
      generalize hy : form (.mk 4 0 0 (drvCat ch ks)) = y at *
      refine bodyPost_ret (v := .agg #[.int .i64 y.k, .int .u8 y.lo, .int .u8 y.hi, .slice a7 y.ks.length c7]) (by simp [results, Try.results42, go_sem, k0, k1, k2, k3]) rfl ?_
      refine ⟨a7, c7, rfl, set4_below (HBW4.out.trans (HB7.out.mono (by omega))) (by omega) _ _ _ _, ?_⟩
      exact (HR7.out.keep (fun b hb hn => set4_other _ _ _ _ _ _ b (fun e => hn ⟨⟨.inr (by omega), by omega⟩, by omega⟩))).avoid (fun b _ hh => ⟨⟨.inl hh.1, by omega⟩, by omega⟩)
end Go.Proofs.Ytbepohpppailnaa
