/- Walks: flat. -/
import Derived.Test.YtbepohpppailnaaW7
set_option linter.unusedSimpArgs false
set_option linter.unusedVariables false
namespace Go.Proofs.Ytbepohpppailnaa
open Go.RowKit

set_option maxHeartbeats 1600000 in
theorem flat_any (r un : Rx) (hn : nodes r ≤ 1000000) (w : World) (A B : Nat → Prop) (a au : Option Addr) (c cu : Nat) (hr : RxRep w A r a c) (hu : RxRep w B un au cu) :
    Calls Try.prog 52 #[rxv r a c, rxv un au cu] w fun e w' => ∃ g cap l, e = .returned (.slice g l.length cap) ∧ OwnRx w' (fun b => A b ∧ b < w.heap.size) (w.heap.size + 2) 54 (.slice g l.length cap) l ∧
      l.map Pl.r = (flatL r.k r.ks).filter (fun x => !(rcmp x un == 0)) ∧ Below w.heap.size w w' ∧ w.heap.size + 2 ≤ w'.heap.size := by
  obtain ⟨hk, hlo, hhi, fa, fc, hs⟩ := hr.kids
  cases r with
  | mk k lo hi ks =>
  have hl := hs.1
  simp only [Rx.k_mk, Rx.lo_mk, Rx.hi_mk, Rx.ks_mk] at *
  have hnl : nodesL ks ≤ 1000000 := by simp only [nodes] at hn; omega
  have hkl := nodesL_length ks
  have hE0 := (Ext.alloc w (.cells #[.int .i64 k, .int .u8 lo, .int .u8 hi, .slice a ks.length c] 54)).trans (Ext.alloc _ (.cells #[.int .i64 un.k, .int .u8 un.lo, .int .u8 un.hi, .slice au un.ks.length cu] 54))
  have HS := Lib.hid hs
  have HU := Lib.hid hu
  have HE0 := Lib.hid hE0
  have HFL := Lib.hid (flatL_nodes k ks)
  clear hs hr hn hu hE0
  simp only [rxv, Rx.k_mk, Rx.lo_mk, Rx.hi_mk, Rx.ks_mk]
  go_enter Try.func52, Try.ntmps52
  go_wp2
  go_loopw [5, 11] (fun sv iv wr => ∃ (i : Nat) (l : List Pl) (g : Option Addr) (cap : Nat), i ≤ ks.length ∧ iv = .int .i64 i ∧ sv = .slice g l.length cap ∧
      Hid (OwnRx wr (fun b => A b ∧ b < w.heap.size) (w.heap.size + 2) 54 (.slice g l.length cap) l) ∧ Hid (l.map Pl.r = flatL k (ks.take i)) ∧
      Below (w.heap.size + 2) ((w.alloc (.cells #[.int .i64 k, .int .u8 lo, .int .u8 hi, .slice a ks.length c] 54)).alloc (.cells #[.int .i64 un.k, .int .u8 un.lo, .int .u8 un.hi, .slice au un.ks.length cu] 54)) wr)
    (fun _ i _ => ks.length - (intOf i).toNat)
  case atStart => exact ⟨0, [], none, 0, Nat.zero_le _, rfl, rfl, Lib.hid (OwnRx.nil _ _ _ _), Lib.hid (by simp [flatL]), Below.refl _ _⟩
  case round =>
    obtain ⟨i, l, g, cap, hle, rfl, rfl, HO, HM, hb⟩ := hrel
    have hsz : w.heap.size + 2 ≤ wr.heap.size := by have := hb.size; simp at this; omega
    have hs0 : w.heap.size < wr.heap.size := by omega
    have hs1 : w.heap.size + 1 < wr.heap.size := by omega
    have hbw : Below w.heap.size w wr := HE0.out.1.trans (hb.mono (by omega))
    have hll : l.length ≤ 1000000 := by
      have h1 : l.length = (l.map Pl.r).length := by simp
      have h2 := nodesL_length (flatL k (ks.take i))
      have h3 := flatL_nodes k (ks.take i)
      have h4 := nodesL_take ks i
      rw [h1, HM.out]; omega
    obtain ⟨b0, b1, b2, b3⟩ := below_box4 hb (by omega)
    obtain ⟨⟨d0, d1, d2, d3⟩, _⟩ := below_box4' hb (by omega)
    by_cases hlt : i < ks.length
    · obtain ⟨b, o, x, rfl, hA, hbb, hx, hat, hxr⟩ := (HS.out.ext hbw).at hlt
      obtain ⟨g0, g1, g2, g3⟩ := hat
      have hft := flatL_take k ks i x hx
      have hxn := nodesL_mem (List.mem_of_getElem? hx)
      have hE2 := Ext.alloc wr (.cells #[.int .i64 x.k, .int .u8 x.lo, .int .u8 x.hi, .slice (fa i) x.ks.length (fc i)] 54)
      have hown := HO.out.ext hE2.1
      have hlt1 := HO.out.1.lt
      -- the element is old memory: it lies in no row of the call's own
      have hxo : RxRep wr (fun b => (A b ∧ b < w.heap.size) ∨ (Value.slice g l.length cap).ownBlock = some b) x (fa i) (fc i) := by
        have h1 : RxRep w A x (fa i) (fc i) := HS.out.hks i x hx
        refine ((h1.old).ext hbw).avoid (fun b' hb' hh => ?_)
        rcases hh with hh | hh
        · exact .inl hh.1
        · exact .inr (by have := (hlt1 b' hh).1; omega)
      have hxo2 := hxo.ext hE2.1
      by_cases hkk : x.k = k
      · rw [if_pos hkk] at hft
        obtain ⟨_, _, _, fa', fc', hxs⟩ := hxo2.kids
        have hkk' : (x.k == k) = true := ieq_t hkk
        have hxkl := nodesL_length x.ks
        have hxn2 : nodesL x.ks ≤ nodes x := by cases x; simp only [nodes, Rx.ks]; omega
        have HX := Lib.hid hx
        have HFT := Lib.hid hft
        have HB := Lib.hid (hb.trans (hE2.1.mono hsz))
        have HOWN := Lib.hid hown
        have HXS := Lib.hid hxs
        clear hx hxr hE2 hb hbw hown hxo hxo2 hft hxs hkk hlt1
        go_wp2_with (at_builtin; refine wpList_append_rx rfl _ _ 52 54 rfl tabR (fun b => A b ∧ b < w.heap.size) (w.heap.size + 2) _ l rfl HOWN.out (by simp; omega) x.ks (fa i) (fc i) fa' fc' rfl HXS.out (by omega) (fun b hb => by simp; omega) ?_; intro g' cap' w2 hown2 hb4; have HO2 := Lib.hid hown2; have HB4 := Lib.hid hb4; clear hown2 hb4)
        go_roundw
        case rel => exact ⟨i + 1, l ++ pls x.ks fa' fc', g', cap', by omega, by go_num, by simp [pls_length], Lib.hid (by simpa [pls_length] using HO2.out), Lib.hid (by rw [List.map_append, HM.out, pls_map, HFT.out]), HB.out.trans HB4.out⟩
        case measure => simp [intOf]; omega
      · rw [if_neg hkk] at hft
        have hkk' : (x.k == k) = false := ieq_f hkk
        have hb3 := ext_trans hE2.1 ((Ext.alloc (wr.alloc (.cells #[.int .i64 x.k, .int .u8 x.lo, .int .u8 x.hi, .slice (fa i) x.ks.length (fc i)] 54)) (.cells #[.int .i64 x.k, .int .u8 x.lo, .int .u8 x.hi, .slice (fa i) x.ks.length (fc i)] 54)).1)
        have hown3 := HO.out.ext hb3
        have hsr : RxsRep ((wr.alloc (.cells #[.int .i64 x.k, .int .u8 x.lo, .int .u8 x.hi, .slice (fa i) x.ks.length (fc i)] 54)).alloc (.cells #[.int .i64 x.k, .int .u8 x.lo, .int .u8 x.hi, .slice (fa i) x.ks.length (fc i)] 54)) (fun b => (A b ∧ b < w.heap.size) ∨ (Value.slice g l.length cap).ownBlock = some b) [x] (some ⟨wr.heap.size + 1, 0, none⟩) 1 (fun _ => fa i) (fun _ => fc i) := by
          have h9 := rxAt_box (wr.alloc (.cells #[.int .i64 x.k, .int .u8 x.lo, .int .u8 x.hi, .slice (fa i) x.ks.length (fc i)] 54)) x (fa i) (fc i) 54
          rw [World.size_alloc] at h9
          refine RxsRep.one h9 (hxo.ext hb3) ?_
          intro hh
          rcases hh with hh | hh
          · omega
          · have := (hlt1 _ hh).2; omega
        have HX := Lib.hid hx
        have HFT := Lib.hid hft
        have HB := Lib.hid (hb.trans (hb3.mono hsz))
        have HOWN := Lib.hid hown3
        have HSR := Lib.hid hsr
        clear hx hxr hE2 hb hbw hown hxo hxo2 hft hkk hlt1 hsr hown3 hb3
        go_wp2_with (at_builtin; refine wpList_append_rx rfl _ _ 52 54 rfl tabR (fun b => A b ∧ b < w.heap.size) (w.heap.size + 2) _ l rfl HOWN.out (by simp; omega) [x] (some ⟨wr.heap.size + 1, 0, none⟩) 1 (fun _ => fa i) (fun _ => fc i) rfl HSR.out (by simp; omega) (fun b hb => by simp; omega) ?_; intro g' cap' w2 hown2 hb4; have HO2 := Lib.hid hown2; have HB4 := Lib.hid hb4; clear hown2 hb4)
        go_roundw
        case rel => exact ⟨i + 1, l ++ [⟨x, fa i, fc i⟩], g', cap', by omega, by go_num, by simp, Lib.hid (by simpa [pls_one] using HO2.out), Lib.hid (by rw [List.map_append, HM.out, HFT.out]; rfl), HB.out.trans HB4.out⟩
        case measure => simp [intOf]; omega
    · have he : ks.take i = ks := by rw [List.take_of_length_le (by omega)]
      have hm := HM.out
      rw [he] at hm
      have hpred := flat1_any (w.heap.size + 1) un au cu wr (w.heap.size + 2) ⟨d0, d1, d2, d3⟩ (((HU.out.old).ext hbw).avoid fun b _ hh => .inr (by omega)) (by omega)
      have HDEL := Lib.hid (deleteFunc_any l 65 #[.pointer (some ⟨w.heap.size + 1, 0, none⟩)] enters_flat1 (fun x => rcmp x un == 0) wr (fun b => A b ∧ b < w.heap.size) (w.heap.size + 2) g cap HO.out (fun b hb hh => by omega) hsz hpred)
      have HMM := Lib.hid hm
      have HBW := Lib.hid hbw
      have HB := Lib.hid hb
      clear he hm hpred hbw hb b0 b1 b2 b3 d0 d1 d2 d3
      go_wp2_with fail
      refine HDEL.out.mono ?_
      rintro e w2 ⟨rfl, hown2, hb2⟩
      have HO2 := Lib.hid hown2
      have HB2 := Lib.hid hb2
      clear hown2 hb2
      go_wp2_with fail
      go_ret
      refine ⟨g, cap, _, rfl, HO2.out, ?_, HBW.out.trans (HB2.out.mono (by omega)), Nat.le_trans hsz HB2.out.size⟩
      rw [← HMM.out, List.filter_map]
      rfl
end Go.Proofs.Ytbepohpppailnaa
