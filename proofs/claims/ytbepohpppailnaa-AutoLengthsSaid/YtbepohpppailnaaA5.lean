/- Walks: sorted. -/
import Derived.Test.YtbepohpppailnaaAP
import Derived.Test.YtbepohpppailnaaL0
import Derived.Sort.OwnSortedInts
import Derived.Lib.OwnBridge
import Derived.Lib.RowBridge
set_option linter.unusedSimpArgs false
set_option linter.unusedVariables false
namespace Go.Proofs.Ytbepohpppailnaa
open Go.RowKit Go.Sort
attribute [local go_sem ↓] Go.wp_at_zero Go.wp_at_succ

theorem icanon_length (l : List Int) : (icanon l).length ≤ l.length := by
  rw [← compact_mergeSort]
  exact Nat.le_trans (Lib.compact_length_le _) (by simp)
set_option maxRecDepth 100000 in
set_option maxHeartbeats 1600000 in
theorem sorted_any (l : List Int) (hne : l ≠ []) (w : World) (base : Nat) (v : Value) (hown : OwnC w base 3 v (ints l)) (hlen : l.length ≤ 1000000000) :
    Calls Try.prog 26 #[v] w fun e w' => ∃ v', e = .returned v' ∧ OwnC w' base 3 v' (ints (icanon l)) ∧ Below base w w' := by
  have hpos : 0 < l.length := List.length_pos_iff.2 hne
  have hvn : v ≠ .slice none 0 0 := by
    rintro rfl
    rcases hown.2 with ⟨_, h0⟩ | ⟨g, cap, cur, hv, _⟩
    · have : (ints l).length = 0 := h0
      simp at this; exact hne this
    · cases hv
  obtain ⟨g, cap, rfl, hg, hlt, hnc, hcm, hzl, hH⟩ := Lib.holds_of_ownsRow (enc := Value.int .i64) hown hvn
  have hown' := hown
  rcases hown'.2 with ⟨hv, _⟩ | ⟨g', cap', cur, hv, hg', hh, hnc', hcm', hcs, htake⟩
  · cases hv
  cases hv
  simp only [List.length_map] at *
  have hmcap : cap ≤ 9223372036854775807 := by unfold maxLen at hcm; omega
  have hms : (l.mergeSort fun x y => decide (x ≤ y)).length = l.length := by simp
  -- behind the sort
  have hrow : ∀ n os, (grow (putRow (Value.int .i64) (Sort.ahead w n) g 0 (l.mergeSort fun x y => decide (x ≤ y)).toArray) os).ownsRow base 3 1 (.slice (some ⟨g, 0, none⟩) l.length cap) l.length ((l.mergeSort fun x y => decide (x ≤ y)).map (Value.int .i64)) :=
    fun n os => ownsRow_sortedI hms hg hh hnc hcm hcs
  have hgr : ∀ n os, Below base w (grow (putRow (Value.int .i64) (Sort.ahead w n) g 0 (l.mergeSort fun x y => decide (x ≤ y)).toArray) os) :=
    fun n os => (Below.refl _ _).grown (grownBy_sortedI _) (by omega) (fun k hk => by cases hk; exact hg)
  have HR := Lib.hid hrow
  have HG := Lib.hid hgr
  have HS := Lib.hid (Try.slices_Sort_int g 0 cap l w hH hlt (by omega))
  have HMS := Lib.hid hms
  have HL := Lib.hid hzl
  clear hrow hgr hH hms hown hown' hh hcs htake hvn hzl
  go_enter Try.func26, Try.ntmps26
  go_wp2_with fail
  refine HS.out.mono ?_
  rintro e w' ⟨rfl, n, os, rfl⟩
  have h1 := HR.out n os
  have h2 := HG.out n os
  obtain ⟨g2, cap2, hv2, _, hlt2, _, _, _, hH2⟩ := Lib.holds_of_ownsRow (enc := Value.int .i64) h1 (by simp)
  cases hv2
  generalize hW : grow (putRow (Value.int .i64) (Sort.ahead w n) g 0 (l.mergeSort fun x y => decide (x ≤ y)).toArray) os = w1 at *
  generalize hS : (l.mergeSort fun x y => decide (x ≤ y)) = sl at *
  have hsl : sl.length = l.length := HMS.out
  have HC := Lib.hid (Try.slices_Compact_int g 0 cap sl w1 hH2 (by omega) (by omega))
  have hcl := Lib.compact_length_le sl
  have hci : Lib.compact sl = icanon l := by rw [← hS]; exact compact_mergeSort l
  have hfin : ∀ q, (putRow (Value.int .i64) (Sort.ahead w1 q) g 0 (Lib.compact sl ++ List.replicate (sl.length - (Lib.compact sl).length) 0).toArray).ownsRow base 3 1 (.slice (some ⟨g, 0, none⟩) (Lib.compact sl).length cap) (Lib.compact sl).length (((Lib.compact sl ++ List.replicate (sl.length - (Lib.compact sl).length) 0).take (Lib.compact sl).length).map (Value.int .i64)) :=
    fun q => Lib.ownsRow_putRow (q := q) h1 (by simp; omega) (by omega)
  have hfb : ∀ q, Below base w (putRow (Value.int .i64) (Sort.ahead w1 q) g 0 (Lib.compact sl ++ List.replicate (sl.length - (Lib.compact sl).length) 0).toArray) := fun q => Lib.below_putRow h2 hg
  simp only [List.take_left] at hfin
  have HSL := Lib.hid hsl
  rw [hsl] at HC
  have HF := Lib.hid hfin
  have HFB := Lib.hid hfb
  have HCI := Lib.hid hci
  clear hfin hfb hci h1 h2 hH2 hW hsl hS HR HG HS hcl
  go_wp2_with fail
  refine HC.out.mono ?_
  rintro e w2 ⟨rfl, q, rfl⟩
  have r1 := HF.out q
  have r2 := HFB.out q
  rw [HSL.out] at r1 r2
  rw [HCI.out] at r1 r2 ⊢
  have R1 := Lib.hid r1
  have R2 := Lib.hid r2
  clear r1 r2 HC HF HFB HCI HSL
  go_wp2_with fail
  go_ret
  exact ⟨_, rfl, by unfold OwnC; simpa using R1.out, R2.out⟩
end Go.Proofs.Ytbepohpppailnaa
