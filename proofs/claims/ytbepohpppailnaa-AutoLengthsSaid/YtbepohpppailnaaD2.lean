/- Walks: class, run, Accepts. -/
import Derived.Test.YtbepohpppailnaaD1
import Derived.Test.YtbepohpppailnaaR0
set_option linter.unusedSimpArgs false
set_option linter.unusedVariables false
namespace Go.Proofs.Ytbepohpppailnaa
open Go.RowKit
attribute [local go_sem ↓] Go.wp_at_zero Go.wp_at_succ

theorem SearchInts_any (l : List Int) (hp : 0 < l.length) (hl : l.length ≤ 1000000) (hs : IAsc l) (x : Int) (w : World) (A : Nat → Prop) (a : Option Addr) (c : Nat) (h : SlRep w A (ints l) a c) :
    Calls Try.prog 35 #[.slice a l.length c, .int .i64 x] w fun e w' => e = .returned (.int .i64 ((l.filter fun y => decide (y < x)).length : Nat)) ∧ Below w.heap.size w w' := by
  obtain ⟨b, o, rfl, _, hb, hc⟩ := h.ho (by simpa using hp)
  have := Any.sort_SearchInts Try.searchIntsL b o c l.toArray x w (fun i hi => by
    have hi' : i < l.length := by simpa using hi
    rw [hc i (.int .i64 l[i]) (by simp [List.getElem?_eq_getElem hi'])]
    simp [hi']) hb (by simp; omega) (fun i j hij hj h => by
    have hj' : j < l.length := by simpa using hj
    have hi' : i < l.length := by omega
    simp only [List.getElem!_toArray, hi', hj', getElem!_pos, decide_eq_true_eq] at h ⊢
    by_cases e : i = j
    · subst e; exact h
    · have := List.pairwise_iff_getElem.1 hs i j hi' hj' (by omega)
      omega)
  refine (show Calls Try.prog 35 #[.slice (some ⟨b, o, none⟩) l.length c, .int .i64 x] w _ from this).mono ?_
  rintro e w' ⟨rfl, h2⟩
  refine ⟨?_, h2⟩
  congr 2
  rw [List.countP_eq_length_filter]
  congr 2
  apply List.filter_congr
  intro y _
  by_cases h : y < x
  · simp [h]
  · simp [h]; omega
theorem classP_eq (l : List Int) (c : Int) : ((l.filter fun y => decide (y < c + 1)).length : Int) = (l.filter fun y => decide (y ≤ c)).length := by
  congr 2
  apply List.filter_congr
  intro y _
  by_cases h : y ≤ c
  · simp [h]; omega
  · simp [h]; omega
theorem cutsAsc {u : Au} (hu : AGood u) : IAsc u.cuts := by
  unfold IAsc
  rw [List.pairwise_iff_getElem]
  have key : ∀ d i, ∀ (h : i + d + 1 < u.cuts.length), u.cuts[i] < u.cuts[i + d + 1] := by
    intro d
    induction d with
    | zero =>
      intro i h
      have := (hu.cuts (i + 1) h (by omega)).1
      simpa [List.getD, List.getElem?_eq_getElem h, List.getElem?_eq_getElem (show i < u.cuts.length by omega)] using this
    | succ d ih =>
      intro i h
      have h1 := ih i (by omega)
      have h2 := (hu.cuts (i + (d + 1) + 1) h (by omega)).1
      have h3 : u.cuts[i + (d + 1)] < u.cuts[i + (d + 1) + 1] := by
        simpa [List.getD, List.getElem?_eq_getElem h, List.getElem?_eq_getElem (show i + (d + 1) < u.cuts.length by omega)] using h2
      have h4 : u.cuts[i + d + 1] < u.cuts[i + (d + 1) + 1] := h3
      omega
  intro i j hi hj hij
  have := key (j - i - 1) i (by omega)
  have e : i + (j - i - 1) + 1 = j := by omega
  simpa [e] using this
theorem AGood.cutsLen {u : Au} (hu : AGood u) : u.cuts.length ≤ 256 := by
  by_cases hc : u.cuts.length ≤ 256
  · exact hc
  · exfalso
    have key : ∀ j : Nat, j < u.cuts.length → (j : Int) ≤ iget u.cuts j := by
      intro j
      induction j with
      | zero => intro _; have := hu.first; simp only [iget]; omega
      | succ j ih =>
        intro hj
        have h1 := ih (by omega)
        have h2 := (hu.cuts (j + 1) hj (by omega)).1
        simp only [Nat.add_sub_cancel] at h2
        simp only [iget] at h1 ⊢
        omega
    have h1 := key 256 (by omega)
    have h2 := (hu.cuts 256 (by omega) (by omega)).2
    simp only [iget] at h1
    omega
theorem class_range {u : Au} (hu : AGood u) {c : Int} (hc : 0 ≤ c) : 1 ≤ (u.cuts.filter fun y => decide (y ≤ c)).length ∧ classP u.cuts c < u.cuts.length := by
  have h1 := List.length_filter_le (fun y => decide (y ≤ c)) u.cuts
  have h0 : 1 ≤ (u.cuts.filter fun y => decide (y ≤ c)).length := by
    have hm : u.cuts.getD 0 0 ∈ u.cuts := by
      have := getD_get (l := u.cuts) (i := 0) (0 : Int) hu.classes
      exact List.mem_of_getElem? this
    rw [hu.first] at hm
    have : (0 : Int) ∈ u.cuts.filter fun y => decide (y ≤ c) := List.mem_filter.2 ⟨hm, by simpa using hc⟩
    exact List.length_pos_of_mem this
  have := hu.classes
  unfold classP
  omega
theorem class_any (u : Au) (hu : AGood u) (c : Int) (hc : 0 ≤ c ∧ c ≤ 255) (w : World) (A : Nat → Prop) (a : Option Addr) (cp : Nat) (h : SlRep w A (ints u.cuts) a cp) :
    Calls Try.prog 23 #[.slice a u.cuts.length cp, .int .i64 c] w fun e w' => e = .returned (.int .i64 (classP u.cuts c : Nat)) ∧ Below w.heap.size w w' := by
  have h256 := hu.cutsLen
  have hr := class_range hu hc.1
  have HS := Lib.hid (SearchInts_any u.cuts hu.classes (by omega) (cutsAsc hu) (c + 1) w A a cp h)
  have he := classP_eq u.cuts c
  rw [he] at HS
  have hfl := List.length_filter_le (fun y => decide (y ≤ c)) u.cuts
  have hcl : Hid (((u.cuts.filter fun y => decide (y ≤ c)).length : Int) - 1 = (classP u.cuts c : Nat)) := Lib.hid (by unfold classP; omega)
  obtain ⟨hr1, hr2⟩ := hr
  generalize (u.cuts.filter fun y => decide (y ≤ c)).length = n at *
  obtain ⟨c0, c1⟩ := hc
  clear h hu he
  go_enter Try.func23, Try.ntmps23
  go_wp2_with fail
  refine HS.out.mono ?_
  rintro e w' ⟨rfl, hb⟩
  have HB := Lib.hid hb
  clear hb
  go_wp2_with fail
  go_ret
  exact ⟨ret_i64 hcl.out, HB.out⟩
theorem runP_snoc (u : Au) (s : Nat) (l : List Nat) (c : Nat) : runP u s (l ++ [c]) = (iget (rget u.next (runP u s l)) (classP u.cuts c)).toNat := by
  induction l generalizing s with
  | nil => rfl
  | cons a l ih => simp only [List.cons_append, runP, ih]
theorem runP_lt {u : Au} (hu : AGood u) (s : Nat) (hs : s < u.next.length) (l : List Nat) : runP u s l < u.next.length := by
  induction l generalizing s with
  | nil => exact hs
  | cons c l ih =>
    simp only [runP]
    refine ih _ ?_
    have h1 := hu.row hs
    have h2 := (class_range hu (c := (c : Int)) (by omega)).2
    have := h1.2 _ (List.mem_of_getElem? (iget_get (l := rget u.next s) (i := classP u.cuts c) (by omega)))
    omega
def bytesOf (s : ByteArray) : List Nat := s.data.toList.map UInt8.toNat
theorem bytesOf_take (s : ByteArray) (k : Nat) (h : k < s.size) : (bytesOf s).take (k + 1) = (bytesOf s).take k ++ [s[k].toNat] := by
  unfold bytesOf
  rw [List.take_add_one, List.getElem?_map]
  have : s.data.toList[k]? = some s[k] := by
    rw [Array.getElem?_toList]
    exact Array.getElem?_eq_getElem h
  rw [this]
  rfl
theorem bytesOf_length (s : ByteArray) : (bytesOf s).length = s.size := by unfold bytesOf; rw [List.length_map, Array.length_toList]; rfl

set_option maxRecDepth 100000 in
set_option maxHeartbeats 3200000 in
theorem run_any (u : Au) (hu : AGood u) (s : ByteArray) (hs : s.size ≤ 9223372036854775807) (w : World) (A : Nat → Prop) (p : APl) (h : AuRep w A u p) :
    Calls Try.prog 15 #[auv u p, .string s] w fun e w' => e = .returned (.int .i64 (runP u 0 (bytesOf s) : Nat)) ∧ Below w.heap.size w w' := by
  have hl1 := h.next.bd
  have hl3 := h.cuts.bd
  simp only [List.length_map] at hl1 hl3
  have hpos := hu.states.1
  have H := Lib.hid h
  have HU := Lib.hid hu
  clear h hu
  obtain ⟨ca, cc, na, nc, aa, ac⟩ := p
  simp only [auv]
  go_enter Try.func15, Try.ntmps15
  go_wp2_with fail
  go_loopw [5, 6] (fun sv kv wr => ∃ (k st : Nat), kv = .int .i64 k ∧ k ≤ s.size ∧ sv = .int .i64 st ∧ st < u.next.length ∧ Hid (runP u 0 ((bytesOf s).take k) = st) ∧
      Hid (Below (w.heap.size + 1) (w.alloc (.cells #[.slice ca u.cuts.length cc, .slice na u.next.length nc, .slice aa u.accept.length ac] 26)) wr))
    (fun _ kv _ => s.size - (intOf kv).toNat)
  case atStart => exact ⟨0, 0, by simp, Nat.zero_le _, by simp, hpos, Lib.hid rfl, Lib.hid (Below.refl _ _)⟩
  case round =>
    obtain ⟨k, st, rfl, hk, rfl, hst, HR, HB⟩ := hrel
    have hszr := HB.out.size
    simp only [World.size_alloc] at hszr
    obtain ⟨b0, b1, b2⟩ := box3 HB.out
    by_cases hlt : k < s.size
    · obtain ⟨gn, on, ra, rc, hna, hgn, hncell0, hrow⟩ := rows_cell' H.out.next hst
      simp only at hna
      have hncell := below_cell (ext_alloc HB.out) hgn hncell0
      have hch : (s[k].toNat : Int) < 256 := by have := s[k].toNat_lt; omega
      have hch0 : 0 ≤ (s[k].toNat : Int) := by omega
      have hrw := HU.out.row hst
      have hcr := (class_range HU.out (c := (s[k].toNat : Int)) hch0).2
      obtain ⟨gr, or, hra, hgr, hrc0⟩ := ints_cell' hrow (i := classP u.cuts s[k].toNat) (by rw [hrw.1]; exact hcr)
      have ht := hrw.2 _ (List.mem_of_getElem? (iget_get (l := rget u.next st) (i := classP u.cuts s[k].toNat) (by rw [hrw.1]; exact hcr)))
      have hstep : runP u 0 ((bytesOf s).take (k + 1)) = (iget (rget u.next st) (classP u.cuts s[k].toNat)).toNat := by
        rw [bytesOf_take s k hlt, runP_snoc, HR.out]
      have HST := Lib.hid hstep
      subst hra hna
      have HCL := Lib.hid (fun W hW => class_any u HU.out (s[k].toNat : Int) ⟨hch0, by omega⟩ W A ca cc (H.out.cuts.ext hW))
      have hrlen := hrw.1
      have hrb := hrow.bd
      simp only [List.length_map] at hrb
      have i1 : (0 : Int) ≤ st := by omega
      have i2 : (st : Int) < u.next.length := by omega
      have i3 : (0 : Int) ≤ k := by omega
      have i4 : (k : Int) < s.size := by omega
      have i5 : (k : Int).toNat = k := by omega
      have i6 : (st : Int).toNat = st := by omega
      have i7 : IntKind.i64.wrap (s[k].toNat : Int) = (s[k].toNat : Int) := IntWalk.i64_in _ (by omega)
      have hlt0 : w.heap.size < wr.heap.size := by omega
      have HGR := Lib.hid hrc0
      have hW := Lib.hid (ext_alloc HB.out)
      clear hstep hrow hrw hncell0 hrc0
      generalize hcp : classP u.cuts s[k].toNat = cp at *
      generalize hit : iget (rget u.next st) cp = t at *
      generalize hrl : (rget u.next st).length = rl at *
      obtain ⟨ht0, ht1⟩ := ht
      have q1 : (0 : Int) ≤ cp := by omega
      have q2 : (cp : Int) < rl := by omega
      clear hcp hit hrl hrlen
      go_wp2_with fail
      refine wp_region_mix_tail (fun w' => w'.cell? ⟨w.heap.size, 0, none⟩ = some (.slice ca u.cuts.length cc) ∧ w'.cell? ⟨w.heap.size, 1, none⟩ = some (.slice (some ⟨gn, on, none⟩) u.next.length nc) ∧ w'.cell? ⟨gn, on + st, none⟩ = some (.slice (some ⟨gr, or, none⟩) rl rc)) 12 [(0, true), (1, true), (2, true), (3, true), (4, true), (5, true), (6, true), (7, true), (8, true), (9, true), (10, true), (11, false)] (by kernel_rfl) (by kernel_rfl) ⟨b0, b1, hncell⟩ ?_
      simp only [mixList, List.getElem?_toArray, List.getElem?_cons_zero, List.getElem?_cons_succ]
      repeat (apply Exists.intro; refine ⟨fun w' hC => .inl ⟨rfl, .inl ?_⟩, ?_⟩; ((obtain ⟨hC1, hC2, hC3⟩ := hC; go_simp; rfl)))
      refine mix_loud rfl ?_
      unfold loud
      go_simp
      simp only [louD]
      refine (HCL.out _ (hW.out.drew)).mono ?_
      rintro e w3 ⟨rfl, hb3⟩
      have hb3' : Below wr.heap.size wr w3 := ((Below.refl _ _).drew).trans hb3
      have c0 := below_cell hb3' hlt0 b0
      have c1 := below_cell hb3' hlt0 b1
      have c2 := below_cell hb3' (by simp only; omega) hncell
      have c3 := below_cell (hW.out.trans (hb3'.mono (by omega))) hgr HGR.out
      have HB3 := Lib.hid (HB.out.trans (hb3'.mono (by omega)))
      refine ⟨_, rfl, ⟨c0, c1, c2⟩, ?_⟩
      clear hb3 hb3' b0 b1 b2 i7
      simp only [wpMix, List.drop_succ_cons, List.drop_zero]
      go_wp2_with fail
      go_roundw
      case rel => exact ⟨k + 1, t.toNat, by simp, by omega, by rw [Int.toNat_of_nonneg ht0], by omega, Lib.hid HST.out, HB3⟩
      case measure => simp [intOf]; omega
    · have he : k = s.size := by omega
      have hres : runP u 0 (bytesOf s) = st := by
        have := HR.out
        rw [he, List.take_of_length_le (by rw [bytesOf_length]; exact Nat.le_refl _)] at this
        exact this
      have HRES := Lib.hid hres
      clear hres he
      go_wp2_with fail
      go_ret
      exact ⟨ret_i64 (by rw [HRES.out]), ext_alloc HB.out⟩

def accB (u : Au) (s : ByteArray) : Bool := if avalid u = 0 then bget u.accept (runP u 0 (bytesOf s)) else false
set_option maxRecDepth 100000 in
set_option maxHeartbeats 1600000 in
theorem Accepts_any (u : Au) (s : ByteArray) (hs : s.size ≤ 9223372036854775807) (w : World) (A : Nat → Prop) (p : APl) (h : AuRep w A u p) :
    Calls Try.prog 8 #[auv u p, .string s] w fun e w' => e = .returned (.tuple #[.bool (accB u s), .int .i64 (avalid u)]) ∧ Below w.heap.size w w' := by
  have hE0 := Ext.alloc w (.cells #[.slice p.ca u.cuts.length p.cc, .slice p.na u.next.length p.nc, .slice p.aa u.accept.length p.ac] 26)
  have HV := Lib.hid (aValid_any u _ A p (h.ext hE0.1))
  have HE0 := Lib.hid hE0
  clear hE0
  by_cases hv : avalid u = 0
  · have hu := (avalid_zero u).1 hv
    have hacc : Hid (accB u s = bget u.accept (runP u 0 (bytesOf s))) := Lib.hid (by unfold accB; rw [if_pos hv])
    rw [hv] at HV
    have HVZ := Lib.hid hv
    have HRUN := Lib.hid (fun W hW => run_any u hu s hs W A p (h.ext hW))
    have hlt := runP_lt hu 0 hu.states.1 (bytesOf s)
    rw [← hu.acc] at hlt
    obtain ⟨ga, oa, haa, hga, hac0⟩ := boos_cell' h.accept hlt
    have hab := h.accept.bd
    simp only [List.length_map] at hab
    obtain ⟨ca, cc, na, nc, aa, ac⟩ := p
    simp only at haa
    subst haa
    have HAC := Lib.hid hac0
    simp only [auv] at HV HRUN ⊢
    generalize hst : runP u 0 (bytesOf s) = st at *
    generalize hx : bget u.accept st = x at *
    have i1 : (0 : Int) ≤ st := by omega
    have i2 : (st : Int) < u.accept.length := by omega
    clear h hu hv hac0 hst hx
    go_enter Try.func8, Try.ntmps8
    go_wp2_with fail
    refine HV.out.mono ?_
    rintro e w1 ⟨rfl, hb1⟩
    simp only [World.size_alloc] at hb1
    obtain ⟨b0, b1, b2⟩ := box3 hb1
    have hs1 : w.heap.size < w1.heap.size := by have := hb1.size; simp only [World.size_alloc] at this; omega
    have hW := ext_alloc hb1
    have hac1 := below_cell hW hga HAC.out
    have HW := Lib.hid hW
    have hga1 : ga < w1.heap.size := by omega
    clear hb1 hW HV
    go_wp2_with fail
    refine wp_region_mix (fun w' => (w'.cell? ⟨w.heap.size, 0, none⟩ = some (.slice ca u.cuts.length cc) ∧ w'.cell? ⟨w.heap.size, 1, none⟩ = some (.slice na u.next.length nc) ∧ w'.cell? ⟨w.heap.size, 2, none⟩ = some (.slice (some ⟨ga, oa, none⟩) u.accept.length ac)) ∧ w'.cell? ⟨ga, oa + st, none⟩ = some (.bool x)) [(0, true), (1, true), (2, true), (3, true), (4, false), (5, true), (6, true), (7, true), (8, true)] (by kernel_rfl) (by kernel_rfl) ⟨⟨b0, b1, b2⟩, hac1⟩ ?_
    simp only [mixList, List.getElem?_toArray, List.getElem?_cons_zero, List.getElem?_cons_succ]
    repeat (apply Exists.intro; refine ⟨fun w' hC => .inl ⟨rfl, .inl ?_⟩, ?_⟩; ((obtain ⟨⟨hC1, hC2, hC3⟩, hC4⟩ := hC; go_simp; rfl)))
    refine mix_loud rfl ?_
    unfold loud
    go_simp
    simp only [louD]
    refine (HRUN.out _ (HW.out.drew)).mono ?_
    rintro e w3 ⟨rfl, hb3⟩
    have hb3' : Below w1.heap.size w1 w3 := ((Below.refl _ _).drew).trans hb3
    refine ⟨_, rfl, ⟨⟨below_cell hb3' hs1 b0, below_cell hb3' hs1 b1, below_cell hb3' hs1 b2⟩, below_cell hb3' hga1 hac1⟩, ?_⟩
    have HB3 := Lib.hid (HW.out.trans (hb3'.mono (by omega)))
    clear hb3 hb3' b0 b1 b2 hac1
    repeat (apply Exists.intro; refine ⟨fun w' hC => .inl ⟨rfl, .inl ?_⟩, ?_⟩; ((obtain ⟨⟨hC1, hC2, hC3⟩, hC4⟩ := hC; go_simp; rfl)))
    simp only [wpMix]
    go_wp2_with fail
    go_ret2
    rw [hacc.out, HVZ.out]
    exact ⟨rfl, HB3.out⟩
  · have hacc : Hid (accB u s = false) := Lib.hid (by unfold accB; rw [if_neg hv])
    have hv2 := ine_t hv
    simp only [auv] at HV ⊢
    clear h hv
    go_enter Try.func8, Try.ntmps8
    go_wp2_with fail
    refine HV.out.mono ?_
    rintro e w1 ⟨rfl, hb1⟩
    have HB := Lib.hid (HE0.out.1.trans (hb1.mono (by simp)))
    clear hb1
    go_wp2_with fail
    go_ret2
    rw [hacc.out]
    exact ⟨rfl, HB.out⟩
end Go.Proofs.Ytbepohpppailnaa
