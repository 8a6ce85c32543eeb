/- Walks: Left, Lengths. -/
import Derived.Test.YtbepohpppailnaaC1
import Derived.Test.YtbepohpppailnaaL0
set_option linter.unusedSimpArgs false
set_option linter.unusedVariables false
namespace Go.Proofs.Ytbepohpppailnaa
open Go.RowKit
attribute [local go_sem ↓] Go.wp_at_zero Go.wp_at_succ

def BoPost (w0 : World) (n : Int) (l : List Bool) (e : Ending) (w' : World) : Prop :=
  ∃ a c, e = .returned (.tuple #[.slice a l.length c, .int .i64 n]) ∧ SlRep w' (fun b => b < w0.heap.size) (boos l) a c ∧ Below w0.heap.size w0 w'
theorem boPost_none (w0 w' : World) (n : Int) (h : Below w0.heap.size w0 w') : BoPost w0 n [] (.returned (.tuple #[.slice none 0 0, .int .i64 n])) w' := ⟨none, 0, rfl, SlRep.none _ _, h⟩
theorem sizeBo : ∀ w, (Go.sizeOf 4).run Try.prog w = .ok 1 w := by intro w; go_simp
theorem cloneBo (l : List Bool) (h0 : 0 < l.length) (hl : l.length ≤ 1000000) (w : World) (A : Nat → Prop) (a : Option Addr) (c : Nat) (h : SlRep w A (boos l) a c) :
    Calls Try.prog 16 #[.slice a l.length c] w fun e w' => ∃ v', e = .returned v' ∧ OwnC w' w.heap.size 4 v' (boos l) ∧ Below w.heap.size w w' := by
  obtain ⟨i, hi, hz, hs, hb⟩ := tab1_info tabBo
  obtain ⟨b, o, rfl, _, _, hc⟩ := h.ho (by simpa using h0)
  refine (Try.slices_Clone_f16 i (.bool false) 1 1 hi hz hs hb rfl (by omega) sizeBo b o l.length c (boos l) w (by simp) (by unfold maxLen; omega) (by omega) (fun j u hj => hc j u hj) (by intro u hu; obtain ⟨x, _, rfl⟩ := List.mem_map.1 hu; rfl)).mono ?_
  rintro e w' ⟨v', rfl, h1, _, h2⟩
  exact ⟨v', rfl, by unfold OwnC; simpa using h1, h2⟩

set_option maxRecDepth 100000 in
set_option maxHeartbeats 1600000 in
theorem Left_bad (u : Au) (s m : Int) (hs : -9223372036854775808 ≤ s ∧ s ≤ 9223372036854775807) (hm : -9223372036854775808 ≤ m ∧ m ≤ 9223372036854775807) (hbad : leftE u s m ≠ 0) (w : World) (A : Nat → Prop) (p : APl) (h : AuRep w A u p) :
    Calls Try.prog 9 #[auv u p, .int .i64 s, .int .i64 m] w (BoPost w (leftE u s m) []) := by
  have hl1 := h.next.bd
  simp only [List.length_map] at hl1
  have HV := Lib.hid (aValid_any u _ A p (h.ext (Ext.alloc w (.cells #[.slice p.ca u.cuts.length p.cc, .slice p.na u.next.length p.nc, .slice p.aa u.accept.length p.ac] 26)).1))
  clear h
  simp only [auv] at HV ⊢
  by_cases hv : avalid u = 0
  · rw [hv] at HV
    by_cases hs0 : 0 ≤ s ∧ s < u.next.length
    · obtain ⟨s0, s1⟩ := hs0
      have hm0 : ¬ (0 ≤ m ∧ m ≤ 64) := fun hh => hbad (by unfold leftE; rw [if_pos hv, if_pos ⟨s0, s1⟩, if_pos hh])
      have he : Hid (leftE u s m = 5) := Lib.hid (by unfold leftE; rw [if_pos hv, if_pos ⟨s0, s1⟩, if_neg hm0])
      clear hbad hv
      by_cases hm1 : m < 0
      · clear hm0
        go_enter Try.func9, Try.ntmps9
        go_wp2_with fail
        refine HV.out.mono ?_
        rintro e w1 ⟨rfl, hb1⟩
        obtain ⟨b0, b1, b2⟩ := box3 (by simpa using hb1)
        have HB := Lib.hid (ext_alloc (by simpa using hb1))
        clear hb1
        go_wp2_with fail
        go_ret2
        rw [he.out]
        exact boPost_none _ _ _ HB.out
      · have hm2 : 64 < m := by omega
        clear hm0
        go_enter Try.func9, Try.ntmps9
        go_wp2_with fail
        refine HV.out.mono ?_
        rintro e w1 ⟨rfl, hb1⟩
        obtain ⟨b0, b1, b2⟩ := box3 (by simpa using hb1)
        have HB := Lib.hid (ext_alloc (by simpa using hb1))
        clear hb1
        go_wp2_with fail
        go_ret2
        rw [he.out]
        exact boPost_none _ _ _ HB.out
    · have he : Hid (leftE u s m = 7) := Lib.hid (by unfold leftE; rw [if_pos hv, if_neg hs0])
      clear hbad hv
      by_cases hm1 : s < 0
      all_goals
        have hs1 : s < 0 ∨ (u.next.length : Int) ≤ s := by omega
        clear hs0
        first
        | have hs2 : (u.next.length : Int) ≤ s := by omega
        | skip
        clear hs1
        go_enter Try.func9, Try.ntmps9
        go_wp2_with fail
        refine HV.out.mono ?_
        rintro e w1 ⟨rfl, hb1⟩
        obtain ⟨b0, b1, b2⟩ := box3 (by simpa using hb1)
        have HB := Lib.hid (ext_alloc (by simpa using hb1))
        clear hb1
        go_wp2_with fail
        go_ret2
        rw [he.out]
        exact boPost_none _ _ _ HB.out
  · have he : Hid (leftE u s m = avalid u) := Lib.hid (by unfold leftE; rw [if_neg hv])
    have hv2 := ine_t hv
    clear hbad hv
    go_enter Try.func9, Try.ntmps9
    go_wp2_with fail
    refine HV.out.mono ?_
    rintro e w1 ⟨rfl, hb1⟩
    have HB := Lib.hid (ext_alloc (by simpa using hb1))
    clear hb1
    go_wp2_with fail
    go_ret2
    rw [he.out]
    exact boPost_none _ _ _ HB.out

theorem leftP_length (u : Au) (s m : Nat) : (leftP u s m).length = m + 1 := by simp [leftP]
theorem boos_snoc (l : List Bool) (x : Bool) : boos (l ++ [x]) = boos l ++ [.bool x] := by simp
theorem OwnC.box (w : World) (base : Nat) (e : TypeId) (u : Value) (hb : base ≤ w.heap.size) : OwnC (w.alloc (.cells #[u] e)) base e (.slice (some ⟨w.heap.size, 0, none⟩) 1 1) [u] :=
  ⟨rfl, .inr ⟨w.heap.size, 1, #[u], rfl, hb, heap_alloc_new w _, Nat.le_refl _, by unfold maxLen; omega, rfl, rfl⟩⟩
theorem stepB_get (u : Au) (b : List Bool) (j m : Nat) (hj : j < u.next.length) : (boos ((stepB u b).take j) ++ List.replicate (m + 1) (Value.bool false))[j]? = some (.bool false) := by
  rw [List.getElem?_append_right (by simp; omega)]
  simp [stepB, Nat.min_eq_left (Nat.le_of_lt hj)]
theorem stepB_set (u : Au) (b : List Bool) (j m : Nat) (hj : j < u.next.length) (x : Bool) (hx : x = (rget u.next j).any fun t => bget b t.toNat) : (boos ((stepB u b).take j) ++ List.replicate (m + 1) (Value.bool false)).set j (.bool x) = boos ((stepB u b).take (j + 1)) ++ List.replicate m (.bool false) := by
  have hl : (stepB u b).length = u.next.length := by simp [stepB]
  have hg : (stepB u b)[j]? = some x := by
    unfold stepB
    rw [List.getElem?_map, rget_get hj, hx]
    rfl
  rw [List.set_append_right _ _ (by simp; omega)]
  have e : j - (boos ((stepB u b).take j)).length = 0 := by simp; omega
  rw [e, List.take_add_one, hg]
  simp [List.replicate_succ]
theorem rows_cell {w : World} {A : Nat → Prop} {l : List (List Int)} {a : Option Addr} {c : Nat} (h : RowsRep w A (l.map ints) a c) {i : Nat} (hi : i < l.length) : ∃ g o ra rc, a = some ⟨g, o, none⟩ ∧ g < w.heap.size ∧ w.cell? ⟨g, o + i, none⟩ = some (.slice ra (rget l i).length rc) ∧ SlRep w A (ints (rget l i)) ra rc := by
  obtain ⟨g, o, ra, rc, e, _, hg, hc, hr⟩ := h.at (i := i) (by simpa using hi)
  have hre : (l.map ints)[i]'(by simpa using hi) = ints (rget l i) := by
    obtain ⟨h0, e⟩ := List.getElem?_eq_some_iff.1 (rget_get hi)
    simp [e]
  rw [hre] at hc hr
  simp only [List.length_map] at hc
  exact ⟨g, o, ra, rc, e, hg, hc, hr⟩

set_option maxRecDepth 100000 in
set_option maxHeartbeats 3200000 in
theorem Left_good (u : Au) (hu : AGood u) (s m : Nat) (hs : s < u.next.length) (hm : m ≤ 64) (w : World) (A : Nat → Prop) (p : APl) (h : AuRep w A u p) :
    Calls Try.prog 9 #[auv u p, .int .i64 s, .int .i64 m] w (BoPost w 0 (leftP u s m)) := by
  have hl1 := h.next.bd
  have hl2 := h.accept.bd
  simp only [List.length_map] at hl1 hl2
  have hacc := hu.acc
  have h256 := hu.states.2
  have hE0 := Ext.alloc w (.cells #[.slice p.ca u.cuts.length p.cc, .slice p.na u.next.length p.nc, .slice p.aa u.accept.length p.ac] 26)
  have HV := Lib.hid (aValid_any u _ A p (h.ext hE0.1))
  rw [(avalid_zero u).2 hu] at HV
  have HU := Lib.hid hu
  have H := Lib.hid h
  have HACC := Lib.hid hacc
  have hNL : ∀ k, (nowB u k).length = u.next.length := nowB_length hu
  have HNL := Lib.hid hNL
  have a1 : (s : Int) < u.next.length := by omega
  have a2 : (m : Int) ≤ 64 := by omega
  have a3 : (0 : Int) ≤ s := by omega
  have a4 : (0 : Int) ≤ m := by omega
  have a5 : (s : Int) < u.accept.length := by omega
  clear h hu hE0 hNL hacc
  obtain ⟨ca, cc, na, nc, aa, ac⟩ := p
  simp only [auv] at HV ⊢
  go_enter Try.func9, Try.ntmps9
  go_wp2_with fail
  refine HV.out.mono ?_
  rintro e w1 ⟨rfl, hb1⟩
  simp only [World.size_alloc] at hb1
  obtain ⟨b0, b1, b2⟩ := box3 hb1
  have hw1 := ext_alloc hb1
  have HCL := Lib.hid (cloneBo u.accept (by rw [HACC.out]; omega) (by rw [HACC.out]; omega) w1 A aa ac (H.out.accept.ext hw1))
  have HB1 := Lib.hid hb1
  have hs1 := hb1.size
  simp only [World.size_alloc] at hs1
  clear hb1 hw1
  go_wp2_with fail
  refine HCL.out.mono ?_
  rintro e w2 ⟨v2, rfl, ho2, hb2⟩
  have hs2 := hb2.size
  have hrep2 := ho2.form
  obtain ⟨ng, ncap, rfl⟩ := hrep2
  have hr2 := ho2.rep (A := fun b => b < w1.heap.size) (fun b hb hh => by omega)
  simp only [List.length_map] at hr2 ho2 ⊢
  obtain ⟨g, o, rfl, hg, hc⟩ := boos_cell hr2 (i := s) (by rw [HACC.out]; omega)
  have HB2 := Lib.hid (HB1.out.trans (hb2.mono (by omega)))
  have HR2 := Lib.hid hr2
  have hnb : Hid (bget u.accept s = bget (nowB u 0) s) := Lib.hid rfl
  clear ho2 hb2 hr2 HCL HV
  generalize hx : bget u.accept s = x0 at *
  clear hx
  go_wp2_with fail
  have hown0 := OwnC.box w2 (w.heap.size + 1) 4 (.bool x0) (by omega)
  have hE2 := Ext.alloc w2 (.cells #[.bool x0] 4)
  have HO0 := Lib.hid hown0
  have HE2 := Lib.hid hE2
  clear hown0 hE2
  rw [show Value.slice (some ⟨g, o, none⟩) u.accept.length ncap = .slice (some ⟨g, o, none⟩) u.next.length ncap by rw [HACC.out]]
  go_loopw [9, 10, 43] (fun nv lv kv wr => ∃ (k : Nat) (ng : Option Addr) (nc' : Nat) (lg : Option Addr) (lc : Nat), kv = .int .i64 k ∧ k ≤ m ∧ nv = .slice ng u.next.length nc' ∧ lv = .slice lg (k + 1) lc ∧
      Hid (OwnC wr (w.heap.size + 1) 4 (.slice lg (k + 1) lc) (boos (leftP u s k))) ∧ Hid (SlRep wr (fun b => Value.ownBlock (.slice lg (k + 1) lc) = some b) (boos (nowB u k)) ng nc') ∧
      Hid (Below (w.heap.size + 1) (w.alloc (.cells #[.slice ca u.cuts.length cc, .slice na u.next.length nc, .slice aa u.accept.length ac] 26)) wr))
    (fun _ _ kv _ => m - (intOf kv).toNat)
  case atStart =>
    refine ⟨0, some ⟨g, o, none⟩, ncap, some ⟨w2.heap.size, 0, none⟩, 1, by simp, Nat.zero_le _, rfl, rfl, Lib.hid (by have e0 : boos (leftP u s 0) = [.bool x0] := (by simp [leftP, hnb.out]); rw [e0]; exact HO0.out), Lib.hid ((HR2.out.avoid (A' := fun b => Value.ownBlock (.slice (some ⟨w2.heap.size, 0, none⟩) (0 + 1) 1) = some b) (fun b hb hh => by simp [Value.ownBlock] at hh; omega)).ext HE2.out.1), Lib.hid (HB2.out.trans (HE2.out.1.mono (by omega)))⟩
  case round =>
    clear HR2 HO0 HE2 hc b0 b1 b2
    obtain ⟨k, ng, nc', lg, lc, rfl, hk, rfl, rfl, HO, HN, HB⟩ := hrel
    have hszr := HB.out.size
    simp only [World.size_alloc] at hszr
    have hnl := HN.out.bd
    simp only [List.length_map, HNL.out] at hnl
    by_cases hkm : k < m
    · have hmk := fun W => run_make_c (P := Try.prog) 24 4 tabBo rfl (by omega) u.next.length (by omega) W
      obtain ⟨b0, b1, b2⟩ := box3 HB.out
      have hlt0 : w.heap.size < wr.heap.size := by omega
      have hE3 := (Ext.alloc wr (.cells #[.slice ng u.next.length nc'] 24)).trans (Ext.alloc _ (.cells (List.replicate u.next.length (.bool false)).toArray 4))
      have hblk := Blk.new (wr.alloc (.cells #[.slice ng u.next.length nc'] 24)) 4 (List.replicate u.next.length (.bool false))
      have HE3 := Lib.hid hE3
      have HBK := Lib.hid hblk
      clear hE3 hblk
      go_wp2_with fail
      clear hmk
      obtain ⟨wo, rfl⟩ : ∃ wo : World, wo = wr := ⟨_, rfl⟩
      go_loopw [52] (fun jv wr => ∃ (j : Nat), jv = .int .i64 j ∧ j ≤ u.next.length ∧ Hid (Blk wr (wo.heap.size + 1) 4 (boos ((stepB u (nowB u k)).take j) ++ List.replicate (u.next.length - j) (.bool false))) ∧
          Hid (Below (wo.heap.size + 1) ((wo.alloc (.cells #[.slice ng u.next.length nc'] 24)).alloc (.cells (List.replicate u.next.length (.bool false)).toArray 4)) wr))
        (fun jv _ => u.next.length - (intOf jv).toNat)
      case atStart => exact ⟨0, by simp, Nat.zero_le _, Lib.hid (by simpa using HBK.out), Lib.hid (Below.refl _ _)⟩
      case round =>
        clear b0 b1 b2
        obtain ⟨j, rfl, hj, HBJ, HBW⟩ := hrel
        have hszw := HBW.out.size
        simp only [World.size_alloc] at hszw
        have hbw : Below wo.heap.size wo wr := HE3.out.1.trans (HBW.out.mono (by omega))
        have HBO := Lib.hid hbw
        clear hbw
        by_cases hjl : j < u.next.length
        · obtain ⟨m2, hm2⟩ : ∃ m2, u.next.length - j = m2 + 1 := ⟨u.next.length - j - 1, by omega⟩
          have hm3 : u.next.length - (j + 1) = m2 := by omega
          obtain ⟨gn, on, ra, rc, hna, hgn, hcell, hrow⟩ := rows_cell (((H.out.next.ext (ext_alloc HB.out)).ext HBO.out)) hjl
          simp only at hna
          have hB := HBJ.out
          rw [hm2] at hB
          have cj := hB.cell (stepB_get u (nowB u k) j m2 hjl)
          have fj := hB.free j
          have pbc : wr.cell? ⟨wo.heap.size, 0, none⟩ = some (.slice ng u.next.length nc') := below_cell HBW.out (by simp) (by go_side)
          have hrow' := HU.out.row hjl
          have HROW := Lib.hid hrow
          have HCALL := Lib.hid (anyInts_any (nowB u k) (rget u.next j) (by rw [HNL.out]; exact hrow'.2) wr _ _ wo.heap.size ng nc' (by rw [HNL.out]; exact pbc) (HN.out.ext HBO.out) ra rc hrow)
          have HM2 := Lib.hid hm2
          have HM3 := Lib.hid hm3
          have HBB := Lib.hid hB
          have hrl := hrow.bd
          simp only [List.length_map] at hrl
          subst hna
          clear hm2 hm3 hrow hrow' hB
          go_wp2_with fail
          refine HCALL.out.mono ?_
          rintro e w9 ⟨rfl, rfl⟩
          go_wp2_with fail
          go_roundw
          case rel => exact ⟨j + 1, by simp, by omega, Lib.hid (by
            have := HBB.out.set j (.bool ((rget u.next j).any fun t => bget (nowB u k) t.toNat))
            rw [stepB_set u (nowB u k) j m2 hjl _ rfl] at this
            rw [HM3.out]; exact this), Lib.hid (HBW.out.setCell (Nat.le_refl _) _)⟩
          case measure => simp [intOf]; omega
        · have he : j = u.next.length := by omega
          have hdone : Blk wr (wo.heap.size + 1) 4 (boos (nowB u (k + 1))) := by
            have := HBJ.out
            rw [he, Nat.sub_self, List.replicate_zero, List.append_nil, List.take_of_length_le (by simp [stepB])] at this
            exact this
          have hcell := hdone.cell (i := s) (v := .bool (bget (nowB u (k + 1)) s)) (by rw [List.getElem?_map, bget_get (by rw [HNL.out]; exact hs)]; rfl)
          generalize hx : bget (nowB u (k + 1)) s = x at *
          have HX := Lib.hid hx
          have HD := Lib.hid hdone
          clear hx hdone he
          have hown := HO.out.ext HBO.out
          have HOW := Lib.hid hown
          clear hown
          go_wp2_with (at_builtin; refine wpList_append_c1 rfl (.tmp 64) (.tmp 69) 24 4 rfl tabBo rfl (by omega) (w.heap.size + 1) _ (boos (leftP u s k)) rfl HOW.out (by omega) (.bool x) 4 _ rfl rfl rfl (by simp [leftP]; omega) ?_; intro lv' w8 hg8; obtain ⟨lg', lc', rfl⟩ := grew_form hg8; have HG8 := Lib.hid hg8; clear hg8)
          simp only [List.length_append, List.length_map, List.length_singleton, leftP_length] at HG8 ⊢
          go_roundw
          have hn8 : SlRep w8 (fun b => Value.ownBlock (.slice lg' (k + 1 + 1) lc') = some b) (boos (nowB u (k + 1))) (some ⟨wo.heap.size + 1, 0, none⟩) u.next.length := by
            have hkeep := HD.out.keep (HG8.out.rest (wo.heap.size + 1) HD.out.lt (fun e => by have := (HO.out.lt e).2; omega))
            have := hkeep.rep (fun b => Value.ownBlock (.slice lg' (k + 1 + 1) lc') = some b) (fun e => HG8.out.apart HD.out.lt (fun e => by have := (HO.out.lt e).2; omega) e) (by simp [HNL.out]; omega)
            simp only [List.length_map, HNL.out] at this
            exact this
          case rel => exact ⟨k + 1, some ⟨wo.heap.size + 1, 0, none⟩, u.next.length, lg', lc', by simp, by omega, rfl, rfl, Lib.hid (by have := HG8.out.own; rw [← HX.out] at this; rw [leftP_succ, boos_snoc]; exact this), Lib.hid hn8, Lib.hid ((HB.out.trans (HBO.out.mono (by omega))).trans HG8.out.below)⟩
          case measure => simp [intOf]; omega
    · have he : k = m := by omega
      subst he
      go_wp2_with fail
      go_ret2
      exact ⟨lg, lc, by simp [leftP], HO.out.rep (fun b hb hh => by omega), ext_alloc HB.out⟩

theorem Left_any (u : Au) (s m : Int) (hs : -9223372036854775808 ≤ s ∧ s ≤ 9223372036854775807) (hm : -9223372036854775808 ≤ m ∧ m ≤ 9223372036854775807) (w : World) (A : Nat → Prop) (p : APl) (h : AuRep w A u p) :
    Calls Try.prog 9 #[auv u p, .int .i64 s, .int .i64 m] w (BoPost w (leftE u s m) (leftV u s m)) := by
  by_cases hb : leftE u s m = 0
  · have h0 := hb
    unfold leftE at h0
    split at h0
    · rename_i hv
      split at h0
      · rename_i hs0
        split at h0
        · rename_i hm0
          obtain ⟨s', rfl⟩ : ∃ s' : Nat, s = s' := ⟨s.toNat, by omega⟩
          obtain ⟨m', rfl⟩ : ∃ m' : Nat, m = m' := ⟨m.toNat, by omega⟩
          have := Left_good u ((avalid_zero u).1 hv) s' m' (by omega) (by omega) w A p h
          unfold leftV
          rw [hb, if_pos rfl]
          simpa using this
        · omega
      · omega
    · rename_i hv; exact absurd h0 hv
  · have := Left_bad u s m hs hm hb w A p h
    unfold leftV
    rw [if_neg hb]
    exact this
theorem Lengths_any (u : Au) (m : Int) (hm : -9223372036854775808 ≤ m ∧ m ≤ 9223372036854775807) (w : World) (A : Nat → Prop) (p : APl) (h : AuRep w A u p) :
    Calls Try.prog 7 #[auv u p, .int .i64 m] w (BoPost w (leftE u 0 m) (leftV u 0 m)) := by
  have hE0 := Ext.alloc w (.cells #[.slice p.ca u.cuts.length p.cc, .slice p.na u.next.length p.nc, .slice p.aa u.accept.length p.ac] 26)
  have HL := Lib.hid (Left_any u 0 m (by omega) hm _ A p (h.ext hE0.1))
  have HE0 := Lib.hid hE0
  clear h hE0
  simp only [auv] at HL ⊢
  go_enter Try.func7, Try.ntmps7
  go_wp2_with fail
  refine HL.out.mono ?_
  rintro e w1 ⟨a, c, rfl, h1, h2⟩
  have H1 := Lib.hid h1
  have H2 := Lib.hid h2
  clear h1 h2
  go_wp2_with fail
  go_ret2
  exact ⟨a, c, rfl, H1.out.avoid (fun b _ hh => by simp only [World.size_alloc]; omega), HE0.out.1.trans (H2.out.mono (by simp))⟩
end Go.Proofs.Ytbepohpppailnaa
