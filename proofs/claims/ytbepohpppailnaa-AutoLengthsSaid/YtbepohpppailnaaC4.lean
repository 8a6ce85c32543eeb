/- Walks: Least. -/
import Derived.Test.YtbepohpppailnaaC0
import Derived.Test.YtbepohpppailnaaR0
set_option linter.unusedSimpArgs false
set_option linter.unusedVariables false
namespace Go.Proofs.Ytbepohpppailnaa
open Go.RowKit
attribute [local go_sem ↓] Go.wp_at_zero Go.wp_at_succ

theorem rows_cell' {w : World} {A : Nat → Prop} {l : List (List Int)} {a : Option Addr} {c : Nat} (h : RowsRep w A (l.map ints) a c) {i : Nat} (hi : i < l.length) : ∃ g o ra rc, a = some ⟨g, o, none⟩ ∧ g < w.heap.size ∧ w.cell? ⟨g, o + i, none⟩ = some (.slice ra (rget l i).length rc) ∧ SlRep w A (ints (rget l i)) ra rc := by
  obtain ⟨g, o, ra, rc, e, _, hg, hc, hr⟩ := h.at (i := i) (by simpa using hi)
  have hre : (l.map ints)[i]'(by simpa using hi) = ints (rget l i) := by
    obtain ⟨h0, e⟩ := List.getElem?_eq_some_iff.1 (rget_get hi)
    simp [e]
  rw [hre] at hc hr
  simp only [List.length_map] at hc
  exact ⟨g, o, ra, rc, e, hg, hc, hr⟩
theorem boos_cell' {w : World} {A : Nat → Prop} {b : List Bool} {a : Option Addr} {c : Nat} (h : SlRep w A (boos b) a c) {i : Nat} (hi : i < b.length) : ∃ g o, a = some ⟨g, o, none⟩ ∧ g < w.heap.size ∧ w.cell? ⟨g, o + i, none⟩ = some (.bool (bget b i)) := by
  obtain ⟨g, o, e, _, hg, hc⟩ := h.at (i := i) (by simpa using hi)
  refine ⟨g, o, e, hg, ?_⟩
  rw [hc]
  simp [bget, List.getD, List.getElem?_eq_getElem hi]
theorem ints_cell' {w : World} {A : Nat → Prop} {l : List Int} {a : Option Addr} {c : Nat} (h : SlRep w A (ints l) a c) {i : Nat} (hi : i < l.length) : ∃ g o, a = some ⟨g, o, none⟩ ∧ g < w.heap.size ∧ w.cell? ⟨g, o + i, none⟩ = some (.int .i64 (iget l i)) := by
  obtain ⟨g, o, e, _, hg, hc⟩ := h.at (i := i) (by simpa using hi)
  refine ⟨g, o, e, hg, ?_⟩
  rw [hc]
  simp [iget, List.getD, List.getElem?_eq_getElem hi]
abbrev strB (l : List Nat) : Value := .string (strOfNums (nats l))
theorem strB_snoc (l : List Nat) (c : Nat) : strOfNums (nats l) ++ strOfNums (nats [c]) = strOfNums (nats (l ++ [c])) := by
  apply ByteArray.ext
  simp [strOfNums, nats, ByteArray.data_append]
def qc (p : Int × List Nat) : List Value := [.int .i64 p.1, strB p.2]
theorem tabQ : TabF Try.prog 46 45 (.agg #[.int .i64 0, .string ⟨#[]⟩]) 2 24 := ⟨Try.underlying46, by kernel_rfl⟩
def leastV (o : Option (List Nat)) : Value := match o with | none => strB [] | some l => strB l
/-- which states are in the queue -/
def seenL (n : Nat) (q : List (Int × List Nat)) : List Bool := (List.range n).map fun (i : Nat) => decide ((i : Int) ∈ q.map Prod.fst)
theorem seenL_length (n : Nat) (q : List (Int × List Nat)) : (seenL n q).length = n := by simp [seenL]
theorem seenL_get (n : Nat) (q : List (Int × List Nat)) (t : Int) (h0 : 0 ≤ t) (h1 : t < (n : Int)) : (seenL n q)[t.toNat]? = some (decide (t ∈ q.map Prod.fst)) := by
  unfold seenL
  rw [List.getElem?_map, List.getElem?_range (by omega)]
  simp only [Option.map_some, Int.toNat_of_nonneg h0]
theorem seenL_set (n : Nat) (q : List (Int × List Nat)) (t : Int) (b : List Nat) (h0 : 0 ≤ t) (h1 : t < (n : Int)) : (boos (seenL n q)).set t.toNat (.bool true) = boos (seenL n (q ++ [(t, b)])) := by
  apply List.ext_getElem?
  intro i
  rw [List.getElem?_set]
  by_cases hi : i < n
  · have e1 : ∀ q', (boos (seenL n q'))[i]? = some (.bool (decide ((i : Int) ∈ q'.map Prod.fst))) := fun q' => by
      simp [seenL, hi]
    rw [e1, e1]
    by_cases hit : t.toNat = i
    · rw [if_pos hit, if_pos (by simp [seenL_length]; omega)]
      have : (i : Int) = t := by omega
      simp [this]
    · rw [if_neg hit]
      have : (i : Int) ≠ t := by omega
      simp [this]
  · have e1 : ∀ q', (boos (seenL n q'))[i]? = none := fun q' => by
      rw [List.getElem?_eq_none]; simp [seenL_length]; omega
    rw [e1, e1]
    split
    · simp [seenL_length]; omega
    · rfl
theorem seenL_start (n : Nat) (hn : 0 < n) : (List.replicate n (Value.bool false)).set 0 (.bool true) = boos (seenL n [(0, [])]) := by
  have e : List.replicate n (Value.bool false) = boos (seenL n []) := by
    apply List.ext_getElem?
    intro i
    by_cases hi : i < n
    · simp [seenL, hi, List.getElem?_replicate]
    · rw [List.getElem?_eq_none (by simp; omega), List.getElem?_eq_none (by simp [seenL_length]; omega)]
  rw [e]
  exact seenL_set n [] 0 [] (by omega) (by omega)

set_option maxRecDepth 100000 in
set_option maxHeartbeats 1600000 in
theorem Least_bad (u : Au) (hv : avalid u ≠ 0) (w : World) (A : Nat → Prop) (p : APl) (h : AuRep w A u p) :
    Calls Try.prog 6 #[auv u p] w fun e w' => e = .returned (.tuple #[strB [], .bool false, .int .i64 (avalid u)]) ∧ Below w.heap.size w w' := by
  have hE0 := Ext.alloc w (.cells #[.slice p.ca u.cuts.length p.cc, .slice p.na u.next.length p.nc, .slice p.aa u.accept.length p.ac] 26)
  have HV := Lib.hid (aValid_any u _ A p (h.ext hE0.1))
  have HE0 := Lib.hid hE0
  have hv2 := ine_t hv
  clear h hE0 hv
  simp only [auv] at HV ⊢
  go_enter Try.func6, Try.ntmps6
  go_wp2_with fail
  refine HV.out.mono ?_
  rintro e w1 ⟨rfl, hb1⟩
  have HB := Lib.hid (HE0.out.1.trans (hb1.mono (by simp)))
  clear hb1
  go_wp2_with fail
  refine bodyPost_ret (results_tmp3 rfl _ _ _) rfl ?_
  exact ⟨rfl, HB.out⟩

theorem cuts_range {u : Au} (hu : AGood u) {k : Nat} (hk : k < u.cuts.length) : 0 ≤ iget u.cuts k ∧ iget u.cuts k ≤ 255 := by
  have key : ∀ j : Nat, j < u.cuts.length → 0 ≤ iget u.cuts j := by
    intro j
    induction j with
    | zero => intro _; have := hu.first; simp only [iget]; omega
    | succ j ih =>
      intro hj
      have h1 := ih (by omega)
      have h2 := (hu.cuts (j + 1) hj (by omega)).1
      simp only [Nat.add_sub_cancel] at h2
      simp only [iget] at h1 ⊢
      omega
  refine ⟨key k hk, ?_⟩
  cases k with
  | zero => have := hu.first; simp only [iget]; omega
  | succ k => exact (hu.cuts (k + 1) hk (by omega)).2
theorem lst_step {u : Au} {i : Nat} {q : List (Int × List Nat)} {p : Int × List Nat} (hi : i < 257) (hp : q[i]? = some p) (hx : bget u.accept p.1.toNat = false) : lstLoop u (257 - i) i q = lstLoop u (257 - (i + 1)) (i + 1) (lstRow u.cuts p.2 0 (rget u.next p.1.toNat) q) := by
  obtain ⟨m, hm⟩ : ∃ m, 257 - i = m + 1 := ⟨256 - i, by omega⟩
  have : 257 - (i + 1) = m := by omega
  obtain ⟨s, b⟩ := p
  rw [hm, this]; simp only [lstLoop, hp]
  simp only at hx
  rw [hx]; rfl
theorem lst_hit {u : Au} {i : Nat} {q : List (Int × List Nat)} {p : Int × List Nat} (hi : i < 257) (hp : q[i]? = some p) (hx : bget u.accept p.1.toNat = true) : lstLoop u (257 - i) i q = some p.2 := by
  obtain ⟨m, hm⟩ : ∃ m, 257 - i = m + 1 := ⟨256 - i, by omega⟩
  obtain ⟨s, b⟩ := p
  rw [hm]; simp only [lstLoop, hp]
  simp only at hx
  rw [hx]; rfl
theorem lst_end {u : Au} {i : Nat} {q : List (Int × List Nat)} (hi : i < 257) (hp : q.length ≤ i) : lstLoop u (257 - i) i q = none := by
  obtain ⟨m, hm⟩ : ∃ m, 257 - i = m + 1 := ⟨256 - i, by omega⟩
  rw [hm]; simp only [lstLoop, List.getElem?_eq_none hp]
theorem drop_iget {l : List Int} {k : Nat} (h : k < l.length) : l.drop k = iget l k :: l.drop (k + 1) := by
  rw [List.drop_eq_getElem_cons h]
  simp [iget, List.getD, List.getElem?_eq_getElem h]
theorem conv_one (w : World) (c : Nat) (hc : c < 256) : (convert 47 9 (.slice (some ⟨w.heap.size, 0, none⟩) 1 1)).run Try.prog (w.alloc (.cells #[.int .u8 c] 5)) = .ok (.string (strOfNums (nats [c]))) (w.alloc (.cells #[.int .u8 c] 5)) := by
  refine conv_str _ (fun _ => False) [c] _ _ ⟨⟨Nat.le_refl _, by simp⟩, fun h => by simp at h, fun _ => ⟨w.heap.size, 0, rfl, fun h => h, by simp, fun i v hi => ?_⟩⟩
  match i, hi with
  | 0, hi => simp at hi; subst hi; go_side

set_option maxRecDepth 100000 in
set_option maxHeartbeats 3200000 in
theorem Least_good (u : Au) (hu : AGood u) (w : World) (A : Nat → Prop) (p : APl) (h : AuRep w A u p) :
    Calls Try.prog 6 #[auv u p] w fun e w' => e = .returned (.tuple #[leastV (leastP u), .bool (leastP u).isSome, .int .i64 0]) ∧ Below w.heap.size w w' := by
  have hl1 := h.next.bd
  have hl2 := h.accept.bd
  have hl3 := h.cuts.bd
  simp only [List.length_map] at hl1 hl2 hl3
  have hacc := hu.acc
  have h256 := hu.states.2
  have hpos := hu.states.1
  have hE0 := Ext.alloc w (.cells #[.slice p.ca u.cuts.length p.cc, .slice p.na u.next.length p.nc, .slice p.aa u.accept.length p.ac] 26)
  have HV := Lib.hid (aValid_any u _ A p (h.ext hE0.1))
  rw [(avalid_zero u).2 hu] at HV
  have H := Lib.hid h
  have HU := Lib.hid hu
  have HACC := Lib.hid hacc
  clear h hE0 hu hacc
  obtain ⟨ca, cc, na, nc, aa, ac⟩ := p
  simp only [auv] at HV ⊢
  go_enter Try.func6, Try.ntmps6
  go_wp2_with fail
  refine HV.out.mono ?_
  rintro e w1 ⟨rfl, hb1⟩
  simp only [World.size_alloc] at hb1
  obtain ⟨b0, b1, b2⟩ := box3 hb1
  have hs1 : w.heap.size < w1.heap.size := by have := hb1.size; simp only [World.size_alloc] at this; omega
  have hmk := fun W => run_make_c (P := Try.prog) 24 4 tabBo rfl (by omega) u.next.length (by omega) W
  have hbk := (Blk.new (w1.alloc (.cells #[.int .i64 0, .string ⟨#[]⟩] 45)) 4 (List.replicate u.next.length (.bool false)))
  have cs0 := hbk.cell (i := 0) (v := .bool false) (by rw [List.getElem?_replicate, if_pos hpos])
  have fs0 := hbk.free 0
  simp only [World.size_alloc] at cs0 fs0
  have HB1 := Lib.hid hb1
  have h0n : (0 : Int) < u.next.length := by omega
  have HMK := Lib.hid hmk
  clear hb1 hbk HV
  go_wp2_with fail
  clear cs0 fs0
  rw [show (Array.replicate u.next.length (Value.bool false)).setIfInBounds 0 (.bool true) = (boos (seenL u.next.length [(0, [])])).toArray by rw [← seenL_start _ hpos]; show (List.replicate u.next.length (Value.bool false)).toArray.setIfInBounds 0 (.bool true) = _; rw [List.setIfInBounds_toArray]]
  have hE2 := (Ext.alloc w1 (.cells #[.int .i64 0, .string ⟨#[]⟩] 45)).trans (Ext.alloc _ (.cells (boos (seenL u.next.length [(0, [])])).toArray 4))
  have hown : OwnF (w1.alloc (.cells #[.int .i64 0, .string ⟨#[]⟩] 45)) (w.heap.size + 1) 45 2 (.slice (some ⟨w1.heap.size, 0, none⟩) 1 1) [qc (0, [])] :=
    ⟨⟨rfl, .inr ⟨w1.heap.size, 1, #[.int .i64 0, .string ⟨#[]⟩], rfl, by omega, heap_alloc_new w1 _, Nat.le_refl _, by unfold maxLen; omega, rfl, rfl⟩⟩, by simp [qc]⟩
  have hbk := (Blk.new (w1.alloc (.cells #[.int .i64 0, .string ⟨#[]⟩] 45)) 4 (boos (seenL u.next.length [(0, [])])))
  simp only [World.size_alloc] at hbk
  have HO0 := Lib.hid (hown.ext (Ext.alloc _ (.cells (boos (seenL u.next.length [(0, [])])).toArray 4)).1)
  have HBK0 := Lib.hid hbk
  have HE2 := Lib.hid hE2
  clear hown hbk hE2 b0 b1 b2
  go_loopw [6, 8] (fun qv iv wr => ∃ (i : Nat) (q : List (Int × List Nat)) (qg : Option Addr) (qcap : Nat), iv = .int .i64 i ∧ i ≤ q.length ∧ q.length ≤ u.next.length ∧ qv = .slice qg q.length qcap ∧ w1.heap.size + 1 < wr.heap.size ∧
      Hid (OwnF wr (w.heap.size + 1) 45 2 (.slice qg q.length qcap) (q.map qc)) ∧ Hid (Blk wr (w1.heap.size + 1) 4 (boos (seenL u.next.length q))) ∧ Hid (QOK u.next.length q) ∧ Hid (∀ p ∈ q, p.2.length + 1 ≤ q.length) ∧
      Hid (lstLoop u (257 - i) i q = leastP u) ∧ Hid (Below (w.heap.size + 1) (w.alloc (.cells #[.slice ca u.cuts.length cc, .slice na u.next.length nc, .slice aa u.accept.length ac] 26)) wr))
    (fun _ iv _ => 257 - (intOf iv).toNat)
  case atStart => exact ⟨0, [(0, [])], some ⟨w1.heap.size, 0, none⟩, 1, by simp, by simp, hpos, rfl, by simp, HO0, HBK0, Lib.hid ⟨by simp, by simp; omega⟩, Lib.hid (by simp), Lib.hid rfl, Lib.hid (HB1.out.trans (HE2.out.1.mono (by omega)))⟩
  case round =>
    obtain ⟨i, q, qg, qcap, rfl, hi, hqn, rfl, hsz, HO, HBK, HQ, HLN, HL, HB⟩ := hrel
    obtain ⟨b0, b1, b2⟩ := box3 HB.out
    by_cases hlt : i < q.length
    · obtain ⟨pq, hpq⟩ : ∃ pq, q[i]? = some pq := ⟨_, List.getElem?_eq_getElem hlt⟩
      obtain ⟨gq, hqg, hgq1, hgq2, hqc1, hqc2, hqcell⟩ := HO.out.get (i := i) (l := qc pq) (by rw [List.getElem?_map, hpq]; rfl)
      subst hqg
      obtain ⟨st, by_⟩ := pq
      have qc0 := hqcell 0 (.int .i64 st) (by omega) rfl
      have qc1 := hqcell 1 (strB by_) (by omega) rfl
      simp only [Nat.add_zero] at qc0
      have hst := HQ.out.2 _ (List.mem_of_getElem? hpq)
      simp only at hst
      have hst0 : 0 ≤ st := hst.1
      have hst1 : st < (u.next.length : Int) := hst.2
      have hst2 : st < (u.accept.length : Int) := by rw [HACC.out]; exact hst1
      obtain ⟨ga, oa, haa, hga, hacell0⟩ := boos_cell' H.out.accept (i := st.toNat) (by omega)
      obtain ⟨gn, on, ra, rc, hna, hgn, hncell0, hrow⟩ := rows_cell' H.out.next (i := st.toNat) (by omega)
      simp only at haa hna
      subst haa hna
      have hacell := below_cell (ext_alloc HB.out) hga hacell0
      have hncell := below_cell (ext_alloc HB.out) hgn hncell0
      have hga' : ga < wr.heap.size := by omega
      have hgn' : gn < wr.heap.size := by omega
      clear hacell0 hncell0
      have hcap2 : qcap ≤ 9223372036854775807 := by unfold maxLen at hqc2; omega
      have hlt0 : w.heap.size < wr.heap.size := by omega
      have hbl := HLN.out _ (List.mem_of_getElem? hpq)
      simp only at hbl
      have hrow2 := HU.out.row (s := st.toNat) (by omega)
      have HROW2 := Lib.hid hrow2
      have HROW := Lib.hid hrow
      have HPQ := Lib.hid hpq
      clear hrow2 hrow hpq hqcell hst
      cases hx : bget u.accept st.toNat with
      | true =>
        rw [hx] at hacell
        have hres : leastP u = some by_ := by rw [← HL.out]; exact lst_hit (by omega) HPQ.out hx
        have HRES := Lib.hid hres
        clear hres hx
        go_wp2_with fail
        refine bodyPost_ret (results_tmp3 rfl _ _ _) rfl ?_
        rw [HRES.out]
        exact ⟨rfl, (ext_alloc HB.out).alloc (by omega) _⟩
      | false =>
        rw [hx] at hacell
        have HX := Lib.hid hx
        clear hx
        have hrb := HROW.out.bd
        simp only [List.length_map] at hrb
        have hrlen := HROW2.out.1
        generalize hR : rget u.next st.toNat = R at *
        go_wp2_with fail
        have hEq := Ext.alloc wr (.cells #[.int .i64 st, strB by_] 45)
        have hbkq := Blk.new wr 45 (qc (st, by_))
        have HBQ0 := Lib.hid hbkq
        have HEQ := Lib.hid hEq
        have hne0 : Value.ownBlock (.slice (some ⟨gq, 0, none⟩) q.length qcap) ≠ some wr.heap.size := fun e => by have := (HO.out.lt e).2; omega
        have HNE0 := Lib.hid hne0
        have HRR := Lib.hid hR
        clear hEq hbkq hne0 qc0 qc1 hacell hncell b0 b1 b2 hR
        obtain ⟨wo, rfl⟩ : ∃ wo : World, wo = wr := ⟨_, rfl⟩
        go_loopw [6, 50] (fun qv kv wq => ∃ (k : Nat) (q' : List (Int × List Nat)) (qg' : Option Addr) (qcap' : Nat), kv = .int .i64 k ∧ k ≤ R.length ∧ q.length ≤ q'.length ∧ q'.length ≤ u.next.length ∧ qv = .slice qg' q'.length qcap' ∧ wo.heap.size < wq.heap.size ∧
            Hid (OwnF wq (w.heap.size + 1) 45 2 (.slice qg' q'.length qcap') (q'.map qc)) ∧ Hid (Value.ownBlock (.slice qg' q'.length qcap') ≠ some wo.heap.size) ∧ Hid (Blk wq (w1.heap.size + 1) 4 (boos (seenL u.next.length q'))) ∧ Hid (Blk wq wo.heap.size 45 (qc (st, by_))) ∧
            Hid (QOK u.next.length q') ∧ Hid (∀ p ∈ q', p.2.length + 1 ≤ q'.length) ∧ Hid (lstRow u.cuts by_ k (R.drop k) q' = lstRow u.cuts by_ 0 R q) ∧ Hid (Below (w.heap.size + 1) (w.alloc (.cells #[.slice ca u.cuts.length cc, .slice (some ⟨gn, on, none⟩) u.next.length nc, .slice (some ⟨ga, oa, none⟩) u.accept.length ac] 26)) wq))
          (fun _ kv _ => R.length - (intOf kv).toNat)
        case atStart => exact ⟨0, q, some ⟨gq, 0, none⟩, qcap, by simp, Nat.zero_le _, Nat.le_refl _, hqn, rfl, by simp, Lib.hid (HO.out.ext HEQ.out.1), HNE0, Lib.hid (HBK.out.ext HEQ.out.1), HBQ0, HQ, HLN, Lib.hid rfl, Lib.hid (HB.out.trans (HEQ.out.1.mono (by omega)))⟩
        case round =>
          obtain ⟨k, q', qg', qcap', rfl, hk, hqq, hqn', rfl, hszq, HO1, HNE1, HBK1, HBQ1, HQ1, HLN1, HLS1, HB1⟩ := hrel
          obtain ⟨b0, b1, b2⟩ := box3 HB1.out
          by_cases hkl : k < R.length
          · obtain ⟨gr, or, hra, hgr, hrc⟩ := ints_cell' (HROW.out.ext (ext_alloc HB1.out)) hkl
            subst hra
            have htr := HROW2.out.2 _ (List.mem_of_getElem? (iget_get hkl))
            have hdr := drop_iget hkl
            generalize hT : iget R k = t at *
            have ht0 : 0 ≤ t := htr.1
            have ht1 : t < (u.next.length : Int) := htr.2
            have hseen := HBK1.out.cell (i := t.toNat) (v := .bool (decide (t ∈ q'.map Prod.fst))) (by rw [List.getElem?_map, seenL_get _ _ _ ht0 ht1]; rfl)
            have hfree := HBK1.out.free t.toNat
            have HDR := Lib.hid hdr
            clear hT hdr htr
            by_cases hmem : t ∈ q'.map Prod.fst
            · rw [decide_eq_true hmem] at hseen
              have hls : lstRow u.cuts by_ (k + 1) (R.drop (k + 1)) q' = lstRow u.cuts by_ 0 R q := by
                rw [← HLS1.out, HDR.out]
                simp only [lstRow]
                rw [if_pos hmem]
              have HLS2 := Lib.hid hls
              clear hls hmem
              go_wp2_with fail
              go_roundw
              case rel => exact ⟨k + 1, q', qg', qcap', by simp, by omega, hqq, hqn', rfl, hszq, HO1, HNE1, HBK1, HBQ1, HQ1, HLN1, HLS2, HB1⟩
              case measure => simp [intOf]; omega
            · rw [decide_eq_false hmem] at hseen
              obtain ⟨gc, oc, hca, hgc, hcc⟩ := ints_cell' H.out.cuts (i := k) (by omega)
              simp only at hca
              have hcr := cuts_range HU.out (k := k) (by omega)
              have hls : lstRow u.cuts by_ (k + 1) (R.drop (k + 1)) (q' ++ [(t, by_ ++ [(iget u.cuts k).toNat])]) = lstRow u.cuts by_ 0 R q := by
                rw [← HLS1.out, HDR.out]
                simp only [lstRow]
                rw [if_neg hmem]
              obtain ⟨ch, hch⟩ : ∃ ch : Nat, iget u.cuts k = (ch : Int) := ⟨(iget u.cuts k).toNat, by omega⟩
              rw [hch] at hcc hls hcr
              simp only [Int.toNat_natCast] at hls
              have hch2 : ch < 256 := by omega
              have hch3 : IntKind.u8.wrap (ch : Int) = (ch : Int) := IntWalk.u8_in _ (by omega)
              have HMEM := Lib.hid hmem
              have HLS2 := Lib.hid hls
              subst hca
              clear hmem hls hch hcr
              have i1 : (0 : Int) ≤ k := by omega
              have i2 : (k : Int) < u.cuts.length := by omega
              -- behind the store
              have hq1 := HQ1.out.add (by_ ++ [ch]) ⟨ht0, ht1⟩ HMEM.out
              have hlq := hq1.len
              rw [List.length_append, List.length_singleton] at hlq
              have hbk5 := HBK1.out.set t.toNat (.bool true)
              rw [seenL_set u.next.length q' t (by_ ++ [ch]) ht0 ht1] at hbk5
              have hsbq : w1.heap.size + 1 ≠ wo.heap.size := by omega
              have hbq5 := HBQ1.out.keep (w' := wr.setCell ⟨w1.heap.size + 1, t.toNat, none⟩ (.bool true)) (Below.heap_setCell _ _ _ _ (fun e => hsbq e.symm))
              have hown5 := HO1.out.keep (w' := wr.setCell ⟨w1.heap.size + 1, t.toNat, none⟩ (.bool true)) (fun b hb => Below.heap_setCell _ _ _ _ (fun e => own_ne HO1.out.1 HBK1.out (fun cs fr e0 => by injection e0 with _ e1; exact absurd e1 (by decide)) (by rw [hb, e])))
              have hB5 := HB1.out.setCell (p := ⟨w1.heap.size + 1, t.toNat, none⟩) (show w.heap.size + 1 ≤ w1.heap.size + 1 by omega) (.bool true)
              obtain ⟨w5, hw5⟩ : ∃ w5, w5 = wr.setCell ⟨w1.heap.size + 1, t.toNat, none⟩ (.bool true) := ⟨_, rfl⟩
              have hz5 : w5.heap.size = wr.heap.size := by rw [hw5]; simp [World.setCell]
              rw [← hw5] at hbk5 hbq5 hown5 hB5
              have HW5 := Lib.hid hw5
              have HBK5 := Lib.hid hbk5
              have HBQ5 := Lib.hid hbq5
              have HO5 := Lib.hid hown5
              have HB5 := Lib.hid hB5
              have HQ5 := Lib.hid hq1
              obtain ⟨d0, d1, d2⟩ := box3 hB5
              have e1 := hbq5.cell (i := 1) (v := strB by_) rfl
              have ec := below_cell (ext_alloc hB5) hgc hcc
              have hs5 : wo.heap.size < w5.heap.size := by omega
              clear hbk5 hbq5 hown5 hB5 hw5 hq1 hcc
              go_wp2_with fail
              rw [← HW5.out]
              clear hrc hseen hfree b0 b1 b2 hz5
              refine wp_region_mix_tail (fun w' => w'.cell? ⟨wo.heap.size, 1, none⟩ = some (strB by_) ∧ w'.cell? ⟨w.heap.size, 0, none⟩ = some (.slice (some ⟨gc, oc, none⟩) u.cuts.length cc) ∧ w'.cell? ⟨gc, oc + k, none⟩ = some (.int .i64 ch)) 15 [(0, true), (1, true), (2, true), (3, true), (4, true), (5, true), (6, true), (7, true), (8, true), (9, true), (10, false), (11, false), (12, false), (13, false), (14, false)] (by kernel_rfl) (by kernel_rfl) ⟨e1, d0, ec⟩ ?_
              simp only [mixList, List.getElem?_toArray, List.getElem?_cons_zero, List.getElem?_cons_succ]
              repeat (apply Exists.intro; refine ⟨fun w' hC => .inl ⟨rfl, .inl ?_⟩, ?_⟩; ((obtain ⟨hC1, hC2, hC3⟩ := hC; go_simp; rfl)))
              have g0w : w.heap.size < w5.heap.size := by omega
              have gcw : gc < w5.heap.size := by omega
              have hE6 := Ext.alloc w5 (.cells #[.int .u8 ch] 5)
              have x1 := below_cell hE6.1 hs5 e1
              have x2 := below_cell hE6.1 g0w d0
              have x3 := below_cell hE6.1 gcw ec
              refine mix_loud rfl ?_
              unfold loud
              go_simp
              simp only [louD]
              refine ⟨⟨by simpa using x1, by simpa using x2, by simpa using x3⟩, ?_⟩
              have hconv : (convert 47 9 (.slice (some ⟨w5.heap.size, 0, none⟩) 1 1)).run Try.prog ((w5.alloc (.cells #[.int .u8 ch] 5)).drew) = .ok (.string (strOfNums (nats [ch]))) ((w5.alloc (.cells #[.int .u8 ch] 5)).drew) := conv_one w5.drew ch hch2
              refine mix_loud rfl ?_
              unfold loud
              go_simp
              simp only [louD]
              refine ⟨⟨by simpa using x1, by simpa using x2, by simpa using x3⟩, ?_⟩
              clear hconv
              have hsz1 : (strOfNums (nats by_)).size ≤ 1000 := by rw [strOfNums_size]; simp [nats]; omega
              have hsz2 : (strOfNums (nats [ch])).size = 1 := by rw [strOfNums_size]; rfl
              have hsz3 : (strOfNums (nats [ch])).size ≤ 1 := by omega
              clear hsz2
              have hnl : ¬ (9223372036854775807 < (strOfNums (nats by_)).size + (strOfNums (nats [ch])).size) := by omega
              refine mix_loud rfl ?_
              unfold loud
              go_simp
              simp only [louD]
              refine ⟨⟨by simpa using x1, by simpa using x2, by simpa using x3⟩, ?_⟩
              rw [strB_snoc]
              refine mix_loud rfl ?_
              unfold loud
              go_simp
              simp only [louD]
              refine ⟨⟨by simpa using x1, by simpa using x2, by simpa using x3⟩, ?_⟩
              have hE7 := Ext.alloc (w5.alloc (.cells #[.int .u8 ch] 5)) (.cells #[.int .i64 t, strB (by_ ++ [ch])] 45)
              have v1 := below_cell hE7.1 (by simp; omega) x1
              have v2 := below_cell hE7.1 (by simp; omega) x2
              have v3 := below_cell hE7.1 (by simp; omega) x3
              refine mix_loud rfl ?_
              unfold loud
              go_simp
              simp only [louD]
              refine ⟨⟨by simpa using v1, by simpa using v2, by simpa using v3⟩, ?_⟩
              have hO7 := (HO5.out.ext hE6.1).ext (Ext.drew _).1
              have HBK7 := Lib.hid ((HBK5.out.ext hE6.1).ext (Ext.drew _).1)
              have HBQ7 := Lib.hid ((HBQ5.out.ext hE6.1).ext (Ext.drew _).1)
              have HB7 := Lib.hid (HB5.out.trans ((hE6.trans (Ext.drew _)).1.mono (by omega)))
              have HO7 := Lib.hid hO7
              clear hO7 hE6 hE7 v1 v2 v3 x1 x2 x3 e1 d0 d1 d2 ec
              simp only [wpMix, List.drop_succ_cons, List.drop_zero]
              show wpList _ _ _ _ _ (((w5.alloc (.cells #[.int .u8 ch] 5)).drew).alloc (.cells #[.int .i64 t, strB (by_ ++ [ch])] 45))
              refine wpList_append_f1 rfl (.tmp 63) (.tmp 77) 46 45 rfl tabQ rfl (by omega) (by omega) (w.heap.size + 1) (.slice qg' q'.length qcap') _ rfl HO7.out (by simp; omega) #[.int .i64 t, strB (by_ ++ [ch])] rfl 45 _ rfl (by simp) (by simp [Value.oneCell']) (by simp; omega) ?_
              intro v8 w8 hg8
              obtain ⟨qg8, qcap8, rfl⟩ := hg8.own.form
              have hlen8 : (q'.map qc ++ [#[Value.int .i64 t, strB (by_ ++ [ch])].toList]).length = q'.length + 1 := by simp
              rw [hlen8] at hg8 ⊢
              have hs8 := hg8.below.size
              have hs5' : wo.heap.size < ((w5.alloc (.cells #[.int .u8 ch] 5)).drew).heap.size := by show wo.heap.size < (w5.alloc _).heap.size; simp; omega
              have hs8' : wo.heap.size < w8.heap.size := by omega
              have hne8 : Value.ownBlock (.slice qg8 (q'.length + 1) qcap8) ≠ some wo.heap.size := fun e => by
                rcases hg8.place with e2 | ⟨g, e2, hg⟩
                · rw [e2] at e; exact HNE1.out e
                · rw [e2] at e; cases e; omega
              have hO8 : OwnF w8 (w.heap.size + 1) 45 2 (.slice qg8 (q'.length + 1) qcap8) ((q' ++ [(t, by_ ++ [ch])]).map qc) := by
                have := hg8.own
                rw [List.map_append]
                exact this
              have hK8 := HBK7.out.keep (hg8.rest _ HBK7.out.lt (own_ne HO7.out.1 HBK7.out (fun cs fr e0 => by injection e0 with _ e1; exact absurd e1 (by decide))))
              have hQ8 := HBQ7.out.keep (hg8.rest _ HBQ7.out.lt HNE1.out)
              have hB8 := HB7.out.trans hg8.below
              have hln8 : ∀ p ∈ q' ++ [(t, by_ ++ [ch])], p.2.length + 1 ≤ (q' ++ [(t, by_ ++ [ch])]).length := fun p hp => by
                rw [List.length_append, List.length_singleton]
                rcases List.mem_append.1 hp with hp | hp
                · have := HLN1.out p hp; omega
                · rw [List.mem_singleton] at hp; subst hp; simp; omega
              have HO8 := Lib.hid hO8
              have HNE8 := Lib.hid hne8
              have HK8 := Lib.hid hK8
              have HQ8 := Lib.hid hQ8
              have HB8 := Lib.hid hB8
              have HLN8 := Lib.hid hln8
              clear hg8 hlen8 hO8 hne8 hK8 hQ8 hB8 hln8
              go_wp2_with fail
              go_roundw
              case rel => exact ⟨k + 1, q' ++ [(t, by_ ++ [ch])], qg8, qcap8, by simp, by omega, by simp; omega, by simp; omega, by simp, hs8', Lib.hid (by simpa using HO8.out), Lib.hid (by simpa using HNE8.out), HK8, HQ8, HQ5, HLN8, HLS2, HB8⟩
              case measure => simp [intOf]; omega
          · have he : k = R.length := by omega
            subst he
            have hstep : lstLoop u (257 - (i + 1)) (i + 1) q' = leastP u := by
              rw [← HL.out, lst_step (by omega) HPQ.out HX.out]
              simp only
              rw [HRR.out, ← HLS1.out, List.drop_length]
              rfl
            have HST := Lib.hid hstep
            clear hstep
            go_wp2_with fail
            go_roundw
            case rel => exact ⟨i + 1, q', qg', qcap', by simp, by omega, hqn', rfl, by omega, HO1, HBK1, HQ1, HLN1, HST, HB1⟩
            case measure => simp [intOf]; omega
    · go_wp2_with fail
      refine bodyPost_ret (results_tmp3 rfl _ _ _) rfl ?_
      have hres : leastP u = none := by rw [← HL.out]; exact lst_end (by omega) (by omega)
      rw [hres]
      exact ⟨rfl, ext_alloc HB.out⟩

def leastE (u : Au) : Int := avalid u
def leastW (u : Au) : Option (List Nat) := if avalid u = 0 then leastP u else none
theorem Least_any (u : Au) (w : World) (A : Nat → Prop) (p : APl) (h : AuRep w A u p) :
    Calls Try.prog 6 #[auv u p] w fun e w' => e = .returned (.tuple #[leastV (leastW u), .bool (leastW u).isSome, .int .i64 (avalid u)]) ∧ Below w.heap.size w w' := by
  by_cases hv : avalid u = 0
  · have := Least_good u ((avalid_zero u).1 hv) w A p h
    unfold leastW
    rw [if_pos hv, hv]
    exact this
  · have := Least_bad u hv w A p h
    unfold leastW
    rw [if_neg hv]
    exact this
end Go.Proofs.Ytbepohpppailnaa
