/- Walks: Of. -/
import Derived.Test.YtbepohpppailnaaA9
import Derived.Test.YtbepohpppailnaaA7
import Derived.Test.YtbepohpppailnaaA5
import Derived.Test.YtbepohpppailnaaA1
set_option linter.unusedSimpArgs false
set_option linter.unusedVariables false
namespace Go.Proofs.Ytbepohpppailnaa
open Go.RowKit
attribute [local go_sem ↓] Go.wp_at_zero Go.wp_at_succ

def noAu : Au := ⟨[], [], []⟩
/-- what Of answers -/
def ofP (r : Rx) : Int × Au :=
  if rvalid r = 0 then
    if nodes (nrm r) ≤ 64 then
      match numP (ofF (icanon (0 :: cutsA (nrm r)))) (icanon (0 :: cutsA (nrm r))).length (nrm r) with
      | none => (4, noAu)
      | some (l, t) => (0, ⟨icanon (0 :: cutsA (nrm r)), t.map nats, l.map nullable⟩)
    else (4, noAu)
  else (rvalid r, noAu)
set_option maxRecDepth 100000 in
set_option maxHeartbeats 1600000 in
theorem Of_bad (r : Rx) (hv : rvalid r ≠ 0) (w : World) (A : Nat → Prop) (a : Option Addr) (c : Nat) (hr : RxRep w A r a c) :
    Calls Try.prog 19 #[rxv r a c] w (AuPost w (rvalid r) noAu) := by
  have hE0 := (Ext.alloc w (.cells #[.int .i64 r.k, .int .u8 r.lo, .int .u8 r.hi, .slice a r.ks.length c] 54)).trans (Ext.alloc _ (.cells #[.slice none 0 0, .slice none 0 0, .slice none 0 0] 26))
  have HN := Lib.hid (Normal_bad r hv _ A a c (hr.ext hE0.1))
  have HE0 := Lib.hid hE0
  have hv2 := ine_t hv
  clear hr hE0 hv
  simp only [rxv] at HN ⊢
  go_enter Try.func19, Try.ntmps19
  go_wp2_with fail
  refine HN.out.mono ?_
  rintro e w1 ⟨rfl, hb1⟩
  simp only [World.size_alloc] at hb1
  obtain ⟨⟨r0, r1, r2⟩, f0, f1, f2⟩ := below_res3 hb1 (by omega)
  have hs1 : w.heap.size + 1 < w1.heap.size := by have := hb1.size; simp only [World.size_alloc] at this; omega
  have HB1 := Lib.hid (HE0.out.1.trans (hb1.mono (by omega)))
  clear hb1
  simp only [rxv, noneR, Rx.k_mk, Rx.lo_mk, Rx.hi_mk, Rx.ks_mk]
  go_wp2_with fail
  obtain ⟨k0, k1, k2⟩ := set3_cells_alloc r0 r1 r2 (.slice none 0 0) (.slice none 0 0) (.slice none 0 0) (.cells #[.int .i64 0, .int .u8 0, .int .u8 0, .slice none 0 0] 54)
  refine bodyPost_ret (v := .tuple #[.agg #[.slice none 0 0, .slice none 0 0, .slice none 0 0], .int .i64 (rvalid r)]) (by simp [results, Try.results19, go_sem, k0, k1, k2]) rfl ⟨⟨none, 0, none, 0, none, 0⟩, rfl, AuRep.no _ _, ?_⟩
  exact (set3_below HB1.out (by omega) _ _ _).alloc (by rw [set3_size]; omega) _

set_option maxRecDepth 100000 in
set_option maxHeartbeats 1600000 in
theorem Of_large (r : Rx) (hv : rvalid r = 0) (hn : ¬ nodes (nrm r) ≤ 64) (w : World) (A : Nat → Prop) (a : Option Addr) (c : Nat) (hr : RxRep w A r a c) :
    Calls Try.prog 19 #[rxv r a c] w (AuPost w 4 noAu) := by
  have hE0 := (Ext.alloc w (.cells #[.int .i64 r.k, .int .u8 r.lo, .int .u8 r.hi, .slice a r.ks.length c] 54)).trans (Ext.alloc _ (.cells #[.slice none 0 0, .slice none 0 0, .slice none 0 0] 26))
  have e1 : rxLim (nrm r) = noneR := by unfold rxLim; rw [if_neg hn]
  have e2 : errLim (nrm r) = 4 := by unfold errLim; rw [if_neg hn]
  have hN := Normal_good r hv _ A a c (hr.ext hE0.1)
  rw [e1, e2] at hN
  have HN := Lib.hid hN
  have HE0 := Lib.hid hE0
  clear hr hE0 hN e1 e2 hn hv
  simp only [rxv] at HN ⊢
  go_enter Try.func19, Try.ntmps19
  go_wp2_with fail
  refine HN.out.mono ?_
  rintro e w1 ⟨a1, c1, rfl, hb1, _⟩
  simp only [World.size_alloc] at hb1
  obtain ⟨⟨r0, r1, r2⟩, f0, f1, f2⟩ := below_res3 hb1 (by omega)
  have hs1 : w.heap.size + 1 < w1.heap.size := by have := hb1.size; simp only [World.size_alloc] at this; omega
  have HB1 := Lib.hid (HE0.out.1.trans (hb1.mono (by omega)))
  clear hb1
  simp only [rxv, noneR, Rx.k_mk, Rx.lo_mk, Rx.hi_mk, Rx.ks_mk]
  go_wp2_with fail
  obtain ⟨k0, k1, k2⟩ := set3_cells_alloc r0 r1 r2 (.slice none 0 0) (.slice none 0 0) (.slice none 0 0) (.cells #[.int .i64 0, .int .u8 0, .int .u8 0, .slice a1 ([] : List Rx).length c1] 54)
  refine bodyPost_ret (v := .tuple #[.agg #[.slice none 0 0, .slice none 0 0, .slice none 0 0], .int .i64 4]) (by simp only [List.length_nil] at k0 k1 k2; simp [results, Try.results19, go_sem, k0, k1, k2]) rfl ⟨⟨none, 0, none, 0, none, 0⟩, rfl, AuRep.no _ _, ?_⟩
  exact (set3_below HB1.out (by omega) _ _ _).alloc (by rw [set3_size]; omega) _

section
variable {α : Type} [DecidableEq α]
theorem rowP_len (f : Nat → Option α) (m k : Nat) (l : List α) (r : List Nat) (l' : List α) (r' : List Nat) (hl : l.length ≤ 256) (h : rowP f m k l r = some (l', r')) : l'.length ≤ 256 ∧ r'.length = r.length + m ∧ ∃ t, l' = l ++ t := by
  rw [rowP_eq _ _ _ _ _ hl] at h
  cases hr : rowR f m k l r with
  | none => rw [hr] at h; cases h
  | some p =>
    obtain ⟨l2, r2⟩ := p
    rw [hr] at h
    simp only at h
    split at h
    · cases h
      obtain ⟨_, _, h3, h4⟩ := rowR_len _ _ _ _ _ _ _ hr
      exact ⟨by assumption, h3, h4⟩
    · cases h
theorem loopP_len (f : α → Nat → Option α) (cl fu i : Nat) (l : List α) (t : List (List Nat)) (l' : List α) (t' : List (List Nat)) (hl : l.length ≤ 256) (ht : t.length = i) (hi : i ≤ l.length) (h : loopP f cl fu i l t = some (l', t')) : l'.length ≤ 256 ∧ t'.length = l'.length ∧ (∃ q, l' = l ++ q) := by
  induction fu generalizing i l t with
  | zero => cases h
  | succ fu ih =>
    simp only [loopP] at h
    cases hs : l[i]? with
    | none =>
      rw [hs] at h
      cases h
      have := List.getElem?_eq_none_iff.1 hs
      exact ⟨hl, by omega, [], by simp⟩
    | some s =>
      rw [hs] at h
      simp only at h
      cases hr : rowP (f s) cl 0 l [] with
      | none => rw [hr] at h; cases h
      | some p =>
        obtain ⟨l2, r2⟩ := p
        rw [hr] at h
        obtain ⟨h1, h2, q, rfl⟩ := rowP_len _ _ _ _ _ _ _ hl hr
        have hil := (List.getElem?_eq_some_iff.1 hs).1
        obtain ⟨h3, h4, q2, h5⟩ := ih (i + 1) (l ++ q) (t ++ [r2]) h1 (by simp [ht]) (by simp; omega) h
        exact ⟨h3, h4, q ++ q2, by rw [h5, List.append_assoc]⟩
theorem numP_len (f : α → Nat → Option α) (cl : Nat) (s : α) (l' : List α) (t' : List (List Nat)) (h : numP f cl s = some (l', t')) : l'.length ≤ 256 ∧ t'.length = l'.length ∧ ∃ q, l' = s :: q := by
  obtain ⟨h1, h2, q, h3⟩ := loopP_len f cl 257 0 [s] [] l' t' (by simp) rfl (by simp) h
  exact ⟨h1, h2, q, h3⟩
end
theorem boos_get (l : List Rx) (j m : Nat) (hj : j < l.length) : (boos ((l.take j).map nullable) ++ List.replicate (m + 1) (Value.bool false))[j]? = some (.bool false) := by
  rw [List.getElem?_append_right (by simp; omega)]
  simp [Nat.min_eq_left (Nat.le_of_lt hj)]
theorem boos_set (l : List Rx) (j m : Nat) (x : Rx) (hx : l[j]? = some x) : (boos ((l.take j).map nullable) ++ List.replicate (m + 1) (Value.bool false)).set j (.bool (nullable x)) = boos ((l.take (j + 1)).map nullable) ++ List.replicate m (.bool false) := by
  have hj := (List.getElem?_eq_some_iff.1 hx).1
  rw [List.set_append_right _ _ (by simp; omega)]
  have e : j - (boos ((l.take j).map nullable)).length = 0 := by simp; omega
  rw [e, List.take_add_one, hx]
  simp [List.replicate_succ]

theorem cutsA_range : ∀ (r : Rx) {w : World} {A : Nat → Prop} {a : Option Addr} {c : Nat}, RxRep w A r a c → ∀ x ∈ cutsA r, 0 ≤ x ∧ x ≤ 255 := by
  intro r w A a c h
  induction h with
  | @mk k lo hi ks a c fa fc hk hlo hhi hlen hcap hn ho hks ih =>
    intro x hx
    simp only [cutsA, List.mem_append] at hx
    rcases hx with hx | hx
    · split at hx
      · rcases List.mem_cons.1 hx with rfl | hx
        · omega
        · split at hx
          · rw [List.mem_singleton] at hx; omega
          · cases hx
      · cases hx
    · have : ∀ l : List Rx, (∀ y ∈ l, y ∈ ks) → x ∈ cutsAL l → 0 ≤ x ∧ x ≤ 255 := by
        intro l
        induction l with
        | nil => intro _ h; cases h
        | cons y l ihl =>
          intro hm h
          simp only [cutsAL, List.mem_append] at h
          rcases h with h | h
          · obtain ⟨i, hi⟩ := List.getElem?_of_mem (hm y List.mem_cons_self)
            exact ih i y hi x h
          · exact ihl (fun z hz => hm z (List.mem_cons_of_mem _ hz)) h
      exact this ks (fun y hy => hy) hx

set_option maxRecDepth 100000 in
set_option maxHeartbeats 3200000 in
theorem Of_good (r : Rx) (hv : rvalid r = 0) (hn : nodes (nrm r) ≤ 64) (w : World) (A : Nat → Prop) (a : Option Addr) (c : Nat) (hr : RxRep w A r a c) :
    Calls Try.prog 19 #[rxv r a c] w (AuPost w (ofP r).1 (ofP r).2) := by
  have hE0 := (Ext.alloc w (.cells #[.int .i64 r.k, .int .u8 r.lo, .int .u8 r.hi, .slice a r.ks.length c] 54)).trans (Ext.alloc _ (.cells #[.slice none 0 0, .slice none 0 0, .slice none 0 0] 26))
  have e1 : rxLim (nrm r) = nrm r := by unfold rxLim; rw [if_pos hn]
  have e2 : errLim (nrm r) = 0 := by unfold errLim; rw [if_pos hn]
  have hN := Normal_good r hv _ A a c (hr.ext hE0.1)
  rw [e1, e2] at hN
  have hpn := nrm_proper r (rvalid_zero hv).1
  have hof : ofP r = match numP (ofF (icanon (0 :: cutsA (nrm r)))) (icanon (0 :: cutsA (nrm r))).length (nrm r) with
      | none => (4, noAu)
      | some (l, t) => (0, ⟨icanon (0 :: cutsA (nrm r)), t.map nats, l.map nullable⟩) := by
    unfold ofP; rw [if_pos hv, if_pos hn]
  have HOF := Lib.hid hof
  have HN := Lib.hid hN
  have HE0 := Lib.hid hE0
  clear hr hE0 hN e1 e2 hv hof
  generalize hnr : nrm r = s at *
  have hvs := rvalid_mk hpn hn
  have HPN := Lib.hid hpn
  have HVS := Lib.hid hvs
  clear hnr hpn hvs
  simp only [rxv] at HN ⊢
  go_enter Try.func19, Try.ntmps19
  go_wp2_with fail
  refine HN.out.mono ?_
  rintro e w1 ⟨a1, c1, rfl, hb1, hr1⟩
  simp only [World.size_alloc] at hb1
  obtain ⟨⟨r0, r1, r2⟩, f0, f1, f2⟩ := below_res3 hb1 (by omega)
  have hs1 : w.heap.size + 1 < w1.heap.size := by have := hb1.size; simp only [World.size_alloc] at this; omega
  have HB1 := Lib.hid (HE0.out.1.trans (hb1.mono (by omega)))
  have hcr := cutsA_range s hr1
  have HCR := Lib.hid hcr
  have hcl := cutsA_length s
  -- cutsOf
  have hE2 := (Ext.alloc w1 (.cells #[.int .i64 s.k, .int .u8 s.lo, .int .u8 s.hi, .slice a1 s.ks.length c1] 54)).trans (Ext.alloc _ (.cells #[.int .i64 0] 3))
  have hown : OwnC ((w1.alloc (.cells #[.int .i64 s.k, .int .u8 s.lo, .int .u8 s.hi, .slice a1 s.ks.length c1] 54)).alloc (.cells #[.int .i64 0] 3)) (w1.heap.size + 1) 3 (.slice (some ⟨w1.heap.size + 1, 0, none⟩) 1 1) (ints [0]) := by
    refine ⟨rfl, .inr ⟨w1.heap.size + 1, 1, #[.int .i64 0], rfl, by omega, ?_, Nat.le_refl _, by unfold maxLen; omega, rfl, rfl⟩⟩
    have := heap_alloc_new (w1.alloc (.cells #[.int .i64 s.k, .int .u8 s.lo, .int .u8 s.hi, .slice a1 s.ks.length c1] 54)) (.cells #[.int .i64 0] 3)
    simpa using this
  have HC := Lib.hid (cutsOf_any s _ (w1.heap.size + 1) _ [0] (fun b => w1.heap.size ≤ b) a1 c1 hown (by simp) ((hr1.old.ext hE2.1).avoid fun b _ hh => .inr hh) (fun b hb => by omega) (by simp; omega) HPN.out)
  have HR1 := Lib.hid hr1
  have HE2 := Lib.hid hE2
  clear hb1 hr1 hown hE2 hcr
  simp only [rxv] at HC ⊢
  go_wp2_with fail
  refine HC.out.mono ?_
  rintro e w2 ⟨v2, rfl, ho2, hb2⟩
  have hs2 := hb2.size
  simp only [World.size_alloc] at hs2
  have HS := Lib.hid (sorted_any ([0] ++ cutsA s) (by simp) w2 (w1.heap.size + 1) v2 ho2 (by simp; omega))
  have hB2 : Below w1.heap.size w1 w2 := HE2.out.1.trans (hb2.mono (by omega))
  have x0 := below_cell hb2 (p := ⟨w1.heap.size, 0, none⟩) (v := .int .i64 s.k) (by simp) (by go_side)
  have x1 := below_cell hb2 (p := ⟨w1.heap.size, 1, none⟩) (v := .int .u8 s.lo) (by simp) (by go_side)
  have x2 := below_cell hb2 (p := ⟨w1.heap.size, 2, none⟩) (v := .int .u8 s.hi) (by simp) (by go_side)
  have x3 := below_cell hb2 (p := ⟨w1.heap.size, 3, none⟩) (v := .slice a1 s.ks.length c1) (by simp) (by go_side)
  have HB2 := Lib.hid hB2
  clear ho2 hb2 hB2 HC
  go_wp2_with fail
  refine HS.out.mono ?_
  rintro e w3 ⟨v3, rfl, ho3, hb3⟩
  have hs3 := hb3.size
  obtain ⟨cg, cap3, rfl⟩ := ho3.form
  have y0 := below_cell hb3 (p := ⟨w1.heap.size, 0, none⟩) (by simp) x0
  have y1 := below_cell hb3 (p := ⟨w1.heap.size, 1, none⟩) (by simp) x1
  have y2 := below_cell hb3 (p := ⟨w1.heap.size, 2, none⟩) (by simp) x2
  have y3 := below_cell hb3 (p := ⟨w1.heap.size, 3, none⟩) (by simp) x3
  have hrep := ho3.rep (A := fun b => b < w1.heap.size + 1) (fun b hb hh => by omega)
  simp only [List.length_map, List.cons_append, List.nil_append] at hrep ho3 ⊢
  have hir : ∀ x ∈ icanon (0 :: cutsA s), 0 ≤ x ∧ x ≤ 255 := fun x hx => by
    rcases List.mem_cons.1 ((icanon_mem _ _).1 hx) with rfl | hx
    · omega
    · exact HCR.out x hx
  have hil := icanon_length (0 :: cutsA s)
  simp only [List.length_cons] at hil
  generalize hcu : icanon (0 :: cutsA s) = cuts at *
  have HB3 := Lib.hid (HB2.out.trans (hb3.mono (by omega)))
  have HREP := Lib.hid hrep
  have HIR := Lib.hid hir
  clear hcu ho3 hb3 hrep hir x0 x1 x2 x3 HS HB2
  have hs13 : w1.heap.size < w3.heap.size := by omega
  have hs13' : w.heap.size + 1 < w3.heap.size := by omega
  -- number
  have hE4 := Ext.alloc w3 (.cells #[.slice cg cuts.length cap3] 22)
  have hnextC : NextC Try.prog 31 cuts := fun s hv k hk w A A' a c hr cb ca cc h1 h2 => Of2_any s hv cuts HIR.out k hk w A A' a c hr cb ca cc h1 h2
  have HNUM := Lib.hid (number_rx_any cuts hnextC s HVS.out (w3.alloc (.cells #[.slice cg cuts.length cap3] 22)) _ (fun b => b < w1.heap.size + 1) a1 c1 ((HR1.out.ext HB3.out).ext hE4.1) w3.heap.size cg cap3 (by go_side) (HREP.out.ext hE4.1) (by have := hcl; omega))
  have HE4 := Lib.hid hE4
  clear hE4 hnextC
  simp only [rxv] at HNUM
  go_wp2_with fail
  refine HNUM.out.mono ?_
  rintro e w4 ⟨hb4, hpost⟩
  have hs4 := hb4.size
  simp only [World.size_alloc] at hs4
  have hB4 : Below w1.heap.size w1 w4 := (HB3.out.trans (HE4.out.1.mono (by omega))).trans (hb4.mono (by simp only [World.size_alloc]; omega))
  have hWB : Below w.heap.size w w4 := HB1.out.trans (hB4.mono (by omega))
  have q0 := below_cell hB4 (p := ⟨w.heap.size + 1, 0, none⟩) hs1 r0
  have q1 := below_cell hB4 (p := ⟨w.heap.size + 1, 1, none⟩) hs1 r1
  have q2 := below_cell hB4 (p := ⟨w.heap.size + 1, 2, none⟩) hs1 r2
  have p0 := below_free hB4 (p := ⟨w.heap.size + 1, 0, none⟩) hs1 f0
  have p1 := below_free hB4 (p := ⟨w.heap.size + 1, 1, none⟩) hs1 f1
  have p2 := below_free hB4 (p := ⟨w.heap.size + 1, 2, none⟩) hs1 f2
  have z6 : w4.cell? ⟨w3.heap.size, 0, none⟩ = some (.slice cg cuts.length cap3) := below_cell hb4 (by simp) (by go_side)
  have hcutsR := (HREP.out.ext HE4.out.1).ext hb4
  have hsR : w.heap.size + 1 < w4.heap.size := by omega
  have hs34 : w3.heap.size < w4.heap.size := by omega
  have HWB := Lib.hid hWB
  have HCR4 := Lib.hid hcutsR
  clear hb4 hB4 hWB hcutsR y0 y1 y2 y3 HNUM HREP r0 r1 r2 f0 f1 f2
  cases hnum : numP (ofF cuts) cuts.length s with
  | none =>
    rw [hnum] at hpost
    have hof : ofP r = (4, noAu) := by rw [HOF.out, hnum]
    have HO := Lib.hid hof
    have HP := Lib.hid hpost
    clear hpost hof hnum
    obtain rfl : e = .returned (.tuple #[.slice none 0 0, .slice none 0 0, .int .i64 4]) := HP.out
    go_wp2_with fail
    obtain ⟨k0, k1, k2⟩ := set3_cells q0 q1 q2 (.slice none 0 0) (.slice none 0 0) (.slice none 0 0)
    simp only [set3] at k0 k1 k2
    refine bodyPost_ret (v := .tuple #[.agg #[.slice none 0 0, .slice none 0 0, .slice none 0 0], .int .i64 4]) (by simp [results, Try.results19, go_sem, k0, k1, k2]) rfl ?_
    rw [HO.out]
    exact ⟨⟨none, 0, none, 0, none, 0⟩, rfl, AuRep.no _ _, set3_below HWB.out (by omega) _ _ _⟩
  | some lt =>
    obtain ⟨l, t⟩ := lt
    rw [hnum] at hpost
    have hof : ofP r = (0, ⟨cuts, t.map nats, l.map nullable⟩) := by rw [HOF.out, hnum]
    have HO := Lib.hid hof
    obtain ⟨g, cap, na, nc, fa, fc, rfl, hl4, ht4, hv4⟩ := hpost
    have HL := Lib.hid hl4
    have HT := Lib.hid ht4
    have HV := Lib.hid hv4
    obtain ⟨hl256, htl, _⟩ := numP_len _ _ _ _ _ hnum
    have htl' : t.length = l.length := htl
    have hlb := hl4.bd
    have hmk := run_make_c (P := Try.prog) 24 4 tabBo rfl (by omega) l.length (by omega) w4
    have hb5 := Blk.new w4 4 (List.replicate l.length (.bool false))
    have HB5 := Lib.hid hb5
    have HTL := Lib.hid htl
    clear hl4 ht4 hv4 hof hnum hb5 htl htl'
    go_wp2_with fail
    clear hmk
    go_loopw [43] (fun jv wr => ∃ j : Nat, jv = .int .i64 j ∧ j ≤ l.length ∧ Hid (Below w4.heap.size w4 wr) ∧ Hid (Blk wr w4.heap.size 4 (boos ((l.take j).map nullable) ++ List.replicate (l.length - j) (.bool false))) ∧ w4.heap.size < wr.heap.size) (fun jv _ => l.length - (intOf jv).toNat)
    case atStart => exact ⟨0, by simp, Nat.zero_le _, Lib.hid ((Below.refl _ _).alloc (Nat.le_refl _) _), Lib.hid (by simpa using HB5.out), by simp⟩
    case round =>
      obtain ⟨j, rfl, hj, HB, HBK, hsz⟩ := hrel
      by_cases hlt : j < l.length
      · obtain ⟨b, o, x, rfl, _, hbb, hx, hat, hxr⟩ := (HL.out.ext HB.out).at hlt
        obtain ⟨g0, g1, g2, g3⟩ := hat
        have hE5 := Ext.alloc wr (.cells #[.int .i64 x.k, .int .u8 x.lo, .int .u8 x.hi, .slice (fa j) x.ks.length (fc j)] 54)
        have HNU := Lib.hid (Nullable_any x (HV.out x (List.mem_of_getElem? hx)) _ _ (fa j) (fc j) (hxr.ext hE5.1))
        obtain ⟨m, hm⟩ : ∃ m, l.length - j = m + 1 := ⟨l.length - j - 1, by omega⟩
        have hm2 : l.length - (j + 1) = m := by omega
        have HMM := Lib.hid hm
        have HMM2 := Lib.hid hm2
        have HX := Lib.hid hx
        have HE5 := Lib.hid hE5
        clear hx hxr hE5 hm hm2
        simp only [rxv] at HNU
        go_wp2_with fail
        refine HNU.out.mono ?_
        rintro e w6 ⟨rfl, hE6⟩
        have hb6 : Below wr.heap.size wr w6 := (HE5.out.trans hE6).1
        have hs6 := hb6.size
        have hB6 := HBK.out.ext hb6
        rw [HMM.out] at hB6
        have cc6 := hB6.cell (boos_get l j m hlt)
        have ff6 := hB6.free j
        have HB6 := Lib.hid hb6
        have HBK6 := Lib.hid hB6
        clear hE6 hb6 hB6
        go_wp2_with fail
        go_roundw
        case rel => exact ⟨j + 1, by simp, by omega, Lib.hid ((HB.out.trans (HB6.out.mono (by omega))).setCell (Nat.le_refl _) _), Lib.hid (by
          have := HBK6.out.set j (.bool (nullable x))
          rw [boos_set l j m x HX.out] at this
          rw [HMM2.out]; exact this), by simp [World.setCell]; omega⟩
        case measure => simp [intOf]; omega
      · have he : j = l.length := by omega
        have hacc : Blk wr w4.heap.size 4 (boos (l.map nullable)) := by
          have := HBK.out
          rw [he] at this
          simpa using this
        have z7 := below_cell HB.out (p := ⟨w3.heap.size, 0, none⟩) hs34 z6
        have u0 := below_cell HB.out (p := ⟨w.heap.size + 1, 0, none⟩) hsR q0
        have u1 := below_cell HB.out (p := ⟨w.heap.size + 1, 1, none⟩) hsR q1
        have u2 := below_cell HB.out (p := ⟨w.heap.size + 1, 2, none⟩) hsR q2
        have n0 := below_free HB.out (p := ⟨w.heap.size + 1, 0, none⟩) hsR p0
        have n1 := below_free HB.out (p := ⟨w.heap.size + 1, 1, none⟩) hsR p1
        have n2 := below_free HB.out (p := ⟨w.heap.size + 1, 2, none⟩) hsR p2
        have HACC := Lib.hid hacc
        clear hacc he q0 q1 q2 p0 p1 p2 z6
        go_wp2_with fail
        obtain ⟨k0, k1, k2⟩ := set3_cells u0 u1 u2 (.slice cg cuts.length cap3) (.slice na t.length nc) (.slice (some ⟨w4.heap.size, 0, none⟩) l.length l.length)
        simp only [set3] at k0 k1 k2
        refine bodyPost_ret (v := .tuple #[.agg #[.slice cg cuts.length cap3, .slice na t.length nc, .slice (some ⟨w4.heap.size, 0, none⟩) l.length l.length], .int .i64 0]) (by simp [results, Try.results19, go_sem, k0, k1, k2]) rfl ?_
        rw [HO.out]
        have hfar : ∀ b, b < wr.heap.size → ¬ (b < w.heap.size + 2) → (set3 wr (w.heap.size + 1) (.slice cg cuts.length cap3) (.slice na t.length nc) (.slice (some ⟨w4.heap.size, 0, none⟩) l.length l.length)).heap[b]? = wr.heap[b]? := fun b _ hn => set3_other _ _ _ _ _ _ (by omega)
        have hz : wr.heap.size ≤ (set3 wr (w.heap.size + 1) (.slice cg cuts.length cap3) (.slice na t.length nc) (.slice (some ⟨w4.heap.size, 0, none⟩) l.length l.length)).heap.size := by rw [set3_size]; exact Nat.le_refl _
        refine ⟨⟨cg, cap3, na, nc, some ⟨w4.heap.size, 0, none⟩, l.length⟩, by simp [auv], ⟨?_, ?_, ?_⟩, ?_⟩
        · exact (((HCR4.out.ext HB.out).avoid (A' := fun b => b < w.heap.size + 2) (fun b _ hh => by omega)).keep hz hfar).avoid (fun b _ hh => by omega)
        · have h1 := ((HT.out.ext HB.out).avoid (A' := fun b => b < w.heap.size + 2) (fun b _ hh => by simp only [World.size_alloc]; omega)).keep hz hfar
          simp only [List.map_map]
          exact h1.avoid (fun b _ hh => by omega)
        · have h1 := ((HACC.out.rep (fun b => b < w.heap.size + 2) (by omega) (by simp; omega)).keep hz hfar).avoid (A' := fun b => b < w.heap.size) (fun b _ hh => by omega)
          have e : (boos (l.map nullable)).length = l.length := by simp
          rw [e] at h1
          exact h1
        · exact set3_below (HWB.out.trans (HB.out.mono (by omega))) (by omega) _ _ _

theorem Of_any (r : Rx) (w : World) (A : Nat → Prop) (a : Option Addr) (c : Nat) (hr : RxRep w A r a c) :
    Calls Try.prog 19 #[rxv r a c] w (AuPost w (ofP r).1 (ofP r).2) := by
  by_cases hv : rvalid r = 0
  · by_cases hn : nodes (nrm r) ≤ 64
    · exact Of_good r hv hn w A a c hr
    · have := Of_large r hv hn w A a c hr
      have e : ofP r = (4, noAu) := by unfold ofP; rw [if_pos hv, if_neg hn]
      rw [e]; exact this
  · have := Of_bad r hv w A a c hr
    have e : ofP r = (rvalid r, noAu) := by unfold ofP; rw [if_neg hv]
    rw [e]; exact this
end Go.Proofs.Ytbepohpppailnaa
