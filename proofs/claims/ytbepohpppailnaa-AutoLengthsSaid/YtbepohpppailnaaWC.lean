/- Walks: the closure that joins. -/
import Derived.Test.YtbepohpppailnaaWB
set_option linter.unusedSimpArgs false
set_option linter.unusedVariables false
namespace Go.Proofs.Ytbepohpppailnaa
open Go.RowKit

theorem jlist_sorted {l l' : List Pl} (hp : l'.Perm l) (ha : Asc (l'.map Pl.r)) : (compactL l').map Pl.r = canon (l.map Pl.r) := by
  have hm : ∀ x, x ∈ l'.map Pl.r ↔ x ∈ l.map Pl.r := fun x => (hp.map Pl.r).mem_iff
  have key : ∀ (l : List Pl) (p : Rx), Asc (p :: l.map Pl.r) → SAsc (p :: (compactFrom p l).map Pl.r) ∧ ∀ x, x ∈ p :: (compactFrom p l).map Pl.r ↔ x ∈ p :: l.map Pl.r := by
    intro l
    induction l with
    | nil => intro p _; exact ⟨List.pairwise_singleton _ _, fun x => by simp [compactFrom]⟩
    | cons b bs ih =>
      intro p hasc
      unfold Asc SAsc at *
      simp only [List.map_cons] at hasc
      rw [List.pairwise_cons] at hasc
      obtain ⟨h1, h2⟩ := hasc
      by_cases hb : (rcmp b.r p == 0) = true
      · have hbp := (rcmp_beq _ _).1 hb
        have e : compactFrom p (b :: bs) = compactFrom p bs := by simp only [compactFrom, hb, if_true]; rw [hbp]
        rw [e]
        rw [hbp] at h2
        obtain ⟨h3, h4⟩ := ih p h2
        refine ⟨h3, fun x => ?_⟩
        rw [h4 x]
        simp only [List.map_cons, List.mem_cons, hbp]
        constructor
        · rintro (h | h)
          · exact .inl h
          · exact .inr (.inr h)
        · rintro (h | h | h)
          · exact .inl h
          · exact .inl h
          · exact .inr h
      · have hb' : (rcmp b.r p == 0) = false := by simpa using hb
        have e : compactFrom p (b :: bs) = b :: compactFrom b.r bs := by simp only [compactFrom, hb', if_false, Bool.false_eq_true]
        rw [e]
        obtain ⟨h3, h4⟩ := ih b.r h2
        have hlt : rcmp p b.r < 0 := by
          have h5 := h1 b.r List.mem_cons_self
          have h6 : rcmp b.r p ≠ 0 := by simpa using hb
          rw [rcmp_swap] at h6
          omega
        simp only [List.map_cons]
        refine ⟨?_, fun x => ?_⟩
        · rw [List.pairwise_cons]
          refine ⟨fun y hy => ?_, h3⟩
          rcases List.mem_cons.1 hy with rfl | hy'
          · exact hlt
          · rw [List.pairwise_cons] at h3
            exact lt_trans hlt (h3.1 y hy')
        · rw [List.mem_cons, h4 x, List.mem_cons (l := b.r :: _)]
  refine canon_of_sasc ?_ (fun x => ?_)
  · cases l' with
    | nil => exact List.Pairwise.nil
    | cons b bs => exact (key bs b.r ha).1
  · rw [← hm x]
    cases l' with
    | nil => simp [compactL]
    | cons b bs => exact (key bs b.r ha).2 x

/-- what 'kids' holds behind the sorting: own memory -/
def KidsOwn (w : World) (A : Nat → Prop) (base : Nat) (v : Value) (l : List Rx) : Prop :=
  ∃ (g : Option Addr) (cap : Nat) (m : List Pl), v = .slice g m.length cap ∧ m.map Pl.r = l ∧ OwnRx w A base 54 v m

set_option maxHeartbeats 3200000 in
theorem joined_any (r un ze : Rx) (hn : nodes r ≤ 1000000) (w : World) (A : Nat → Prop) (a : Option Addr) (c : Nat) (h : RxRep w A r a c)
    (bu bz : Nat) (au az : Option Addr) (cu cz : Nat) (hu : rxAt w bu 0 un au cu) (hur : RxRep w A un au cu) (hz : rxAt w bz 0 ze az cz) (hzr : RxRep w A ze az cz) :
    Calls Try.prog 51 #[rxv r a c, .pointer (some ⟨bu, 0, none⟩), .pointer (some ⟨bz, 0, none⟩)] w (FnRx w A (jn r.k un ze r.ks)) := by
  have hbu := rxAt_lt hu
  have hbz := rxAt_lt hz
  have hkr := h.kids.1
  have hE0 := (Ext.alloc w (.cells #[.int .i64 r.k, .int .u8 r.lo, .int .u8 r.hi, .slice a r.ks.length c] 54)).trans (Ext.alloc _ (.cells #[.int .i64 0, .int .u8 0, .int .u8 0, .slice none 0 0] 54))
  have HFLAT := Lib.hid (flat_any r un hn _ (fun b => A b ∨ w.heap.size ≤ b) A a au c cu (h.old.ext hE0.1) (hur.ext hE0.1))
  have hjk : (flatL r.k r.ks).filter (fun x => !(rcmp x un == 0)) = jkids r.k un r.ks := rfl
  rw [hjk] at HFLAT
  have hjn := jkids_nodes r.k un r.ks
  have hjl := nodesL_length (jkids r.k un r.ks)
  have hrn := nodes_ks r
  have HU := Lib.hid hu
  have HUR := Lib.hid hur
  have HZ := Lib.hid hz
  have HZR := Lib.hid hzr
  have HE0 := Lib.hid hE0
  obtain ⟨u0, u1, u2, u3⟩ := hu
  clear hur hzr hz h hE0 hjk
  try simp only [Nat.zero_add] at u1
  try simp only [Nat.zero_add] at u2
  try simp only [Nat.zero_add] at u3
  simp only [rxv]
  go_enter Try.func51, Try.ntmps51
  go_wp2_with fail
  refine HFLAT.out.mono ?_
  rintro e w1 ⟨g1, cap1, l1, rfl, hown1, hm1, hb1, hsz1⟩
  simp only [World.size_alloc] at hsz1 hb1 hown1
  have hll : l1.length ≤ 1000000 := by
    have h1 : l1.length = (l1.map Pl.r).length := by simp
    rw [h1, hm1]; omega
  have hpred := isZero_any bz ze az cz w1 (w.heap.size + 1 + 1) (rxAt_keep HZ.out ((HE0.out.1.trans (hb1.mono (by omega))).block bz hbz)) ((((HZR.out.old).ext (HE0.out.1.trans (hb1.mono (by omega)))).avoid fun b _ hh => .inr (by omega))) (by omega)
  have hrep1 := hown1.rep (fun b hb hh => by omega)
  have hCF := containsFunc_any (l1.map Pl.r) 54 #[.pointer (some ⟨bz, 0, none⟩)] enters_zero (fun x => rcmp x ze == 0) w1 _ g1 cap1 _ _ (w.heap.size + 1 + 1) (by omega) hrep1 (fun W B x a c hW _ hx => hpred W B x a c hW trivial hx)
  simp only [List.length_map] at hCF
  rw [hm1] at hCF
  have HCF := Lib.hid hCF
  have HM1 := Lib.hid hm1
  have HOWN1 := Lib.hid hown1
  have HB1 := Lib.hid hb1
  obtain ⟨⟨r0, r1, r2, r3⟩, f0, f1, f2, f3⟩ := below_box4' hb1 (by omega)
  obtain ⟨b0, b1, b2, b3⟩ := below_box4 hb1 (by omega)
  clear hCF hm1 hown1 hb1 hpred hrep1
  have hz1 : bz < w1.heap.size := by omega
  have hu1 : bu < w1.heap.size := by omega
  cases hany : (jkids r.k un r.ks).any (fun x => rcmp x ze == 0) with
  | true =>
    rw [hany] at HCF
    have hJ : jn r.k un ze r.ks = ze := by unfold jn; rw [if_pos hany]
    have HJ := Lib.hid hJ
    clear hany hJ
    go_wp2_with fail
    refine HCF.out.mono ?_
    rintro e w2 ⟨rfl, hE2⟩
    have hEE := (HE0.out.1.trans (HB1.out.mono (by omega))).trans (hE2.1.mono (by omega))
    obtain ⟨z0, z1, z2, z3⟩ := rxAt_keep HZ.out (hEE.block bz hbz)
    have hc0 := hE2.cell r0
    have hc1 := hE2.cell r1
    have hc2 := hE2.cell r2
    have hc3 := hE2.cell r3
    have hf0 := below_free hE2.1 (show w.heap.size + 1 < w1.heap.size by omega) f0
    have hf1 := below_free hE2.1 (show w.heap.size + 1 < w1.heap.size by omega) f1
    have hf2 := below_free hE2.1 (show w.heap.size + 1 < w1.heap.size by omega) f2
    have hf3 := below_free hE2.1 (show w.heap.size + 1 < w1.heap.size by omega) f3
    have HEE := Lib.hid hEE
    clear hEE hE2
    try simp only [Nat.zero_add] at z1 z2 z3
    go_wp2_with fail
    refine bodyPost_ret (v := .agg #[.int .i64 ze.k, .int .u8 ze.lo, .int .u8 ze.hi, .slice az ze.ks.length cz]) (by simp [results, Try.results51, go_sem, hc0, hc1, hc2, hc3]) rfl ?_
    rw [HJ.out]
    refine ⟨az, cz, rfl, set4_below HEE.out (by omega) _ _ _ _, ?_⟩
    exact ((HZR.out.old.ext HEE.out).keep (fun b hb hn => set4_other _ _ _ _ _ _ b (fun e => hn (.inr (by omega))))).avoid (fun b _ hh => .inl hh.1)
  | false =>
    rw [hany] at HCF
    have hJ : jn r.k un ze r.ks = jpick r.k un (jlist r.k (jkids r.k un r.ks)) := by unfold jn; rw [hany]; simp
    have HJ := Lib.hid hJ
    clear hany hJ
    go_wp2_with fail
    refine HCF.out.mono ?_
    rintro e w2 ⟨rfl, hE2⟩
    have hrk := hE2.cell b0
    have HB2 := Lib.hid (HB1.out.trans (hE2.1.mono (by omega)))
    have HOWN2 := Lib.hid (HOWN1.out.ext hE2.1)
    have hsz2 : w.heap.size + 1 + 1 + 2 ≤ w2.heap.size := by have := hE2.1.size; omega
    clear hE2 b0 b1 b2 b3 r0 r1 r2 r3 f0 f1 f2 f3 hsz1 hu1 hz1
    by_cases h3 : r.k = 3
    · have hne : (r.k != 3) = false := ine_f h3
      have hmm : l1.map Pl.r = jlist r.k (jkids r.k un r.ks) := by rw [HM1.out]; unfold jlist; rw [if_pos h3]
      have HMm := Lib.hid hmm
      have HOWNm := HOWN2
      have HBm := HB2
      clear hmm h3
      generalize l1 = m at *
      generalize w2 = W at *
      generalize cap1 = cap at *
      generalize g1 = g at *
      obtain ⟨q0, q1, q2, q3⟩ := below_box4 HBm.out (by omega)
      obtain ⟨⟨r0, r1, r2, r3⟩, f0, f1, f2, f3⟩ := below_box4' HBm.out (by omega)
      have hEE : Below w.heap.size w W := HE0.out.1.trans (HBm.out.mono (by omega))
      have hszW : w.heap.size + 1 + 1 ≤ W.heap.size := by have := HBm.out.size; simp only [World.size_alloc] at this; omega
      have HEE := Lib.hid hEE
      obtain ⟨u0, u1, u2, u3⟩ := rxAt_keep HU.out (hEE.block bu hbu)
      try simp only [Nat.zero_add] at u1
      try simp only [Nat.zero_add] at u2
      try simp only [Nat.zero_add] at u3
      clear hEE
      cases m with
      | nil =>
        have hJ2 : jn r.k un ze r.ks = un := by rw [HJ.out, ← HMm.out]; rfl
        have HJ2 := Lib.hid hJ2
        clear hJ2
        simp only [List.length_nil] at *
        go_wp2_with fail
        refine bodyPost_ret (v := .agg #[.int .i64 un.k, .int .u8 un.lo, .int .u8 un.hi, .slice au un.ks.length cu]) (by simp [results, Try.results51, go_sem, r0, r1, r2, r3]) rfl ?_
        rw [HJ2.out]
        refine ⟨au, cu, rfl, set4_below HEE.out (by omega) _ _ _ _, ?_⟩
        exact ((HUR.out.old.ext HEE.out).keep (fun b hb hn => set4_other _ _ _ _ _ _ b (fun e => hn (.inr (by omega))))).avoid (fun b _ hh => .inl hh.1)
      | cons x m =>
        obtain ⟨gb, hg⟩ : ∃ gb, g = some ⟨gb, 0, none⟩ := by
          rcases HOWNm.out.1.2 with ⟨hv, h0⟩ | ⟨gb, cap', cur, hv, _⟩
          · simp at h0
          · cases hv; exact ⟨gb, rfl⟩
        subst hg
        have hgb := (HOWNm.out.1.lt gb rfl)
        cases m with
        | nil =>
          have hJ2 : jn r.k un ze r.ks = x.r := by rw [HJ.out, ← HMm.out]; rfl
          have HJ2 := Lib.hid hJ2
          clear hJ2
          obtain ⟨⟨x0, x1, x2, x3⟩, _⟩ := HOWNm.out.cells 0 x rfl
          simp only [Nat.zero_mul, Nat.zero_add] at x0 x1 x2 x3
          have hxr := HOWNm.out.2 x List.mem_cons_self
          have HXR := Lib.hid hxr
          clear hxr
          simp only [List.length_cons, List.length_nil, Nat.zero_add] at *
          go_wp2_with fail
          refine bodyPost_ret (v := .agg #[.int .i64 x.r.k, .int .u8 x.r.lo, .int .u8 x.r.hi, .slice x.a x.r.ks.length x.c]) (by simp [results, Try.results51, go_sem, r0, r1, r2, r3]) rfl ?_
          rw [HJ2.out]
          refine ⟨x.a, x.c, rfl, set4_below HEE.out (by omega) _ _ _ _, ?_⟩
          exact (HXR.out.keep (fun b hb hn => set4_other _ _ _ _ _ _ b (fun e => hn (.inl ⟨.inr (by omega), by omega⟩)))).avoid (fun b _ hh => .inl ⟨.inl hh.1, by omega⟩)
        | cons y m =>
          have hJ2 : jn r.k un ze r.ks = .mk r.k 0 0 ((x :: y :: m).map Pl.r) := by rw [HJ.out, ← HMm.out]; rfl
          have HJ2 := Lib.hid hJ2
          clear hJ2
          have hrep := HOWNm.out.rep (fun b hb hh => by omega)
          have HREP := Lib.hid hrep
          have hl2 : (((x :: y :: m).length : Int) == 0) = false := ieq_f (by simp only [List.length_cons]; omega)
          have hl3 : (((x :: y :: m).length : Int) == 1) = false := ieq_f (by simp only [List.length_cons]; omega)
          clear hrep
          generalize hml : (x :: y :: m).length = ml at *
          have HML := Lib.hid hml
          clear hml
          go_wp2_with fail
          refine bodyPost_ret (v := .agg #[.int .i64 r.k, .int .u8 0, .int .u8 0, .slice (some ⟨gb, 0, none⟩) ml cap]) (by simp [results, Try.results51, go_sem, r0, r1, r2, r3]) rfl ?_
          rw [HJ2.out]
          refine ⟨_, cap, by simp only [rxv, Rx.k_mk, Rx.lo_mk, Rx.hi_mk, Rx.ks_mk, List.length_map, HML.out]; rfl, set4_below HEE.out (by omega) _ _ _ _, ?_⟩
          exact ((HREP.out.rx (k := r.k) (lo := 0) (hi := 0) hkr (by omega) (by omega)).keep (fun b hb hn => set4_other _ _ _ _ _ _ b (fun e => hn ⟨.inr (by omega), by omega⟩))).avoid (fun b _ hh => ⟨.inl hh.1, by omega⟩)
    · have hne : (r.k != 3) = true := ine_t h3
      have HSORT := Lib.hid (sortFunc_any l1 w2 _ _ g1 cap1 HOWN2.out (by omega) (by omega))
      have H3 := Lib.hid h3
      have hcap : l1.length ≤ cap1 ∧ cap1 ≤ 9223372036854775807 := by
        have := (HOWN2.out.rep (fun b hb hh => by omega)).bd
        simpa using this
      clear h3
      go_wp2_with fail
      refine HSORT.out.mono ?_
      rintro e w3 ⟨rfl, l2, hperm, hasc, hown3, hb3⟩
      have hll2 : l2.length = l1.length := hperm.length_eq
      rw [← hll2] at hown3
      have hmm := jlist_sorted hperm hasc
      rw [HM1.out] at hmm
      have hmm2 : (compactL l2).map Pl.r = jlist r.k (jkids r.k un r.ks) := by rw [hmm]; unfold jlist; rw [if_neg H3.out]
      have hs3 := hb3.size
      have hrk3 := below_cell hb3 (show w.heap.size < w.heap.size + 1 + 1 + 2 by omega) hrk
      have HCOMP := Lib.hid (compactFunc_any l2 w3 _ _ g1 cap1 hown3 (by omega) (by omega))
      have HMm := Lib.hid hmm2
      have HB3 := Lib.hid hb3
      have HLL2 := Lib.hid hll2
      clear hperm hasc hown3 hmm hmm2 hb3 hll2 hrk
      go_wp2_with fail
      rw [← HLL2.out]
      refine HCOMP.out.mono ?_
      rintro e w4 ⟨rfl, hown4, hb4⟩
      have HOWNm := Lib.hid hown4
      have HBm := Lib.hid (HB2.out.trans ((HB3.out.trans hb4).mono (by omega)))
      have hrk4 := below_cell hb4 (show w.heap.size < w.heap.size + 1 + 1 + 2 by omega) hrk3
      clear hown4 hb4 hrk3 hs3 hcap
      generalize compactL l2 = m at *
      generalize w4 = W at *
      generalize cap1 = cap at *
      generalize g1 = g at *
      obtain ⟨q0, q1, q2, q3⟩ := below_box4 HBm.out (by omega)
      obtain ⟨⟨r0, r1, r2, r3⟩, f0, f1, f2, f3⟩ := below_box4' HBm.out (by omega)
      have hEE : Below w.heap.size w W := HE0.out.1.trans (HBm.out.mono (by omega))
      have hszW : w.heap.size + 1 + 1 ≤ W.heap.size := by have := HBm.out.size; simp only [World.size_alloc] at this; omega
      have HEE := Lib.hid hEE
      obtain ⟨u0, u1, u2, u3⟩ := rxAt_keep HU.out (hEE.block bu hbu)
      try simp only [Nat.zero_add] at u1
      try simp only [Nat.zero_add] at u2
      try simp only [Nat.zero_add] at u3
      clear hEE
      cases m with
      | nil =>
        have hJ2 : jn r.k un ze r.ks = un := by rw [HJ.out, ← HMm.out]; rfl
        have HJ2 := Lib.hid hJ2
        clear hJ2
        simp only [List.length_nil] at *
        go_wp2_with fail
        refine bodyPost_ret (v := .agg #[.int .i64 un.k, .int .u8 un.lo, .int .u8 un.hi, .slice au un.ks.length cu]) (by simp [results, Try.results51, go_sem, r0, r1, r2, r3]) rfl ?_
        rw [HJ2.out]
        refine ⟨au, cu, rfl, set4_below HEE.out (by omega) _ _ _ _, ?_⟩
        exact ((HUR.out.old.ext HEE.out).keep (fun b hb hn => set4_other _ _ _ _ _ _ b (fun e => hn (.inr (by omega))))).avoid (fun b _ hh => .inl hh.1)
      | cons x m =>
        obtain ⟨gb, hg⟩ : ∃ gb, g = some ⟨gb, 0, none⟩ := by
          rcases HOWNm.out.1.2 with ⟨hv, h0⟩ | ⟨gb, cap', cur, hv, _⟩
          · simp at h0
          · cases hv; exact ⟨gb, rfl⟩
        subst hg
        have hgb := (HOWNm.out.1.lt gb rfl)
        cases m with
        | nil =>
          have hJ2 : jn r.k un ze r.ks = x.r := by rw [HJ.out, ← HMm.out]; rfl
          have HJ2 := Lib.hid hJ2
          clear hJ2
          obtain ⟨⟨x0, x1, x2, x3⟩, _⟩ := HOWNm.out.cells 0 x rfl
          simp only [Nat.zero_mul, Nat.zero_add] at x0 x1 x2 x3
          have hxr := HOWNm.out.2 x List.mem_cons_self
          have HXR := Lib.hid hxr
          clear hxr
          simp only [List.length_cons, List.length_nil, Nat.zero_add] at *
          go_wp2_with fail
          refine bodyPost_ret (v := .agg #[.int .i64 x.r.k, .int .u8 x.r.lo, .int .u8 x.r.hi, .slice x.a x.r.ks.length x.c]) (by simp [results, Try.results51, go_sem, r0, r1, r2, r3]) rfl ?_
          rw [HJ2.out]
          refine ⟨x.a, x.c, rfl, set4_below HEE.out (by omega) _ _ _ _, ?_⟩
          exact (HXR.out.keep (fun b hb hn => set4_other _ _ _ _ _ _ b (fun e => hn (.inl ⟨.inr (by omega), by omega⟩)))).avoid (fun b _ hh => .inl ⟨.inl hh.1, by omega⟩)
        | cons y m =>
          have hJ2 : jn r.k un ze r.ks = .mk r.k 0 0 ((x :: y :: m).map Pl.r) := by rw [HJ.out, ← HMm.out]; rfl
          have HJ2 := Lib.hid hJ2
          clear hJ2
          have hrep := HOWNm.out.rep (fun b hb hh => by omega)
          have HREP := Lib.hid hrep
          have hl2 : (((x :: y :: m).length : Int) == 0) = false := ieq_f (by simp only [List.length_cons]; omega)
          have hl3 : (((x :: y :: m).length : Int) == 1) = false := ieq_f (by simp only [List.length_cons]; omega)
          clear hrep
          generalize hml : (x :: y :: m).length = ml at *
          have HML := Lib.hid hml
          clear hml
          go_wp2_with fail
          refine bodyPost_ret (v := .agg #[.int .i64 r.k, .int .u8 0, .int .u8 0, .slice (some ⟨gb, 0, none⟩) ml cap]) (by simp [results, Try.results51, go_sem, r0, r1, r2, r3]) rfl ?_
          rw [HJ2.out]
          refine ⟨_, cap, by simp only [rxv, Rx.k_mk, Rx.lo_mk, Rx.hi_mk, Rx.ks_mk, List.length_map, HML.out]; rfl, set4_below HEE.out (by omega) _ _ _ _, ?_⟩
          exact ((HREP.out.rx (k := r.k) (lo := 0) (hi := 0) hkr (by omega) (by omega)).keep (fun b hb hn => set4_other _ _ _ _ _ _ b (fun e => hn ⟨.inr (by omega), by omega⟩))).avoid (fun b _ hh => ⟨.inl hh.1, by omega⟩)
end Go.Proofs.Ytbepohpppailnaa
