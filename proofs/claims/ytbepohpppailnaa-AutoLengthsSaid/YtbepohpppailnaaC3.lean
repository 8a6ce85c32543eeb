/- Walks: Complement. -/
import Derived.Test.YtbepohpppailnaaC2
import Derived.Test.YtbepohpppailnaaR0
set_option linter.unusedSimpArgs false
set_option linter.unusedVariables false
namespace Go.Proofs.Ytbepohpppailnaa
open Go.RowKit
attribute [local go_sem ↓] Go.wp_at_zero Go.wp_at_succ

/-- ints copied -/
theorem sizeI : ∀ w, (Go.sizeOf 3).run Try.prog w = .ok 1 w := by intro w; go_simp
theorem cloneI (l : List Int) (h0 : 0 < l.length) (hl : l.length ≤ 1000000) (w : World) (A : Nat → Prop) (a : Option Addr) (c : Nat) (h : SlRep w A (ints l) a c) :
    Calls Try.prog 34 #[.slice a l.length c] w fun e w' => ∃ v', e = .returned v' ∧ OwnC w' w.heap.size 3 v' (ints l) ∧ Below w.heap.size w w' := by
  obtain ⟨i, hi, hz, hs, hb⟩ := tab1_info tabI
  obtain ⟨b, o, rfl, _, _, hc⟩ := h.ho (by simpa using h0)
  refine (Try.slices_Clone_f34 i (.int .i64 0) 1 8 hi hz hs hb rfl (by omega) sizeI b o l.length c (ints l) w (by simp) (by unfold maxLen; omega) (by omega) (fun j u hj => hc j u hj) (by intro u hu; obtain ⟨x, _, rfl⟩ := List.mem_map.1 hu; rfl)).mono ?_
  rintro e w' ⟨v', rfl, h1, _, h2⟩
  exact ⟨v', rfl, by unfold OwnC; simpa using h1, h2⟩
def complP (u : Au) : Au := if avalid u = 0 then ⟨u.cuts, u.next, u.accept.map not⟩ else ⟨[], [], []⟩
/-- the loop's append, taken alone -/
theorem loud_append_c1 {P : Program} {w : World} {o : Oper} {ac : Act} {K : Value → World → Prop} (s x : Operand) (t e : TypeId) (ho : o.op = .call { callee := .builtin .append, args := #[s, x], argTypes := #[t, t] })
    {z : Value} {bytes : Nat} (T : Tab1 P t e z bytes) (hz : z.cells.size = 1) (hby : bytes ≤ 64) (base : Nat) (v : Value) (cs : List Value) (hs : ac.eval s = v) (hown : OwnC w base e v cs) (hbase : base ≤ w.heap.size)
    (u : Value) (t' : TypeId) (B : Nat) (hx : ac.eval x = .slice (some ⟨B, 0, none⟩) 1 1) (hB : w.heap.size = B) (hu : u.oneCell' = true) (hlen : cs.length + 1 ≤ 1000000000)
    (h : ∀ v' w', Grew w w' base v v' e (cs ++ [u]) → K v' w') : loud P o ac (w.alloc (.cells #[u] t')) K := by
  subst hB
  obtain ⟨v', w', hr, h2⟩ := run_append_c1 t o.type e T hz hby base v cs hown hbase u t' hu hlen
  unfold loud execOp
  simp only [ho, resolve, invoke, builtin, Sem.run_bind, Sem.run_pure, Result.andThen_ok, List.map_toArray, List.map_cons, List.map_nil, hs, hx, hr]
  exact h v' w' h2

theorem SlRep.old {w : World} {A : Nat → Prop} {cs : List Value} {a : Option Addr} {c : Nat} (h : SlRep w A cs a c) : SlRep w (fun b => A b ∨ w.heap.size ≤ b) cs a c := h.avoid fun b hb hh => hh.resolve_right (by omega)
theorem OwnC.setOther {w : World} {base : Nat} {e : TypeId} {v : Value} {cs : List Value} (h : OwnC w base e v cs) {b : Nat} (hb : v.ownBlock ≠ some b) (o : Nat) (u : Value) : OwnC (w.setCell ⟨b, o, none⟩ u) base e v cs :=
  h.keep fun k hk => Below.heap_setCell _ _ _ _ (fun e => hb (by rw [hk, e]))
/-- rows behind headers -/
def HdRep (w : World) (A : Nat → Prop) (T : List (Option Addr × Nat)) (rows : List (List Int)) : Prop := T.length = rows.length ∧ ∀ (i : Nat) (t : Option Addr × Nat) (r : List Int), T[i]? = some t → rows[i]? = some r → SlRep w A (ints r) t.1 t.2
def hdrs (T : List (Option Addr × Nat)) (rows : List (List Int)) : List Value := (T.zip rows).map fun p => .slice p.1.1 p.2.length p.1.2
theorem HdRep.nil (w : World) (A : Nat → Prop) : HdRep w A [] [] := ⟨rfl, fun i t r h => by simp at h⟩
theorem HdRep.keep {w w' : World} {A : Nat → Prop} {T : List (Option Addr × Nat)} {rows : List (List Int)} (h : HdRep w A T rows) (hz : w.heap.size ≤ w'.heap.size) (hs : ∀ b, b < w.heap.size → ¬ A b → w'.heap[b]? = w.heap[b]?) : HdRep w' A T rows :=
  ⟨h.1, fun i t r h1 h2 => (h.2 i t r h1 h2).keep hz hs⟩
theorem HdRep.ext {w w' : World} {A : Nat → Prop} {T : List (Option Addr × Nat)} {rows : List (List Int)} (h : HdRep w A T rows) (hb : Below w.heap.size w w') : HdRep w' A T rows :=
  h.keep hb.size fun b hb' _ => hb.block b hb'
theorem HdRep.avoid {w : World} {A A' : Nat → Prop} {T : List (Option Addr × Nat)} {rows : List (List Int)} (h : HdRep w A T rows) (hs : ∀ b, b < w.heap.size → A' b → A b) : HdRep w A' T rows :=
  ⟨h.1, fun i t r h1 h2 => (h.2 i t r h1 h2).avoid hs⟩
theorem HdRep.old {w : World} {A : Nat → Prop} {T : List (Option Addr × Nat)} {rows : List (List Int)} (h : HdRep w A T rows) : HdRep w (fun b => A b ∨ w.heap.size ≤ b) T rows := h.avoid fun b hb hh => hh.resolve_right (by omega)
theorem HdRep.snoc {w : World} {A : Nat → Prop} {T : List (Option Addr × Nat)} {rows : List (List Int)} (h : HdRep w A T rows) {r : List Int} {a : Option Addr} {c : Nat} (hr : SlRep w A (ints r) a c) : HdRep w A (T ++ [(a, c)]) (rows ++ [r]) := by
  refine ⟨by simp [h.1], fun i t r' h1 h2 => ?_⟩
  by_cases hi : i < T.length
  · rw [List.getElem?_append_left hi] at h1
    rw [List.getElem?_append_left (by rw [← h.1]; exact hi)] at h2
    exact h.2 i t r' h1 h2
  · rw [List.getElem?_append_right (by omega)] at h1
    rw [List.getElem?_append_right (by rw [← h.1]; omega), ← h.1] at h2
    cases hd : i - T.length with
    | zero => rw [hd] at h1 h2; simp at h1 h2; subst h1 h2; exact hr
    | succ k => rw [hd] at h1; simp at h1
theorem hdrs_snoc {T : List (Option Addr × Nat)} {rows : List (List Int)} (h : T.length = rows.length) (r : List Int) (a : Option Addr) (c : Nat) : hdrs (T ++ [(a, c)]) (rows ++ [r]) = hdrs T rows ++ [.slice a r.length c] := by
  unfold hdrs
  rw [List.zip_append h]
  simp
theorem HdRep.rows {w : World} {A : Nat → Prop} {T : List (Option Addr × Nat)} {rows : List (List Int)} (h : HdRep w A T rows) {a : Option Addr} {c : Nat} (hs : SlRep w A (hdrs T rows) a c) : RowsRep w A (rows.map ints) a c := by
  refine ⟨fun i => (T[i]?).elim none Prod.fst, fun i => (T[i]?).elim 0 Prod.snd, ?_, fun i r hi => ?_⟩
  · have e : ((rows.map ints).mapIdx fun i r => Value.slice ((T[i]?).elim none Prod.fst) r.length ((T[i]?).elim 0 Prod.snd)) = hdrs T rows := by
      apply List.ext_getElem?
      intro i
      simp only [hdrs, List.getElem?_mapIdx, List.getElem?_map, List.getElem?_zip_eq_some]
      cases hr : rows[i]? with
      | none =>
        have : (T.zip rows)[i]? = none := by rw [List.getElem?_eq_none_iff]; have := List.getElem?_eq_none_iff.1 hr; simp; omega
        simp [this]
      | some r =>
        have hil := (List.getElem?_eq_some_iff.1 hr).1
        obtain ⟨t, ht⟩ : ∃ t, T[i]? = some t := ⟨_, List.getElem?_eq_getElem (by rw [h.1]; exact hil)⟩
        have : (T.zip rows)[i]? = some (t, r) := by rw [List.getElem?_zip_eq_some]; exact ⟨ht, hr⟩
        simp [this, ht]
    rw [e]; exact hs
  · rw [List.getElem?_map] at hi
    cases hr : rows[i]? with
    | none => rw [hr] at hi; cases hi
    | some r' =>
      rw [hr] at hi
      simp at hi
      subst hi
      obtain ⟨t, ht⟩ : ∃ t, T[i]? = some t := ⟨_, List.getElem?_eq_getElem (by rw [h.1]; exact (List.getElem?_eq_some_iff.1 hr).1)⟩
      simp only [ht, Option.elim]
      exact h.2 i t r' ht hr

set_option maxRecDepth 100000 in
set_option maxHeartbeats 1600000 in
theorem Complement_bad (u : Au) (hv : avalid u ≠ 0) (w : World) (A : Nat → Prop) (p : APl) (h : AuRep w A u p) :
    Calls Try.prog 20 #[auv u p] w (AuPost w (avalid u) ⟨[], [], []⟩) := by
  have hE0 := (Ext.alloc w (.cells #[.slice p.ca u.cuts.length p.cc, .slice p.na u.next.length p.nc, .slice p.aa u.accept.length p.ac] 26)).trans (Ext.alloc _ (.cells #[.slice none 0 0, .slice none 0 0, .slice none 0 0] 26))
  have HV := Lib.hid (aValid_any u _ A p (h.ext hE0.1))
  have HE0 := Lib.hid hE0
  have hv2 := ine_t hv
  clear h hE0 hv
  simp only [auv] at HV ⊢
  go_enter Try.func20, Try.ntmps20
  go_wp2_with fail
  refine HV.out.mono ?_
  rintro e w1 ⟨rfl, hb1⟩
  simp only [World.size_alloc] at hb1
  obtain ⟨⟨r0, r1, r2⟩, f0, f1, f2⟩ := below_res3 hb1 (by omega)
  have hs1 : w.heap.size + 1 < w1.heap.size := by have := hb1.size; simp only [World.size_alloc] at this; omega
  have HB1 := Lib.hid (HE0.out.1.trans (hb1.mono (by omega)))
  clear hb1
  go_wp2_with fail
  obtain ⟨k0, k1, k2⟩ := set3_cells r0 r1 r2 (.slice none 0 0) (.slice none 0 0) (.slice none 0 0)
  simp only [set3] at k0 k1 k2
  refine bodyPost_ret (v := .tuple #[.agg #[.slice none 0 0, .slice none 0 0, .slice none 0 0], .int .i64 (avalid u)]) (by simp [results, Try.results20, go_sem, k0, k1, k2]) rfl ⟨⟨none, 0, none, 0, none, 0⟩, rfl, ⟨SlRep.none _ _, RowsRep.none _ _, SlRep.none _ _⟩, ?_⟩
  exact set3_below HB1.out (by omega) _ _ _

set_option maxRecDepth 100000 in
set_option maxHeartbeats 3200000 in
theorem Complement_good (u : Au) (hu : AGood u) (w : World) (A : Nat → Prop) (p : APl) (h : AuRep w A u p) :
    Calls Try.prog 20 #[auv u p] w (AuPost w 0 ⟨u.cuts, u.next, u.accept.map not⟩) := by
  have hl1 := h.next.bd
  have hl2 := h.accept.bd
  have hl3 := h.cuts.bd
  simp only [List.length_map] at hl1 hl2 hl3
  have hacc := hu.acc
  have h256 := hu.states.2
  have hcp := hu.classes
  obtain ⟨hcl⟩ : ∃ _ : True, u.cuts.length ≤ 1000 := by
    refine ⟨trivial, ?_⟩
    by_cases hc : u.cuts.length ≤ 1000
    · exact hc
    · exfalso
      have key : ∀ j : Nat, j < u.cuts.length → (j : Int) ≤ iget u.cuts j := by
        intro j
        induction j with
        | zero => intro _; have := hu.first; simp only [iget]; omega
        | succ j ih =>
          intro hj
          have h1 := ih (by omega)
          have h2 := (hu.cuts (j + 1) hj (by omega)).1
          simp only [Nat.add_sub_cancel] at h2
          simp only [iget] at h1 ⊢
          omega
      have h1 := key 1000 (by omega)
      have h2 := (hu.cuts 1000 (by omega) (by omega)).2
      simp only [iget] at h1
      omega
  have hE0 := (Ext.alloc w (.cells #[.slice p.ca u.cuts.length p.cc, .slice p.na u.next.length p.nc, .slice p.aa u.accept.length p.ac] 26)).trans (Ext.alloc _ (.cells #[.slice none 0 0, .slice none 0 0, .slice none 0 0] 26))
  have HV := Lib.hid (aValid_any u _ A p (h.ext hE0.1))
  rw [(avalid_zero u).2 hu] at HV
  have HE0 := Lib.hid hE0
  have H := Lib.hid h
  have HU := Lib.hid hu
  have HACC := Lib.hid hacc
  clear h hE0 hu hacc
  obtain ⟨ca, cc, na, nc, aa, ac⟩ := p
  simp only [auv] at HV ⊢
  go_enter Try.func20, Try.ntmps20
  go_wp2_with fail
  refine HV.out.mono ?_
  rintro e w1 ⟨rfl, hb1⟩
  simp only [World.size_alloc] at hb1
  obtain ⟨⟨r0, r1, r2⟩, f0, f1, f2⟩ := below_res3 hb1 (by omega)
  have b0 := below_cell hb1 (p := ⟨w.heap.size, 0, none⟩) (v := .slice ca u.cuts.length cc) (by simp; omega) (by go_side)
  have b1 := below_cell hb1 (p := ⟨w.heap.size, 1, none⟩) (v := .slice na u.next.length nc) (by simp; omega) (by go_side)
  have b2 := below_cell hb1 (p := ⟨w.heap.size, 2, none⟩) (v := .slice aa u.accept.length ac) (by simp; omega) (by go_side)
  have hs1 : w.heap.size + 1 < w1.heap.size := by have := hb1.size; simp only [World.size_alloc] at this; omega
  have hs0 : w.heap.size < w1.heap.size := by omega
  have HB1 := Lib.hid (HE0.out.1.trans (hb1.mono (by omega)))
  have HCL := Lib.hid (cloneI u.cuts hcp (by omega) w1 A ca cc (H.out.cuts.ext HB1.out))
  clear hb1 HV
  go_wp2_with fail
  refine HCL.out.mono ?_
  rintro e w2 ⟨v2, rfl, ho2, hb2⟩
  have hs2 := hb2.size
  obtain ⟨cg, ccap, rfl⟩ := ho2.form
  simp only [List.length_map] at ho2 ⊢
  have c0 := below_cell hb2 (p := ⟨w.heap.size, 0, none⟩) hs0 b0
  have c1 := below_cell hb2 (p := ⟨w.heap.size, 1, none⟩) hs0 b1
  have c2 := below_cell hb2 (p := ⟨w.heap.size, 2, none⟩) hs0 b2
  have q0 := below_cell hb2 (p := ⟨w.heap.size + 1, 0, none⟩) hs1 r0
  have q1 := below_cell hb2 (p := ⟨w.heap.size + 1, 1, none⟩) hs1 r1
  have q2 := below_cell hb2 (p := ⟨w.heap.size + 1, 2, none⟩) hs1 r2
  have g0 := below_free hb2 (p := ⟨w.heap.size + 1, 0, none⟩) hs1 f0
  have g1 := below_free hb2 (p := ⟨w.heap.size + 1, 1, none⟩) hs1 f1
  have g2 := below_free hb2 (p := ⟨w.heap.size + 1, 2, none⟩) hs1 f2
  have hs12 : w.heap.size + 1 < w2.heap.size := by omega
  have hs02 : w.heap.size < w2.heap.size := by omega
  have HO2 := Lib.hid ho2
  have HB2 := Lib.hid (HB1.out.trans (hb2.mono (by omega)))
  clear ho2 hb2 HCL b0 b1 b2 r0 r1 r2 f0 f1 f2
  go_wp2_with fail
  have hblk0 := Blk.new w2 26 [.slice cg u.cuts.length ccap, .slice none 0 0, .slice none 0 0]
  have hE2 := Ext.alloc w2 (.cells #[.slice cg u.cuts.length ccap, .slice none 0 0, .slice none 0 0] 26)
  have HBK0 := Lib.hid hblk0
  have HE2 := Lib.hid hE2
  clear hblk0 hE2
  go_loopw [21] (fun iv wr => ∃ (i : Nat) (T : List (Option Addr × Nat)) (ng : Option Addr) (nc' : Nat) (ag : Option Addr) (ac' : Nat), iv = .int .i64 i ∧ i ≤ u.next.length ∧ w2.heap.size < wr.heap.size ∧
      Hid (Blk wr w2.heap.size 26 [.slice cg u.cuts.length ccap, .slice ng i nc', .slice ag i ac']) ∧ Hid (OwnC wr (w2.heap.size + 1) 22 (.slice ng i nc') (hdrs T (u.next.take i))) ∧
      Hid (HdRep wr (fun b => b ≤ w2.heap.size ∨ Value.ownBlock (.slice ng i nc') = some b ∨ Value.ownBlock (.slice ag i ac') = some b) T (u.next.take i)) ∧
      Hid (OwnC wr (w2.heap.size + 1) 4 (.slice ag i ac') (boos ((u.accept.take i).map not))) ∧ Hid (Below w2.heap.size w2 wr))
    (fun iv _ => u.next.length - (intOf iv).toNat)
  case atStart => exact ⟨0, [], none, 0, none, 0, by simp, Nat.zero_le _, by simp, HBK0, Lib.hid (OwnC.nil _ _ _), Lib.hid (HdRep.nil _ _), Lib.hid (OwnC.nil _ _ _), Lib.hid HE2.out.1⟩
  case round =>
    obtain ⟨i, T, ng, nc', ag, ac', rfl, hi, hsz, HBK, HO, HT, HA, HB⟩ := hrel
    have d1 := below_cell HB.out (p := ⟨w.heap.size, 1, none⟩) hs02 c1
    have d2 := below_cell HB.out (p := ⟨w.heap.size, 2, none⟩) hs02 c2
    by_cases hlt : i < u.next.length
    · have hn := H.out.next.ext (HB2.out.trans (HB.out.mono (by omega)))
      obtain ⟨gn, on, ra, rc, hna, hgn, hcell, hrow⟩ := rows_cell hn hlt
      obtain ⟨gb, ob, haa, hgb, hacell⟩ := boos_cell H.out.accept (i := i) (by rw [HACC.out]; exact hlt)
      simp only at hna haa
      subst hna haa
      have hrl := (HU.out.row hlt).1
      have HCR := Lib.hid (fun W hW => cloneI (rget u.next i) (by rw [hrl]; exact hcp) (by rw [hrl]; omega) W _ ra rc (hrow.ext (w' := W) hW))
      have hrb := hrow.bd
      simp only [List.length_map] at hrb
      have x1 := HBK.out.cell (i := 1) (v := .slice ng i nc') rfl
      have x2 := HBK.out.cell (i := 2) (v := .slice ag i ac') rfl
      have ilt : (i : Int) < u.accept.length := by rw [HACC.out]; omega
      have i0 : (0 : Int) ≤ i := by omega
      generalize hx : bget u.accept i = x at *
      have HX := Lib.hid hx
      have HX1 := Lib.hid x1
      have HAC := Lib.hid hacell
      clear hn hrow hrl hx hacell
      go_wp2_with fail
      refine wp_region_mix_tail (fun w' => w'.cell? ⟨w2.heap.size, 1, none⟩ = some (.slice ng i nc')) 6 [(0, true), (1, true), (2, true), (3, false), (4, false), (5, false)] (by kernel_rfl) (by kernel_rfl) HX1.out ?_
      simp only [mixList, List.getElem?_toArray, List.getElem?_cons_zero, List.getElem?_cons_succ]
      repeat (apply Exists.intro; refine ⟨fun w' hC => .inl ⟨rfl, .inl ?_⟩, ?_⟩; ((have hC' : w'.cell? ⟨w2.heap.size, 1, none⟩ = some (.slice ng i nc') := hC); go_simp; rfl))
      refine mix_loud rfl ?_
      unfold loud
      go_simp
      simp only [louD]
      refine (HCR.out _ ((Below.refl _ _).drew)).mono ?_
      rintro e w3 ⟨v3, rfl, ho3, hb3'⟩
      have hb3 : Below wr.heap.size wr w3 := ((Below.refl _ _).drew).trans hb3'
      replace ho3 : OwnC w3 wr.heap.size 3 v3 (ints (rget u.next i)) := ho3
      obtain ⟨rg, rcap, rfl⟩ := ho3.form
      simp only [List.length_map] at ho3 ⊢
      have y1 := below_cell hb3 (p := ⟨w2.heap.size, 1, none⟩) hsz HX1.out
      refine ⟨_, rfl, y1, ?_⟩
      refine mix_loud rfl ?_
      unfold loud
      go_simp
      simp only [louD]
      have hs3 := hb3.size
      refine ⟨below_cell (Ext.alloc w3 _).1 (by simp; omega) y1, ?_⟩
      have hOn := (HO.out.ext hb3)
      refine mix_loud rfl (loud_append_c1 (.tmp 27) (.tmp 30) 23 22 rfl tabL rfl (by omega) (w2.heap.size + 1) (.slice ng i nc') _ rfl hOn (by omega) (.slice rg (rget u.next i).length rcap) 22 _ rfl rfl rfl ?_ ?_)
      · have hzl : (hdrs T (u.next.take i)).length ≤ i := by simp [hdrs]; omega
        omega
      intro v4 w4 hg4
      have hlen4 : (hdrs T (u.next.take i)).length = i := by have := HT.out.1; simp [hdrs]; simp at this; omega
      obtain ⟨ng4, nc4, hv4⟩ := grew_form hg4
      rw [List.length_append, List.length_singleton, hlen4] at hv4
      subst hv4
      have hnvlt : ∀ q, Value.ownBlock (.slice ng i nc') = some q → w2.heap.size + 1 ≤ q ∧ q < wr.heap.size := fun q hq => HO.out.lt hq
      have havlt : ∀ q, Value.ownBlock (.slice ag i ac') = some q → w2.heap.size + 1 ≤ q ∧ q < wr.heap.size := fun q hq => HA.out.lt hq
      have hne5 : Value.ownBlock (.slice ng i nc') ≠ some w2.heap.size := fun e => by have := hnvlt _ e; omega
      have hav : Value.ownBlock (.slice ag i ac') ≠ some w2.heap.size := fun e => by have := havlt _ e; omega
      have hs4 := hg4.below.size
      have hBK4 := (HBK.out.ext hb3).keep (hg4.rest w2.heap.size (by omega) hne5)
      have hA4 := (HA.out.ext hb3).keep (w' := w4) fun b hb => hg4.rest b (by have := (havlt b hb).2; omega) (own_ne2 (HO.out.ext hb3) (HA.out.ext hb3) (by decide) hb)
      have hT4 : HdRep w4 (fun b => b ≤ w2.heap.size ∨ Value.ownBlock (.slice ng4 (i + 1) nc4) = some b ∨ Value.ownBlock (.slice ag i ac') = some b) (T ++ [(rg, rcap)]) (u.next.take (i + 1)) := by
        have h1 := (HT.out.ext hb3).old
        have h2 : HdRep w3 (fun b => (b < wr.heap.size ∧ (b ≤ w2.heap.size ∨ Value.ownBlock (.slice ng i nc') = some b ∨ Value.ownBlock (.slice ag i ac') = some b)) ∨ w3.heap.size ≤ b) (T ++ [(rg, rcap)]) (u.next.take i ++ [rget u.next i]) := by
          refine (h1.avoid fun b hb hh => ?_).snoc ?_
          · rcases hh with hh | hh
            · exact .inl hh.2
            · exact .inr hh
          · exact ((ho3.rep (A := fun b => b < wr.heap.size) (fun b hb hh => by omega)).old).avoid fun b hb hh => hh.imp (fun h => h.1) id
        have h3 := h2.keep (w' := w4) (by omega) fun b hb hn => hg4.rest b hb (fun e => hn (.inl ⟨(hnvlt b e).2, .inr (.inl e)⟩))
        rw [List.take_add_one, rget_get hlt]
        refine h3.avoid fun b _ hh => ?_
        rcases hh with hh | hh | hh
        · exact .inl ⟨by omega, .inl hh⟩
        · rcases hg4.place with e | ⟨q, e, hq⟩
          · rw [e] at hh; exact .inl ⟨(hnvlt b hh).2, .inr (.inl hh)⟩
          · rw [e] at hh; cases hh; exact .inr (by simpa using hq)
        · exact .inl ⟨(havlt b hh).2, .inr (.inr hh)⟩
      have hO4 : OwnC w4 (w2.heap.size + 1) 22 (.slice ng4 (i + 1) nc4) (hdrs (T ++ [(rg, rcap)]) (u.next.take (i + 1))) := by
        rw [List.take_add_one, rget_get hlt]
        have := hg4.own
        rw [← hdrs_snoc (T := T) (rows := u.next.take i) HT.out.1] at this
        exact this
      have y4 := hBK4.cell (i := 1) (v := .slice ng i nc') rfl
      have y5 := hBK4.free 1
      refine ⟨y4, ?_⟩
      have hb24 : Below w2.heap.size w2 w4 := (HB.out.trans (hb3.mono (by omega))).trans (hg4.below.mono (by omega))
      -- the world behind the store
      have HBK5 := Lib.hid (hBK4.set 1 (.slice ng4 (i + 1) nc4))
      have hne4 : Value.ownBlock (.slice ng4 (i + 1) nc4) ≠ some w2.heap.size := fun e => by have := (hO4.lt e).1; omega
      have HO5 := Lib.hid (hO4.setOther hne4 1 (.slice ng4 (i + 1) nc4))
      have HA5 := Lib.hid (hA4.setOther hav 1 (.slice ng4 (i + 1) nc4))
      have HT5 := Lib.hid (hT4.keep (w' := w4.setCell ⟨w2.heap.size, 1, none⟩ (.slice ng4 (i + 1) nc4)) (by simp [World.setCell]) (fun b hb hn => Below.heap_setCell _ _ _ _ (fun e => hn (.inl (Nat.le_of_eq e)))))
      have HB5 := Lib.hid (hb24.setCell (p := ⟨w2.heap.size, 1, none⟩) (Nat.le_refl _) (.slice ng4 (i + 1) nc4))
      clear hBK4 hA4 hT4 hO4 hb24 hOn y1 hb3 hb3' ho3 hg4
      have t2 := HBK5.out.cell (i := 2) (v := .slice ag i ac') rfl
      have t1 := below_cell HB5.out (p := ⟨w.heap.size, 2, none⟩) hs02 c2
      have t3 : (w4.setCell ⟨w2.heap.size, 1, none⟩ (.slice ng4 (i + 1) nc4)).cell? ⟨gb, ob + i, none⟩ = some (.bool x) := by
        exact below_cell (HB2.out.trans (HB5.out.mono (by omega))) hgb HAC.out
      simp only [wpMix, List.drop_succ_cons, List.drop_zero]
      have hz5 : (w4.setCell ⟨w2.heap.size, 1, none⟩ (.slice ng4 (i + 1) nc4)).heap.size = w4.heap.size := by simp [World.setCell]
      obtain ⟨w5, hw5⟩ : ∃ w5, w5 = w4.setCell ⟨w2.heap.size, 1, none⟩ (.slice ng4 (i + 1) nc4) := ⟨_, rfl⟩
      rw [← hw5] at HBK5 HO5 HA5 HT5 HB5 t1 t2 t3 hz5
      have HW5 := Lib.hid hw5
      have T2 := Lib.hid t2
      clear hw5
      go_wp2_with fail
      rw [← HW5.out]
      refine wp_region_mix_tail (fun w' => w'.cell? ⟨w2.heap.size, 2, none⟩ = some (.slice ag i ac') ∧ w'.cell? ⟨w.heap.size, 2, none⟩ = some (.slice (some ⟨gb, ob, none⟩) u.accept.length ac) ∧ w'.cell? ⟨gb, ob + i, none⟩ = some (.bool x)) 10 [(0, true), (1, true), (2, true), (3, true), (4, true), (5, true), (6, true), (7, true), (8, false), (9, false)] (by kernel_rfl) (by kernel_rfl) ⟨t2, t1, t3⟩ ?_
      simp only [mixList, List.getElem?_toArray, List.getElem?_cons_zero, List.getElem?_cons_succ]
      repeat (apply Exists.intro; refine ⟨fun w' hC => .inl ⟨rfl, .inl ?_⟩, ?_⟩; ((obtain ⟨hC1, hC2, hC3⟩ := hC; go_simp; rfl)))
      refine mix_loud rfl ?_
      unfold loud
      go_simp
      simp only [louD]
      have hs5 : w4.heap.size ≤ w5.heap.size := by omega
      have gbw : gb < w5.heap.size := by omega
      have w2w : w2.heap.size < w5.heap.size := by omega
      have w0w : w.heap.size < w5.heap.size := by omega
      have e1 := below_cell (Ext.alloc w5 (.cells #[.bool (!x)] 4)).1 w2w t2
      have e2 := below_cell (Ext.alloc w5 (.cells #[.bool (!x)] 4)).1 w0w t1
      have e3 := below_cell (Ext.alloc w5 (.cells #[.bool (!x)] 4)).1 gbw t3
      refine ⟨⟨by simpa using e1, by simpa using e2, by simpa using e3⟩, ?_⟩
      refine mix_loud rfl (loud_append_c1 (w := w5.drew) (.tmp 34) (.tmp 41) 24 4 rfl tabBo rfl (by omega) (w2.heap.size + 1) (.slice ag i ac') _ rfl (HA5.out.ext (Ext.drew w5).1) (by show _ ≤ w5.heap.size; omega) (.bool (!x)) 4 _ rfl hz5 rfl (by simp; omega) ?_)
      intro v6 w6 hg6
      obtain ⟨ag6, ac6, hv6⟩ := grew_form hg6
      have hlen6 : (boos ((u.accept.take i).map not)).length = i := by simp; rw [HACC.out]; omega
      rw [List.length_append, List.length_singleton, hlen6] at hv6
      subst hv6
      have hs6 : w5.heap.size ≤ w6.heap.size := hg6.below.size
      have m2 := hg6.cell (b := w2.heap.size) 2 w2w hav t2
      have m1 := below_cell hg6.below (p := ⟨w.heap.size, 2, none⟩) (by simp; omega) t1
      have m3 := below_cell hg6.below (p := ⟨gb, ob + i, none⟩) (by simp; omega) t3
      refine ⟨⟨m2, m1, m3⟩, ?_⟩
      have hBK6 := HBK5.out.keep (hg6.rest w2.heap.size w2w hav)
      have n2 := hBK6.cell (i := 2) (v := .slice ag i ac') rfl
      have n3 := hBK6.free 2
      have hown5 : ∀ q, Value.ownBlock (.slice ag i ac') = some q → w2.heap.size + 1 ≤ q ∧ q < w5.heap.size := fun q hq => HA5.out.lt hq
      have hO6 := HO5.out.keep (w' := w6) fun b hb => hg6.rest b (HO5.out.lt hb).2 (own_ne2 HA5.out HO5.out (by decide) hb)
      have hT6 : HdRep w6 (fun b => b ≤ w2.heap.size ∨ Value.ownBlock (.slice ng4 (i + 1) nc4) = some b ∨ Value.ownBlock (.slice ag6 (i + 1) ac6) = some b) (T ++ [(rg, rcap)]) (u.next.take (i + 1)) := by
        have h1 := HT5.out.old.keep (w' := w6) hs6 fun b hb hn => hg6.rest b hb (fun e => hn (.inl (.inr (.inr e))))
        refine h1.avoid fun b _ hh => ?_
        rcases hh with hh | hh | hh
        · exact .inl (.inl hh)
        · exact .inl (.inr (.inl hh))
        · rcases hg6.place with e | ⟨q, e, hq⟩
          · rw [e] at hh; exact .inl (.inr (.inr hh))
          · rw [e] at hh; cases hh; exact .inr hq
      have hA6 : OwnC w6 (w2.heap.size + 1) 4 (.slice ag6 (i + 1) ac6) (boos ((u.accept.take (i + 1)).map not)) := by
        have := hg6.own
        have e : boos ((u.accept.take (i + 1)).map not) = boos ((u.accept.take i).map not) ++ [.bool (!x)] := by
          rw [List.take_add_one, bget_get (by rw [HACC.out]; exact hlt), HX.out]
          simp
        rw [e]; exact this
      have hne6 : Value.ownBlock (.slice ag6 (i + 1) ac6) ≠ some w2.heap.size := fun e => by have := (hA6.lt e).1; omega
      have hne7 : Value.ownBlock (.slice ng4 (i + 1) nc4) ≠ some w2.heap.size := fun e => by have := (hO6.lt e).1; omega
      have HBK7 := Lib.hid (hBK6.set 2 (.slice ag6 (i + 1) ac6))
      have HO7 := Lib.hid (hO6.setOther hne7 2 (.slice ag6 (i + 1) ac6))
      have HA7 := Lib.hid (hA6.setOther hne6 2 (.slice ag6 (i + 1) ac6))
      have HT7 := Lib.hid (hT6.keep (w' := w6.setCell ⟨w2.heap.size, 2, none⟩ (.slice ag6 (i + 1) ac6)) (by simp [World.setCell]) (fun b hb hn => Below.heap_setCell _ _ _ _ (fun e => hn (.inl (Nat.le_of_eq e)))))
      have HB7 := Lib.hid ((HB5.out.trans (((Ext.drew w5).1.mono (by omega)).trans (hg6.below.mono (by omega)))).setCell (p := ⟨w2.heap.size, 2, none⟩) (Nat.le_refl _) (.slice ag6 (i + 1) ac6))
      clear hBK6 hO6 hT6 hA6 hg6 m1 m2 m3 e1 e2 e3 t1 t2 t3
      simp only [wpMix, List.drop_succ_cons, List.drop_zero]
      go_wp2_with fail
      go_roundw
      case rel => exact ⟨i + 1, T ++ [(rg, rcap)], ng4, nc4, ag6, ac6, by simp, by omega, by simp [World.setCell]; omega, HBK7, HO7, HT7, HA7, HB7⟩
      case measure => simp [intOf]; omega
    · have he : i = u.next.length := by omega
      have hO := HO.out
      have hA := HA.out
      have hT := HT.out
      rw [he, List.take_length] at hO hT
      rw [he, ← HACC.out, List.take_length, HACC.out] at hA
      have hBK := HBK.out
      rw [he] at hBK
      have z0 := hBK.cell (i := 0) (v := .slice cg u.cuts.length ccap) rfl
      have z1 := hBK.cell (i := 1) (v := .slice ng u.next.length nc') rfl
      have z2 := hBK.cell (i := 2) (v := .slice ag u.next.length ac') rfl
      have u0 := below_cell HB.out (p := ⟨w.heap.size + 1, 0, none⟩) hs12 q0
      have u1 := below_cell HB.out (p := ⟨w.heap.size + 1, 1, none⟩) hs12 q1
      have u2 := below_cell HB.out (p := ⟨w.heap.size + 1, 2, none⟩) hs12 q2
      have n0 := below_free HB.out (p := ⟨w.heap.size + 1, 0, none⟩) hs12 g0
      have n1 := below_free HB.out (p := ⟨w.heap.size + 1, 1, none⟩) hs12 g1
      have n2 := below_free HB.out (p := ⟨w.heap.size + 1, 2, none⟩) hs12 g2
      have HO' := Lib.hid hO
      have HA' := Lib.hid hA
      have HT' := Lib.hid hT
      subst he
      clear hO hA hT hBK q0 q1 q2 g0 g1 g2 HBK HO HA HT
      go_wp2_with fail
      obtain ⟨k0, k1, k2⟩ := set3_cells u0 u1 u2 (.slice cg u.cuts.length ccap) (.slice ng u.next.length nc') (.slice ag u.next.length ac')
      simp only [set3] at k0 k1 k2
      refine bodyPost_ret (v := .tuple #[.agg #[.slice cg u.cuts.length ccap, .slice ng u.next.length nc', .slice ag u.next.length ac'], .int .i64 0]) (by simp [results, Try.results20, go_sem, k0, k1, k2]) rfl ?_
      have hfar : ∀ b, b < wr.heap.size → ¬ (b < w.heap.size + 2) → (set3 wr (w.heap.size + 1) (.slice cg u.cuts.length ccap) (.slice ng u.next.length nc') (.slice ag u.next.length ac')).heap[b]? = wr.heap[b]? := fun b _ hn => set3_other _ _ _ _ _ _ (by omega)
      have hz : wr.heap.size ≤ (set3 wr (w.heap.size + 1) (.slice cg u.cuts.length ccap) (.slice ng u.next.length nc') (.slice ag u.next.length ac')).heap.size := by rw [set3_size]; exact Nat.le_refl _
      refine ⟨⟨cg, ccap, ng, nc', ag, ac'⟩, by simp [auv, HACC.out], ⟨?_, ?_, ?_⟩, set3_below (HB2.out.trans (HB.out.mono (by omega))) (by omega) _ _ _⟩
      · exact ((((HO2.out.rep (A := fun b => b < w.heap.size + 2) (fun b hb hh => by omega)).ext HB.out)).keep hz hfar).avoid (fun b _ hh => by omega)
      · have h1 := (HT'.out.avoid (A' := fun b => b < w.heap.size + 2) (fun b _ hh => .inl (by omega))).rows (HO'.out.rep (A := fun b => b < w.heap.size + 2) (fun b hb hh => by omega))
        exact (h1.keep hz hfar).avoid (fun b _ hh => by omega)
      · exact ((HA'.out.rep (A := fun b => b < w.heap.size + 2) (fun b hb hh => by omega)).keep hz hfar).avoid (fun b _ hh => by omega)

theorem Complement_any (u : Au) (w : World) (A : Nat → Prop) (p : APl) (h : AuRep w A u p) :
    Calls Try.prog 20 #[auv u p] w (AuPost w (avalid u) (complP u)) := by
  by_cases hv : avalid u = 0
  · have := Complement_good u ((avalid_zero u).1 hv) w A p h
    unfold complP
    rw [hv, if_pos rfl]
    exact this
  · have := Complement_bad u hv w A p h
    unfold complP
    rw [if_neg hv]
    exact this
end Go.Proofs.Ytbepohpppailnaa
