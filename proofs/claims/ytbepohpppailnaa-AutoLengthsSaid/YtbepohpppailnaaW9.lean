/- Walks: CompactFunc at expressions. -/
import Derived.Test.YtbepohpppailnaaW8
set_option linter.unusedSimpArgs false
set_option linter.unusedVariables false
namespace Go.Proofs.Ytbepohpppailnaa
open Go.RowKit

/-- of neighbours that are equal the first is kept -/
def compactFrom (prev : Rx) : List Pl → List Pl
  | [] => []
  | b :: l => if rcmp b.r prev == 0 then compactFrom b.r l else b :: compactFrom b.r l
def compactL : List Pl → List Pl
  | [] => []
  | a :: l => a :: compactFrom a.r l

theorem compactFrom_snoc (prev : Rx) (l : List Pl) (x y : Pl) : compactFrom prev ((l ++ [x]) ++ [y]) = compactFrom prev (l ++ [x]) ++ (if rcmp y.r x.r == 0 then [] else [y]) := by
  induction l generalizing prev with
  | nil =>
    by_cases h1 : (rcmp x.r prev == 0) = true <;> by_cases h2 : (rcmp y.r x.r == 0) = true <;> simp only [List.nil_append, List.cons_append, compactFrom, h1, h2, if_true, if_false, Bool.false_eq_true, List.append_nil]
  | cons b l ih =>
    have := ih b.r
    by_cases h : (rcmp b.r prev == 0) = true
    · simp only [List.cons_append, compactFrom, h, if_true, this]
    · simp only [List.cons_append, compactFrom, h, if_false, this, Bool.false_eq_true]
theorem compactL_snoc (l : List Pl) (x y : Pl) : compactL ((l ++ [x]) ++ [y]) = compactL (l ++ [x]) ++ (if rcmp y.r x.r == 0 then [] else [y]) := by
  cases l with
  | nil =>
    by_cases h2 : (rcmp y.r x.r == 0) = true <;> simp only [List.nil_append, List.cons_append, compactL, compactFrom, h2, if_true, if_false, Bool.false_eq_true, List.append_nil]
  | cons b l =>
    simp only [List.cons_append, compactL]
    rw [compactFrom_snoc]
theorem compactL_take (l : List Pl) (j : Nat) (x y : Pl) (hx : l[j]? = some x) (hy : l[j + 1]? = some y) : compactL (l.take (j + 2)) = compactL (l.take (j + 1)) ++ (if rcmp y.r x.r == 0 then [] else [y]) := by
  have h1 : l.take (j + 1) = l.take j ++ [x] := by rw [List.take_add_one, hx]; rfl
  have h2 : l.take (j + 2) = (l.take j ++ [x]) ++ [y] := by rw [List.take_add_one, hy, h1]; rfl
  rw [h2, h1, compactL_snoc]

theorem enters_equal : ∀ args w, (callFunc 55 args).run Try.prog w = .ok (.enter 55 args) w := by
  intro args w
  go_simp

/-- what a row holds while it is compacted: i kept ones ahead, from j on as it was -/
structure CmpAt (l m : List Pl) (i j : Nat) : Prop where
  len : m.length = l.length
  le : i ≤ j
  kept : m.take i = compactL (l.take (j + 1))
  rest : ∀ t, j ≤ t → m[t]? = l[t]?

set_option maxRecDepth 100000 in
set_option maxHeartbeats 1600000 in
theorem compactFunc_any (l : List Pl) (w : World) (A : Nat → Prop) (base : Nat) (a : Option Addr) (cap : Nat)
    (hown : OwnRx w A base 54 (.slice a l.length cap) l) (hbase : base ≤ w.heap.size) (hbd : l.length ≤ cap ∧ cap ≤ 9223372036854775807) :
    Calls Try.prog 58 #[.slice a l.length cap, .func (.func 55) #[] #[]] w fun e w' =>
      e = .returned (.slice a (compactL l).length cap) ∧ OwnRx w' A base 54 (.slice a (compactL l).length cap) (compactL l) ∧ Below base w w' := by
  have HO := Lib.hid hown
  clear hown
  by_cases h2 : l.length < 2
  · have hc : compactL l = l := by
      match l, h2 with
      | [], _ => rfl
      | [x], _ => rfl
    rw [hc]
    clear hc
    go_enter Try.func58, Try.ntmps58
    go_wp2_with fail
    go_ret
    exact ⟨rfl, HO.out, Below.refl _ _⟩
  · obtain ⟨gb, o, ha, hg, _⟩ : ∃ gb o, a = some ⟨gb, o, none⟩ ∧ o = 0 ∧ True := by
      rcases HO.out.1.2 with ⟨hv, h0⟩ | ⟨gb, cap', cur, hv, _⟩
      · omega
      · cases hv; exact ⟨gb, 0, rfl, rfl, trivial⟩
    subst ha hg
    go_enter Try.func58, Try.ntmps58
    go_wp2_with fail
    go_loopw [5] (fun iv wr => ∃ (k : Nat), k + 1 ≤ l.length ∧ iv = .int .i64 (k + 1 : Nat) ∧ Hid (compactL (l.take (k + 1)) = l.take (k + 1)) ∧ Ext w wr)
      (fun i _ => l.length - (intOf i).toNat)
    case atStart => exact ⟨0, by omega, rfl, Lib.hid (by
      match l, h2 with
      | x :: l, _ => rfl), Ext.refl _⟩
    case round =>
      obtain ⟨k, hk, rfl, HC, hext⟩ := hrel
      have hgb := (HO.out.1.lt gb rfl)
      by_cases hlt : k + 1 < l.length
      · obtain ⟨x, hx⟩ : ∃ x, l[k]? = some x := ⟨l[k], List.getElem?_eq_getElem (by omega)⟩
        obtain ⟨y, hy⟩ : ∃ y, l[k + 1]? = some y := ⟨l[k + 1], List.getElem?_eq_getElem (by omega)⟩
        have hown' := HO.out.ext hext.1
        obtain ⟨⟨x0, x1, x2, x3⟩, _⟩ := hown'.cells k x hx
        obtain ⟨⟨y0, y1, y2, y3⟩, _⟩ := hown'.cells (k + 1) y hy
        have hxr := hown'.2 x (List.mem_of_getElem? hx)
        have hyr := hown'.2 y (List.mem_of_getElem? hy)
        have hct := compactL_take l k x y hx hy
        have HX := Lib.hid hx
        have HY := Lib.hid hy
        have HXR := Lib.hid hxr
        have HYR := Lib.hid hyr
        have HOW := Lib.hid hown'
        have HCT := Lib.hid hct
        clear hx hy hxr hyr hown' hct
        go_wp2_with fail
        have i1 : (0 : Int) ≤ (k : Int) + 1 := by omega
        have i2 : (k : Int) + 1 < (l.length : Int) := by omega
        have i3 : ((k : Int) + 1).toNat = k + 1 := by omega
        have i4 : IntKind.i64.wrap (k : Int) = (k : Int) := IntWalk.i64_in _ (by omega)
        have i5 : (k : Int) < (l.length : Int) := by omega
        refine wp_region_still_tail 10 (by kernel_rfl) (by kernel_rfl) ?_
        simp only [List.take_succ_cons, List.take_zero, List.drop_succ_cons, List.drop_zero]
        show wpStill _ _ (World.drew _) _ _ _
        repeat still_step
        refine wpStill_nil ?_
        clear i1 i2 i3 i4 i5
        show wpList _ _ _ _ _ (World.drew _)
        have hE2 := hext.trans (Ext.drew wr)
        have HCALL := Lib.hid (equal_any y.r x.r wr.drew _ _ y.a x.a y.c x.c (HYR.out.ext (Ext.drew wr).1) (HXR.out.ext (Ext.drew wr).1))
        have HE2 := Lib.hid hE2
        clear hE2
        cases hq : (rcmp y.r x.r == 0) with
        | false =>
          rw [hq] at HCALL HCT
          clear hq
          go_wp2_with fail
          refine HCALL.out.mono ?_
          rintro e w2 ⟨rfl, hE3⟩
          have HE3 := Lib.hid (HE2.out.trans hE3)
          clear hE3
          go_wp2_with fail
          go_roundw
          case rel => exact ⟨k + 1, by omega, by go_num, Lib.hid (by rw [HCT.out, HC.out, List.take_add_one (i := k + 1), HY.out]; rfl), HE3.out⟩
          case measure => simp [intOf]; omega
        | true =>
          rw [hq] at HCALL HCT
          clear hq
          go_wp2_with fail
          refine HCALL.out.mono ?_
          rintro e w2 ⟨rfl, hE3⟩
          have HE3 := Lib.hid (HE2.out.trans hE3)
          clear hE3
          have hkc : ¬ k + 1 = cap := by omega
          have hst : CmpAt l l (k + 1) (k + 1) := ⟨rfl, Nat.le_refl _, by
            have := HCT.out
            simp only [if_true, List.append_nil] at this
            rw [this, HC.out], fun t _ => rfl⟩
          have HST := Lib.hid hst
          have HO3 := Lib.hid (HO.out.ext HE3.out.1)
          have HB3 := Lib.hid (HE3.out.1.mono hbase)
          have hsz3 : base ≤ w2.heap.size := by have := HE3.out.1.size; omega
          clear hst
          go_wp2_with fail
          obtain ⟨wo, rfl⟩ : ∃ wo : World, wo = wr := ⟨_, rfl⟩
          go_loopw [5, 7] (fun iv jv wr => ∃ (i q : Nat) (m : List Pl), i ≤ k + 1 + q ∧ k + 1 + q < l.length ∧ iv = .int .i64 i ∧ jv = .int .i64 (q + 1 : Nat) ∧ Hid (CmpAt l m i (k + 1 + q)) ∧ Hid (OwnRx wr A base 54 (.slice (some ⟨gb, 0, none⟩) l.length cap) m) ∧ Hid (Below base w wr) ∧ base ≤ wr.heap.size)
            (fun _ j _ => l.length - (intOf j).toNat)
          case atStart => exact ⟨k + 1, 0, l, by omega, by omega, by go_num, rfl, HST, HO3, HB3, hsz3⟩
          case round =>
            obtain ⟨i, q, m, hij, hjl, rfl, rfl, HD, HM, HB, hbs⟩ := hrel
            have hml := HD.out.len
            by_cases hlt2 : k + 1 + q + 1 < l.length
            · obtain ⟨x', hx'⟩ : ∃ x', m[k + 1 + q]? = some x' := ⟨m[k + 1 + q], List.getElem?_eq_getElem (by omega)⟩
              obtain ⟨y', hy'⟩ : ∃ y', m[k + 1 + q + 1]? = some y' := ⟨m[k + 1 + q + 1], List.getElem?_eq_getElem (by omega)⟩
              obtain ⟨z', hz'⟩ : ∃ z', m[i]? = some z' := ⟨m[i], List.getElem?_eq_getElem (by omega)⟩
              obtain ⟨hxa, _⟩ := HM.out.cells _ x' hx'
              obtain ⟨hya, _⟩ := HM.out.cells _ y' hy'
              obtain ⟨⟨d0, d1, d2, d3⟩, f0, f1, f2, f3⟩ := HM.out.cells i z' hz'
              have hgb' := (HM.out.1.lt gb rfl).2
              rw [show (k + 1 + q) * 4 = (k + 1) * 4 + q * 4 from by omega] at hxa
              rw [show (k + 1 + q + 1) * 4 = (k + 1) * 4 + (q + 1) * 4 from by omega] at hya
              obtain ⟨p0, p1, p2, p3⟩ := hxa
              obtain ⟨q0, q1, q2, q3⟩ := hya
              have hxr := HM.out.2 x' (List.mem_of_getElem? hx')
              have hyr := HM.out.2 y' (List.mem_of_getElem? hy')
              have hct := compactL_take l (k + 1 + q) x' y' (by rw [← HD.out.rest _ (Nat.le_refl _)]; exact hx') (by rw [← HD.out.rest _ (by omega)]; exact hy')
              have HCALL2 := Lib.hid (equal_any y'.r x'.r wr.drew _ _ y'.a x'.a y'.c x'.c (hyr.ext (Ext.drew wr).1) (hxr.ext (Ext.drew wr).1))
              have HX2 := Lib.hid hx'
              have HY2 := Lib.hid hy'
              have HYR2 := Lib.hid hyr
              have HCT2 := Lib.hid hct
              clear hx' hy' hz' hxr hyr hct
              have i1 : (0 : Int) ≤ (q : Int) + 1 := by omega
              have i2 : (q : Int) + 1 < ((l.length - (k + 1) : Nat) : Int) := by omega
              have i3 : ((q : Int) + 1).toNat = q + 1 := by omega
              have i4 : IntKind.i64.wrap (q : Int) = (q : Int) := IntWalk.i64_in _ (by omega)
              have i5 : (q : Int) < ((l.length - (k + 1) : Nat) : Int) := by omega
              go_wp2_with fail
              refine wp_region_still_tail 10 (by kernel_rfl) (by kernel_rfl) ?_
              simp only [List.take_succ_cons, List.take_zero, List.drop_succ_cons, List.drop_zero]
              show wpStill _ _ (World.drew _) _ _ _
              repeat still_step
              refine wpStill_nil ?_
              clear i1 i2 i3 i4 i5
              show wpList _ _ _ _ _ (World.drew _)
              cases hq2 : (rcmp y'.r x'.r == 0) with
              | true =>
                rw [hq2] at HCALL2 HCT2
                clear hq2
                go_wp2_with fail
                refine HCALL2.out.mono ?_
                rintro e w3 ⟨rfl, hE4⟩
                have HE4 := Lib.hid ((Ext.drew wr).trans hE4)
                clear hE4
                go_wp2_with fail
                go_roundw
                case rel => exact ⟨i, q + 1, m, by omega, by omega, rfl, by go_num, Lib.hid ⟨HD.out.len, by omega, by
                  have := HCT2.out
                  simp only [if_true, List.append_nil] at this
                  rw [HD.out.kept]; exact this.symm, fun t ht => HD.out.rest t (by omega)⟩, Lib.hid (HM.out.ext HE4.out.1), Lib.hid (HB.out.trans (HE4.out.1.mono hbs)), by have := HE4.out.1.size; omega⟩
                case measure => simp [intOf]; omega
              | false =>
                rw [hq2] at HCALL2 HCT2
                clear hq2
                go_wp2_with fail
                refine HCALL2.out.mono ?_
                rintro e w3 ⟨rfl, hE4⟩
                have hE5 := (Ext.drew wr).trans hE4
                have k0 := hE5.cell d0
                have k1 := hE5.cell d1
                have k2 := hE5.cell d2
                have k3 := hE5.cell d3
                have l0 := hE5.cell q0
                have l1 := hE5.cell q1
                have l2 := hE5.cell q2
                have l3 := hE5.cell q3
                have e0 := below_free hE5.1 hgb' f0
                have e1 := below_free hE5.1 hgb' f1
                have e2 := below_free hE5.1 hgb' f2
                have e3 := below_free hE5.1 hgb' f3
                have HE5 := Lib.hid hE5
                have hst := (HM.out.ext hE5.1).stored (by omega) i (by omega) y' ((HYR2.out.ext hE5.1).avoid (fun b _ hh => hh.imp id (fun e => by simpa [Value.ownBlock] using e)))
                have hsz := hE5.1.size
                have HST2 := Lib.hid hst
                clear hE4 hE5 hst d0 d1 d2 d3 f0 f1 f2 f3 p0 p1 p2 p3 q0 q1 q2 q3
                go_wp2_with fail
                go_roundw
                case rel => exact ⟨i + 1, q + 1, m.set i y', by omega, by omega, by go_num, by go_num, Lib.hid ⟨by simp [HD.out.len], by omega, by
                  have := HCT2.out
                  simp only [Bool.false_eq_true, if_false] at this
                  rw [List.take_add_one, List.take_set_of_le (Nat.le_refl _), HD.out.kept]
                  rw [show (m.set i y')[i]? = some y' from by rw [List.getElem?_set]; simp; omega]
                  exact this.symm, fun t ht => by rw [List.getElem?_set_ne (by omega)]; exact HD.out.rest t (by omega)⟩, Lib.hid HST2.out.1, Lib.hid ((HB.out.trans (HE5.out.1.mono hbs)).trans HST2.out.2), Nat.le_trans (by omega) HST2.out.2.size⟩
                case measure => simp [intOf]; omega
            · have hfin : m.take i = compactL l := by rw [HD.out.kept, List.take_of_length_le (by omega)]
              have hlen2 : (compactL l).length = i := by rw [← hfin]; simp; omega
              have HF := Lib.hid hfin
              have HL := Lib.hid hlen2
              obtain ⟨w3, hcl, hown3, hb3⟩ := run_clear_rx (P := Try.prog) 52 0 54 tabR A base gb l.length cap m HM.out (by omega) i (by omega) (some ⟨gb, i * 4, none⟩) (cap - i) (fun _ => rfl)
              have HOWN3 := Lib.hid hown3
              have HB3 := Lib.hid (HB.out.trans hb3)
              rw [hml] at hcl
              have hic : ¬ i = cap := by omega
              clear hown3 hb3 hfin hlen2
              go_wp2_with fail
              go_ret
              refine ⟨by rw [HL.out]; rfl, ?_, HB3.out⟩
              rw [HL.out, ← HF.out]
              exact HOWN3.out
      · have he : l.take (k + 1) = l := List.take_of_length_le (by omega)
        have hc := HC.out
        rw [he] at hc
        have HCC := Lib.hid hc
        clear he hc
        go_wp2_with fail
        go_ret
        refine ⟨by rw [HCC.out]; rfl, ?_, hext.1.mono hbase⟩
        rw [HCC.out]
        exact HO.out.ext hext.1
end Go.Proofs.Ytbepohpppailnaa
