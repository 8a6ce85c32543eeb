/- Walks: Valid of package auto. -/
import Derived.Test.YtbepohpppailnaaAP
set_option linter.unusedSimpArgs false
set_option linter.unusedVariables false
namespace Go.Proofs.Ytbepohpppailnaa
open Go.RowKit
attribute [local go_sem ↓] Go.wp_at_zero Go.wp_at_succ

/-- a box that holds an automaton -/
theorem box3 {w w' : World} {v0 v1 v2 : Value} {t : TypeId} (h : Below (w.heap.size + 1) (w.alloc (.cells #[v0, v1, v2] t)) w') :
    w'.cell? ⟨w.heap.size, 0, none⟩ = some v0 ∧ w'.cell? ⟨w.heap.size, 1, none⟩ = some v1 ∧ w'.cell? ⟨w.heap.size, 2, none⟩ = some v2 :=
  ⟨below_cell h (by simp) (by go_side), below_cell h (by simp) (by go_side), below_cell h (by simp) (by go_side)⟩
theorem ne_nat {a b : Nat} (h : a ≠ b) : ((a : Int) != (b : Int)) = true := by simp; omega
theorem ne_nat_f {a b : Nat} (h : a = b) : ((a : Int) != (b : Int)) = false := by subst h; simp
theorem eq_nat {a b : Nat} (h : a = b) : ((a : Int) == (b : Int)) = true := by subst h; simp
theorem eq_nat_f {a b : Nat} (h : a ≠ b) : ((a : Int) == (b : Int)) = false := by simp; omega
theorem eq0_f {a : Nat} (h : 0 < a) : ((a : Int) == 0) = false := by simp; omega
theorem ret_err {a b : Int} (h : a = b) : Ending.returned (.int .i64 a) = .returned (.int .i64 b) := by rw [h]

set_option maxRecDepth 100000 in
set_option maxHeartbeats 1600000 in
theorem aValid_early (u : Au) (w : World) (A : Nat → Prop) (p : APl) (h : AuRep w A u p) (hb : 256 < u.next.length ∨ 256 < u.accept.length ∨ u.next.length = 0 ∨ u.accept.length ≠ u.next.length ∨ u.cuts.length = 0 ∨ u.cuts.getD 0 0 ≠ 0) :
    Calls Try.prog 14 #[auv u p] w fun e w' => e = .returned (.int .i64 (avalid u)) ∧ Below w.heap.size w w' := by
  have h1 := h.next.bd
  have h2 := h.accept.bd
  have h3 := h.cuts.bd
  simp only [List.length_map] at h1 h2 h3
  have HC := Lib.hid h.cuts
  clear h
  simp only [auv]
  by_cases a1 : 256 < u.next.length
  · have e : Hid (avalid u = 4) := Lib.hid (by unfold avalid; rw [if_pos (.inl a1)])
    have a1' : (256 : Int) < u.next.length := by omega
    clear hb
    go_enter Try.func14, Try.ntmps14
    go_wp2_with fail
    go_ret
    exact ⟨ret_err e.out.symm, (Below.refl _ _).alloc (Nat.le_refl _) _⟩
  have a1' : (u.next.length : Int) ≤ 256 := by omega
  by_cases a2 : 256 < u.accept.length
  · have e : Hid (avalid u = 4) := Lib.hid (by unfold avalid; rw [if_pos (.inr a2)])
    have a2' : (256 : Int) < u.accept.length := by omega
    clear hb
    go_enter Try.func14, Try.ntmps14
    go_wp2_with fail
    go_ret
    exact ⟨ret_err e.out.symm, (Below.refl _ _).alloc (Nat.le_refl _) _⟩
  have a2' : (u.accept.length : Int) ≤ 256 := by omega
  have e : Hid (avalid u = 1) := Lib.hid (by
    unfold avalid
    rw [if_neg (by omega)]
    by_cases hx : CutsOK u.cuts ∧ RowsOK u
    · rw [if_pos (by omega)]
    · rw [if_neg hx]; split <;> rfl)
  by_cases a3 : u.next.length = 0
  · have a3' : ((u.next.length : Int) == 0) = true := by simp [a3]
    clear hb
    go_enter Try.func14, Try.ntmps14
    go_wp2_with fail
    go_ret
    exact ⟨ret_err e.out.symm, (Below.refl _ _).alloc (Nat.le_refl _) _⟩
  have a3' := eq0_f (Nat.pos_of_ne_zero a3)
  by_cases a4 : u.accept.length ≠ u.next.length
  · have a4' := ne_nat a4
    clear hb
    go_enter Try.func14, Try.ntmps14
    go_wp2_with fail
    go_ret
    exact ⟨ret_err e.out.symm, (Below.refl _ _).alloc (Nat.le_refl _) _⟩
  have a4' := ne_nat_f (Decidable.not_not.1 a4)
  by_cases a5 : u.cuts.length = 0
  · have a5' : ((u.cuts.length : Int) == 0) = true := by simp [a5]
    clear hb
    go_enter Try.func14, Try.ntmps14
    go_wp2_with fail
    go_ret
    exact ⟨ret_err e.out.symm, (Below.refl _ _).alloc (Nat.le_refl _) _⟩
  have a5' := eq0_f (Nat.pos_of_ne_zero a5)
  have a6 : u.cuts.getD 0 0 ≠ 0 := by omega
  obtain ⟨b, o, hca, hA, hb', hc⟩ := (HC.out.ext (Ext.alloc w (.cells #[.slice p.ca u.cuts.length p.cc, .slice p.na u.next.length p.nc, .slice p.aa u.accept.length p.ac] 26)).1).at (i := 0) (by simp; omega)
  obtain ⟨c0, hc0⟩ : ∃ c0, u.cuts[0]? = some c0 := ⟨_, List.getElem?_eq_getElem (by omega)⟩
  have hce : (ints u.cuts)[0]'(by simp; omega) = .int .i64 c0 := by
    have := List.getElem?_eq_some_iff.1 hc0
    obtain ⟨h0, h1⟩ := this
    simp [h1]
  rw [hce, Nat.add_zero] at hc
  have hne : c0 ≠ 0 := by simpa [List.getD, hc0] using a6
  have hne' := ine_t hne
  have hpos : (0 : Int) < u.cuts.length := by omega
  rw [hca] at hc ⊢
  clear hb a6 hc0 hce hca hne
  go_enter Try.func14, Try.ntmps14
  go_wp2_with fail
  go_ret
  exact ⟨ret_err e.out.symm, (Below.refl _ _).alloc (Nat.le_refl _) _⟩

set_option maxRecDepth 100000 in
set_option maxHeartbeats 3200000 in
theorem aValid_late (u : Au) (w : World) (A : Nat → Prop) (p : APl) (h : AuRep w A u p) (h1 : 0 < u.next.length ∧ u.next.length ≤ 256) (h2 : u.accept.length = u.next.length) (h3 : 0 < u.cuts.length) (h4 : u.cuts.getD 0 0 = 0) :
    Calls Try.prog 14 #[auv u p] w fun e w' => e = .returned (.int .i64 (avalid u)) ∧ Below w.heap.size w w' := by
  have l1 := h.next.bd
  have l2 := h.accept.bd
  have l3 := h.cuts.bd
  simp only [List.length_map] at l1 l2 l3
  have hav : avalid u = if CutsOK u.cuts ∧ RowsOK u then 0 else 1 := by
    unfold avalid; rw [if_neg (by omega), if_neg (by rw [h4]; omega)]
  have HAV := Lib.hid hav
  have a1' : (u.next.length : Int) ≤ 256 := by omega
  have a2' : (u.accept.length : Int) ≤ 256 := by omega
  have a3' := eq0_f h1.1
  have a4' := ne_nat_f h2
  have a5' := eq0_f h3
  obtain ⟨b, o, hca, hA, hb', hcc⟩ := h.cuts.ho (by simpa using h3)
  obtain ⟨ca, cc, na, nc, aa, ac⟩ := p
  simp only at hca
  subst hca
  have hcut : ∀ i, i < u.cuts.length → w.cell? ⟨b, o + i, none⟩ = some (.int .i64 (u.cuts.getD i 0)) := fun i hi => by
    rw [hcc i (.int .i64 (u.cuts.getD i 0)) (by simp [List.getD, List.getElem?_eq_getElem hi])]
  have hc0 : w.cell? ⟨b, o, none⟩ = some (.int .i64 0) := by have := hcut 0 h3; rwa [h4] at this
  have HCUT := Lib.hid hcut
  have HN := Lib.hid h.next
  have h2n := Lib.hid h2
  have h4n := Lib.hid h4
  have hE0 := Ext.alloc w (.cells #[.slice (some ⟨b, o, none⟩) u.cuts.length cc, .slice na u.next.length nc, .slice aa u.accept.length ac] 26)
  have HE0 := Lib.hid hE0
  clear h hav hcc h2 h4 hcut hE0
  have hpos : (0 : Int) < u.cuts.length := by omega
  simp only [auv]
  go_enter Try.func14, Try.ntmps14
  go_wp2_with fail
  go_loopw [4] (fun iv wr => ∃ j : Nat, iv = .int .i64 j ∧ 1 ≤ j ∧ j ≤ u.cuts.length ∧ Hid (∀ i, 0 < i → i < j → u.cuts.getD (i - 1) 0 < u.cuts.getD i 0 ∧ u.cuts.getD i 0 ≤ 255) ∧ Hid (Below (w.heap.size + 1) (w.alloc (.cells #[.slice (some ⟨b, o, none⟩) u.cuts.length cc, .slice na u.next.length nc, .slice aa u.accept.length ac] 26)) wr))
    (fun iv _ => u.cuts.length - (intOf iv).toNat)
  case atStart => exact ⟨1, by simp, Nat.le_refl _, h3, Lib.hid (by intro i h0 h1; omega), Lib.hid (Below.refl _ _)⟩
  case round =>
    obtain ⟨j, rfl, hj1, hj, HG, HB⟩ := hrel
    obtain ⟨b0, b1, b2⟩ := box3 HB.out
    by_cases hlt : j < u.cuts.length
    · have x0 : wr.cell? ⟨b, o + (j - 1), none⟩ = some (.int .i64 (u.cuts.getD (j - 1) 0)) := below_cell HB.out (by simp; omega) (by have := HCUT.out (j - 1) (by omega); go_side)
      have x1 : wr.cell? ⟨b, o + j, none⟩ = some (.int .i64 (u.cuts.getD j 0)) := below_cell HB.out (by simp; omega) (by have := HCUT.out j hlt; go_side)
      generalize hp0 : u.cuts.getD (j - 1) 0 = c0 at *
      generalize hp1 : u.cuts.getD j 0 = c1 at *
      have HP0 := Lib.hid hp0
      have HP1 := Lib.hid hp1
      clear hp0 hp1
      have i1 : IntKind.i64.wrap ((j : Int) - 1) = (j : Int) - 1 := IntWalk.i64_in _ (by omega)
      have i2 : (0 : Int) ≤ (j : Int) - 1 := by omega
      have i3 : ((j : Int) - 1).toNat = j - 1 := by omega
      have i4 : (j : Int) - 1 < u.cuts.length := by omega
      have i5 : (j : Int) < u.cuts.length := by omega
      by_cases hbad : c1 ≤ c0
      · go_wp2_with fail
        go_quiet (fail)
        go_wp2_with fail
        go_ret
        have hno : ¬ CutsOK u.cuts := fun h => by have := (h j hlt (by omega)).1; rw [HP0.out, HP1.out] at this; omega
        exact ⟨ret_err (by rw [HAV.out, if_neg (fun h => hno h.1)]), ext_alloc (below_drewN HB.out _)⟩
      · have hgood : c0 < c1 := by omega
        have hgd : decide (c1 ≤ c0) = false := by simp; omega
        by_cases h255 : 255 < c1
        · go_wp2_with fail
          go_quiet (fail)
          go_wp2_with fail
          go_ret
          have hno : ¬ CutsOK u.cuts := fun h => by have := (h j hlt (by omega)).2; rw [HP1.out] at this; omega
          exact ⟨ret_err (by rw [HAV.out, if_neg (fun h => hno h.1)]), ext_alloc (below_drewN HB.out _)⟩
        · have h255' : c1 ≤ 255 := by omega
          have h255d : decide (255 < c1) = false := by simp; omega
          go_wp2_with fail
          go_quiet (fail)
          go_wp2_with fail
          go_roundw
          case rel => exact ⟨j + 1, by simp, by omega, by omega, Lib.hid (by
            intro i h0 h1
            by_cases e : i = j
            · subst e; rw [HP0.out, HP1.out]; omega
            · exact HG.out i h0 (by omega)), Lib.hid (below_drewN HB.out _)⟩
          case measure => simp [intOf]; omega
    · have he : j = u.cuts.length := by omega
      have hcok : CutsOK u.cuts := fun i hi h0 => HG.out i h0 (by omega)
      have HCK := Lib.hid hcok
      subst he
      clear hcok hlt
      go_wp2_with fail
      obtain ⟨wo, rfl⟩ : ∃ wo : World, wo = wr := ⟨_, rfl⟩
      go_loopw [72] (fun sv wr => ∃ s : Nat, sv = .int .i64 s ∧ s ≤ u.next.length ∧ Hid (∀ i r, i < s → u.next[i]? = some r → RowOK u r) ∧ Hid (Below (w.heap.size + 1) (w.alloc (.cells #[.slice (some ⟨b, o, none⟩) u.cuts.length cc, .slice na u.next.length nc, .slice aa u.accept.length ac] 26)) wr))
        (fun sv _ => u.next.length - (intOf sv).toNat)
      case atStart => exact ⟨0, by simp, Nat.zero_le _, Lib.hid (by intro i r h0; omega), Lib.hid HB.out⟩
      case round =>
        clear b0 b1 b2 HB HG
        obtain ⟨s, rfl, hs, HG, HB⟩ := hrel
        obtain ⟨b0, b1, b2⟩ := box3 HB.out
        by_cases hlt : s < u.next.length
        · obtain ⟨bn, on, ra, rc, hna, hAn, hbn, hcell, hrow⟩ := (HN.out.ext (ext_alloc HB.out)).at (i := s) (by simpa using hlt)
          subst hna
          obtain ⟨row, hrw⟩ : ∃ row, u.next[s]? = some row := ⟨_, List.getElem?_eq_getElem hlt⟩
          have hre : (u.next.map ints)[s]'(by simpa using hlt) = ints row := by
            obtain ⟨h0, e⟩ := List.getElem?_eq_some_iff.1 hrw
            simp [e]
          rw [hre] at hcell hrow
          simp only [List.length_map] at hcell
          have l4 := hrow.bd
          simp only [List.length_map] at l4
          have HRW := Lib.hid hrw
          have HROW := Lib.hid hrow
          clear hrw hre hrow
          by_cases hlen : row.length ≠ u.cuts.length
          · have hlen' := ne_nat hlen
            go_wp2_with fail
            go_ret
            have hno : ¬ RowsOK u := fun h => hlen (h row (List.mem_of_getElem? HRW.out)).1
            exact ⟨ret_err (by rw [HAV.out, if_neg (fun h => hno h.2)]), ext_alloc HB.out⟩
          · have hlen' := ne_nat_f (Decidable.not_not.1 hlen)
            have HLEN := Lib.hid (Decidable.not_not.1 hlen)
            clear hlen
            go_wp2_with fail
            obtain ⟨wo2, rfl⟩ : ∃ wo2 : World, wo2 = wr := ⟨_, rfl⟩
            go_loopw [84] (fun kv wr => ∃ k : Nat, kv = .int .i64 k ∧ k ≤ row.length ∧ Hid (∀ i x, i < k → row[i]? = some x → 0 ≤ x ∧ x < (u.next.length : Int)) ∧ wr = wo2) (fun kv _ => row.length - (intOf kv).toNat)
            case atStart => exact ⟨0, by simp, Nat.zero_le _, Lib.hid (by intro i r h0; omega), rfl⟩
            case round =>
              obtain ⟨k, rfl, hk, HGK, rfl⟩ := hrel
              by_cases hkl : k < row.length
              · obtain ⟨br, or, hra, hAr, hbr, hx⟩ := HROW.out.at (i := k) (by simpa using hkl)
                subst hra
                have hxe : (ints row)[k]'(by simpa using hkl) = .int .i64 row[k] := by simp
                rw [hxe] at hx
                generalize hX : row[k] = x at *
                have HX := Lib.hid hX
                clear hX hxe
                by_cases hbad : x < 0 ∨ (u.next.length : Int) ≤ x
                · have hno : ¬ RowsOK u := fun h => by
                    have := (h row (List.mem_of_getElem? HRW.out)).2 x (by rw [← HX.out]; exact List.getElem_mem hkl)
                    omega
                  have HNO := Lib.hid hno
                  clear hno
                  by_cases h0 : x < 0
                  all_goals
                    go_wp2_with fail
                    go_ret
                    exact ⟨ret_err (by rw [HAV.out, if_neg (fun h => HNO.out h.2)]), ext_alloc HB.out⟩
                · have h0 : 0 ≤ x := by omega
                  have h1' : x < (u.next.length : Int) := by omega
                  go_wp2_with fail
                  go_roundw
                  case rel => exact ⟨k + 1, by simp, by omega, Lib.hid (by
                    intro i y hi hy
                    by_cases e : i = k
                    · subst e
                      rw [List.getElem?_eq_getElem hkl, HX.out] at hy
                      cases hy
                      exact ⟨h0, h1'⟩
                    · exact HGK.out i y (by omega) hy), by first | rfl | trivial⟩
                  case measure => simp [intOf]; omega
              · have he : k = row.length := by omega
                subst he
                go_wp2_with fail
                go_roundw
                case rel => exact ⟨s + 1, by simp, by omega, Lib.hid (by
                  intro i r hi hr
                  by_cases e : i = s
                  · subst e
                    rw [HRW.out] at hr
                    cases hr
                    refine ⟨HLEN.out, fun x hx => ?_⟩
                    obtain ⟨q, hq⟩ := List.getElem?_of_mem hx
                    exact HGK.out q x (List.getElem?_eq_some_iff.1 hq).1 hq
                  · exact HG.out i r (by omega) hr), Lib.hid HB.out⟩
                case measure => simp [intOf]; omega
        · have he : s = u.next.length := by omega
          subst he
          have hrok : RowsOK u := fun r hr => by
            obtain ⟨q, hq⟩ := List.getElem?_of_mem hr
            exact HG.out q r (List.getElem?_eq_some_iff.1 hq).1 hq
          have HRK := Lib.hid hrok
          clear hrok
          go_wp2_with fail
          go_ret
          exact ⟨ret_err (by rw [HAV.out, if_pos ⟨HCK.out, HRK.out⟩]), ext_alloc HB.out⟩

theorem aValid_any (u : Au) (w : World) (A : Nat → Prop) (p : APl) (h : AuRep w A u p) :
    Calls Try.prog 14 #[auv u p] w fun e w' => e = .returned (.int .i64 (avalid u)) ∧ Below w.heap.size w w' := by
  by_cases hb : 256 < u.next.length ∨ 256 < u.accept.length ∨ u.next.length = 0 ∨ u.accept.length ≠ u.next.length ∨ u.cuts.length = 0 ∨ u.cuts.getD 0 0 ≠ 0
  · exact aValid_early u w A p h hb
  · refine aValid_late u w A p h ?_ ?_ ?_ ?_
    · omega
    · by_cases e : u.accept.length = u.next.length
      · exact e
      · exact absurd (by omega) hb
    · omega
    · by_cases e : u.cuts.getD 0 0 = 0
      · exact e
      · exact absurd (.inr (.inr (.inr (.inr (.inr e))))) hb
end Go.Proofs.Ytbepohpppailnaa
