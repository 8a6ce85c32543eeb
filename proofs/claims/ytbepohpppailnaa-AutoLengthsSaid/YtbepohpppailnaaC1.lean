/- Walks: Left's closure, IndexFunc and ContainsFunc over it. -/
import Derived.Test.YtbepohpppailnaaC0
set_option linter.unusedSimpArgs false
set_option linter.unusedVariables false
namespace Go.Proofs.Ytbepohpppailnaa
open Go.RowKit
attribute [local go_sem ↓] Go.wp_at_zero Go.wp_at_succ

theorem boos_cell {w : World} {A : Nat → Prop} {b : List Bool} {a : Option Addr} {c : Nat} (h : SlRep w A (boos b) a c) {i : Nat} (hi : i < b.length) : ∃ g o, a = some ⟨g, o, none⟩ ∧ g < w.heap.size ∧ w.cell? ⟨g, o + i, none⟩ = some (.bool (bget b i)) := by
  obtain ⟨g, o, e, _, hg, hc⟩ := h.at (i := i) (by simpa using hi)
  refine ⟨g, o, e, hg, ?_⟩
  rw [hc]
  simp [bget, List.getD, List.getElem?_eq_getElem hi]
theorem ints_cell {w : World} {A : Nat → Prop} {l : List Int} {a : Option Addr} {c : Nat} (h : SlRep w A (ints l) a c) {i : Nat} (hi : i < l.length) : ∃ g o, a = some ⟨g, o, none⟩ ∧ g < w.heap.size ∧ w.cell? ⟨g, o + i, none⟩ = some (.int .i64 (iget l i)) := by
  obtain ⟨g, o, e, _, hg, hc⟩ := h.at (i := i) (by simpa using hi)
  refine ⟨g, o, e, hg, ?_⟩
  rw [hc]
  simp [iget, List.getD, List.getElem?_eq_getElem hi]
theorem Left1_any (b : List Bool) (t : Int) (h0 : 0 ≤ t) (h1 : t < b.length) (w : World) (A : Nat → Prop) (pb : Nat) (a : Option Addr) (c : Nat) (hcell : w.cell? ⟨pb, 0, none⟩ = some (.slice a b.length c)) (hb : SlRep w A (boos b) a c) :
    Calls Try.prog 18 #[.int .i64 t, .pointer (some ⟨pb, 0, none⟩)] w fun e w' => e = .returned (.bool (bget b t.toNat)) ∧ w = w' := by
  obtain ⟨g, o, rfl, hg, hc⟩ := boos_cell hb (i := t.toNat) (by omega)
  have hl := hb.bd
  simp only [List.length_map] at hl
  clear hb
  go_enter Try.func18, Try.ntmps18
  go_wp2_with fail
  go_ret
  exact ⟨rfl, rfl⟩
set_option maxRecDepth 100000 in
theorem idxInts_any (b : List Bool) (l : List Int) (hl : ∀ t ∈ l, 0 ≤ t ∧ t < (b.length : Int)) (w : World) (A A' : Nat → Prop) (pb : Nat) (a : Option Addr) (c : Nat) (hcell : w.cell? ⟨pb, 0, none⟩ = some (.slice a b.length c)) (hb : SlRep w A (boos b) a c) (la : Option Addr) (lc : Nat) (hla : SlRep w A' (ints l) la lc) :
    Calls Try.prog 24 #[.slice la l.length lc, .func (.func 18) #[] #[.pointer (some ⟨pb, 0, none⟩)]] w fun e w' => e = .returned (.int .i64 (fidx (fun t => bget b t.toNat) l)) ∧ w = w' := by
  have hlb := hla.bd
  simp only [List.length_map] at hlb
  have HC := Lib.hid (fun t h0 h1 => Left1_any b t h0 h1 w A pb a c hcell hb)
  have HL := Lib.hid hl
  have HA := Lib.hid hla
  clear hl hb hla hcell
  go_enter Try.func24, Try.ntmps24
  go_wp2_with fail
  go_loopw [8] (fun iv wr => ∃ (i : Nat), i ≤ l.length ∧ iv = .int .i64 i ∧ Hid (∀ (j : Nat) (y : Int), j < i → l[j]? = some y → bget b y.toNat = false) ∧ wr = w)
    (fun i _ => l.length - (intOf i).toNat)
  case atStart => exact ⟨0, Nat.zero_le _, by simp, Lib.hid (by intro j y hj; omega), rfl⟩
  case round =>
    obtain ⟨i, hi, rfl, HJ, rfl⟩ := hrel
    by_cases hlt : i < l.length
    · obtain ⟨g, o, rfl, hg, hc⟩ := ints_cell HA.out hlt
      have hget := iget_get hlt
      generalize hx : iget l i = x at *
      have hr := HL.out x (List.mem_of_getElem? hget)
      have HCALL := Lib.hid (HC.out x hr.1 hr.2)
      have HX := Lib.hid hget
      clear hx hget
      cases hq : bget b x.toNat with
      | true =>
        have HQ := Lib.hid hq
        rw [hq] at HCALL
        clear hq
        go_wp2_with fail
        refine HCALL.out.mono ?_
        rintro e w' ⟨rfl, rfl⟩
        go_wp2_with fail
        go_ret
        exact ⟨ret_i64 (fidx_hit _ l i x HX.out HQ.out (fun j y h1 h2 => HJ.out j y h1 h2)).symm, rfl⟩
      | false =>
        have HQ := Lib.hid hq
        rw [hq] at HCALL
        clear hq
        go_wp2_with fail
        refine HCALL.out.mono ?_
        rintro e w' ⟨rfl, rfl⟩
        go_wp2_with fail
        go_roundw
        case rel =>
          refine ⟨i + 1, by omega, by go_num, Lib.hid (fun j y hj hy => ?_), by first | rfl | trivial⟩
          by_cases hji : j = i
          · subst hji
            have := HX.out
            rw [hy] at this
            cases this
            exact HQ.out
          · exact HJ.out j y (by omega) hy
        case measure => simp [intOf]; omega
    · go_wp2_with fail
      go_ret
      exact ⟨ret_i64 (fidx_miss _ l (fun j y hy => HJ.out j y (by have := (List.getElem?_eq_some_iff.1 hy).1; omega) hy)).symm, rfl⟩
theorem anyInts_any (b : List Bool) (l : List Int) (hl : ∀ t ∈ l, 0 ≤ t ∧ t < (b.length : Int)) (w : World) (A A' : Nat → Prop) (pb : Nat) (a : Option Addr) (c : Nat) (hcell : w.cell? ⟨pb, 0, none⟩ = some (.slice a b.length c)) (hb : SlRep w A (boos b) a c) (la : Option Addr) (lc : Nat) (hla : SlRep w A' (ints l) la lc) :
    Calls Try.prog 17 #[.slice la l.length lc, .func (.func 18) #[] #[.pointer (some ⟨pb, 0, none⟩)]] w fun e w' => e = .returned (.bool (l.any fun t => bget b t.toNat)) ∧ w = w' := by
  have H := Lib.hid (idxInts_any b l hl w A A' pb a c hcell hb la lc hla)
  clear hl hcell hb hla
  rw [← fidx_any]
  go_enter Try.func17, Try.ntmps17
  go_wp2_with fail
  refine H.out.mono ?_
  rintro e w' ⟨rfl, rfl⟩
  go_wp2_with fail
  go_ret
  exact ⟨rfl, rfl⟩
end Go.Proofs.Ytbepohpppailnaa
