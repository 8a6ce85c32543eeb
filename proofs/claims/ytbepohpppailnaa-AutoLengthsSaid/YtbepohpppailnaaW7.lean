/- Walks: DeleteFunc at expressions, flat. -/
import Derived.Test.YtbepohpppailnaaW6
import Derived.Test.YtbepohpppailnaaBP
set_option linter.unusedSimpArgs false
set_option linter.unusedVariables false
namespace Go.Proofs.Ytbepohpppailnaa
open Go.RowKit

theorem fidx_neg {α : Type} (p : α → Bool) (l : List α) (h : fidx p l = -1) : ∀ x ∈ l, p x = false := by
  have h1 := fidx_any p l
  rw [h] at h1
  intro x hx
  have : l.any p = false := by rw [← h1]; rfl
  rw [List.any_eq_false] at this
  simpa using this x hx
theorem fidx_some {α : Type} (p : α → Bool) (l : List α) (h : fidx p l ≠ -1) : ∃ i : Nat, i < l.length ∧ fidx p l = i ∧ (∀ x ∈ l.take i, p x = false) ∧ (∀ x, l[i]? = some x → p x = true) := by
  unfold fidx at *
  cases hf : l.findIdx? p with
  | none => rw [hf] at h; exact absurd rfl h
  | some i =>
    rw [List.findIdx?_eq_some_iff_getElem] at hf
    obtain ⟨hi, hp, hn⟩ := hf
    refine ⟨i, hi, rfl, fun x hx => ?_, fun x hx => ?_⟩
    · obtain ⟨j, hj, rfl⟩ := List.mem_take_iff_getElem.1 hx
      have := hn j (by omega)
      simpa using this
    · rw [List.getElem?_eq_getElem hi] at hx
      cases hx
      exact hp

/-- what a row holds while elements are deleted: i kept ones ahead, from j on as it was -/
structure DelAt (p : Rx → Bool) (l m : List Pl) (i j : Nat) : Prop where
  len : m.length = l.length
  le : i ≤ j
  kept : m.take i = (l.take j).filter fun q => !p q.r
  rest : ∀ t, j ≤ t → m[t]? = l[t]?

theorem DelAt.start (p : Rx → Bool) (l : List Pl) (i : Nat) (hi : i < l.length) (h1 : ∀ x ∈ (l.map Pl.r).take i, p x = false) (h2 : ∀ x, (l.map Pl.r)[i]? = some x → p x = true) : DelAt p l l i (i + 1) := by
  refine ⟨rfl, by omega, ?_, fun t _ => rfl⟩
  rw [List.take_add_one, List.filter_append]
  have e1 : (l.take i).filter (fun q => !p q.r) = l.take i := by
    rw [List.filter_eq_self]
    intro q hq
    have := h1 q.r (by rw [← List.map_take]; exact List.mem_map_of_mem hq)
    simp [this]
  have e2 : (l[i]?).toList.filter (fun q => !p q.r) = [] := by
    rw [List.getElem?_eq_getElem hi]
    have := h2 l[i].r (by rw [List.getElem?_map, List.getElem?_eq_getElem hi]; rfl)
    simp [this]
  rw [e1, e2, List.append_nil]
theorem DelAt.skip {p : Rx → Bool} {l m : List Pl} {i j : Nat} (h : DelAt p l m i j) (x : Pl) (hx : m[j]? = some x) (hp : p x.r = true) : DelAt p l m i (j + 1) := by
  have hlx : l[j]? = some x := by rw [← h.rest j (Nat.le_refl _)]; exact hx
  refine ⟨h.len, by have := h.le; omega, ?_, fun t ht => h.rest t (by omega)⟩
  rw [h.kept, List.take_add_one, hlx, List.filter_append]
  simp [hp]
theorem DelAt.keep {p : Rx → Bool} {l m : List Pl} {i j : Nat} (h : DelAt p l m i j) (x : Pl) (hx : m[j]? = some x) (hp : p x.r = false) : DelAt p l (m.set i x) (i + 1) (j + 1) := by
  have hlx : l[j]? = some x := by rw [← h.rest j (Nat.le_refl _)]; exact hx
  have hj := (List.getElem?_eq_some_iff.1 hx).1
  have hle := h.le
  refine ⟨by simp [h.len], by omega, ?_, fun t ht => ?_⟩
  · rw [List.take_add_one, List.take_set_of_le (Nat.le_refl _), h.kept, List.take_add_one, hlx, List.filter_append]
    have : (m.set i x)[i]? = some x := by rw [List.getElem?_set]; simp; omega
    rw [this]
    simp [hp]
  · rw [List.getElem?_set_ne (by omega)]
    exact h.rest t (by omega)
theorem DelAt.fin {p : Rx → Bool} {l m : List Pl} {i j : Nat} (h : DelAt p l m i j) (hj : l.length ≤ j) : m.take i = l.filter fun q => !p q.r := by
  rw [h.kept, List.take_of_length_le hj]

set_option maxHeartbeats 1600000 in
theorem deleteFunc_any (l : List Pl) (g : Nat) (lb : Array Value) (eg : ∀ args w, (callFunc g args).run Try.prog w = .ok (.enter g args) w) (p : Rx → Bool) (w : World) (A : Nat → Prop) (base : Nat) (a : Option Addr) (cap : Nat)
    (hown : OwnRx w A base 54 (.slice a l.length cap) l) (hA : ∀ b, base ≤ b → ¬ A b) (hbase : base ≤ w.heap.size) (hp : PredC g lb (fun _ => True) p w base) :
    Calls Try.prog 64 #[.slice a l.length cap, .func (.func g) #[] lb] w fun e w' =>
      e = .returned (.slice a (l.filter fun q => !p q.r).length cap) ∧ OwnRx w' A base 54 (.slice a (l.filter fun q => !p q.r).length cap) (l.filter fun q => !p q.r) ∧ Below base w w' := by
  have hrep := hown.rep hA
  have hbd := hrep.bd
  simp only [List.length_map] at hbd
  have H1 := Lib.hid hrep
  have HP := Lib.hid hp
  have HO := Lib.hid hown
  have HIDX := Lib.hid (indexFunc_any (l.map Pl.r) g lb eg p w A a cap _ _ base hbase hrep (fun W B x a c hW _ hx => hp W B x a c hW trivial hx))
  simp only [List.length_map] at HIDX
  clear hrep hp hown
  by_cases hneg : fidx p (l.map Pl.r) = -1
  · have hall := fidx_neg p _ hneg
    have hfil : (l.filter fun q => !p q.r) = l := by
      rw [List.filter_eq_self]
      intro q hq
      have := hall q.r (List.mem_map_of_mem hq)
      simp [this]
    rw [hfil]
    rw [hneg] at HIDX
    clear hneg hall hfil
    go_enter Try.func64, Try.ntmps64
    go_wp2_with fail
    refine HIDX.out.mono ?_
    rintro e w1 ⟨rfl, hE⟩
    have HE := Lib.hid hE
    clear hE
    go_wp2_with fail
    go_ret
    exact ⟨rfl, HO.out.ext HE.out.1, HE.out.1.mono hbase⟩
  · obtain ⟨i0, hi0, hfi, htk, hat⟩ := fidx_some p _ hneg
    rw [hfi] at HIDX
    rw [List.length_map] at hi0
    have HD0 := Lib.hid (DelAt.start p l i0 hi0 htk hat)
    clear hneg hfi htk hat
    obtain ⟨gb, o, ha, hg, _⟩ : ∃ gb o, a = some ⟨gb, o, none⟩ ∧ o = 0 ∧ True := by
      rcases HO.out.1.2 with ⟨hv, h0⟩ | ⟨gb, cap', cur, hv, _⟩
      · omega
      · cases hv; exact ⟨gb, 0, rfl, rfl, trivial⟩
    subst ha hg
    have hneq : ((i0 : Int) == -1) = false := ieq_f (by omega)
    go_enter Try.func64, Try.ntmps64
    go_wp2_with fail
    refine HIDX.out.mono ?_
    rintro e w1 ⟨rfl, hE⟩
    have HE := Lib.hid hE
    clear hE HIDX
    go_wp2_with fail
    go_loopw [5, 6] (fun iv jv wr => ∃ (i j : Nat) (m : List Pl), i < j ∧ j ≤ l.length ∧ iv = .int .i64 i ∧ jv = .int .i64 j ∧ Hid (DelAt p l m i j) ∧ Hid (OwnRx wr A base 54 (.slice (some ⟨gb, 0, none⟩) l.length cap) m) ∧ Hid (Below base w wr) ∧ base ≤ wr.heap.size)
      (fun _ j _ => l.length - (intOf j).toNat)
    case atStart => exact ⟨i0, i0 + 1, l, by omega, by omega, rfl, by go_num, HD0, Lib.hid (HO.out.ext HE.out.1), Lib.hid (HE.out.1.mono hbase), by have := HE.out.1.size; omega⟩
    case round =>
      obtain ⟨i, j, m, hij, hjl, rfl, rfl, HD, HM, HB, hbs⟩ := hrel
      have hml := HD.out.len
      by_cases hlt : j < l.length
      · obtain ⟨q, hq⟩ : ∃ q, m[j]? = some q := ⟨m[j], List.getElem?_eq_getElem (by omega)⟩
        obtain ⟨⟨g0, g1, g2, g3⟩, _⟩ := HM.out.cells j q hq
        obtain ⟨q', hq'⟩ : ∃ q', m[i]? = some q' := ⟨m[i], List.getElem?_eq_getElem (by omega)⟩
        obtain ⟨⟨d0, d1, d2, d3⟩, f0, f1, f2, f3⟩ := HM.out.cells i q' hq'
        have hqr := HM.out.2 q (List.mem_of_getElem? hq)
        have hgb := (HM.out.1.lt gb rfl).2
        have hE2 := Ext.alloc wr (.cells #[.int .i64 q.r.k, .int .u8 q.r.lo, .int .u8 q.r.hi, .slice q.a q.r.ks.length q.c] 54)
        have HCALL := Lib.hid (HP.out _ _ q.r q.a q.c (HB.out.trans (hE2.1.mono hbs)) trivial (hqr.ext hE2.1))
        have HQ := Lib.hid hq
        have HQR := Lib.hid hqr
        have HE2 := Lib.hid hE2
        clear hq hqr hE2 hq'
        cases hpq : p q.r with
        | true =>
          rw [hpq] at HCALL
          have HPQ := Lib.hid hpq
          clear hpq
          go_wp2_with fail
          refine HCALL.out.mono ?_
          rintro e w2 ⟨rfl, hE3⟩
          have HE3 := Lib.hid (HE2.out.trans hE3)
          clear hE3
          go_wp2_with fail
          go_roundw
          case rel => exact ⟨i, j + 1, m, by omega, by omega, rfl, by go_num, Lib.hid (HD.out.skip q HQ.out HPQ.out), Lib.hid (HM.out.ext HE3.out.1), Lib.hid (HB.out.trans (HE3.out.1.mono hbs)), by have := HE3.out.1.size; omega⟩
          case measure => simp [intOf]; omega
        | false =>
          rw [hpq] at HCALL
          have HPQ := Lib.hid hpq
          clear hpq
          go_wp2_with fail
          refine HCALL.out.mono ?_
          rintro e w2 ⟨rfl, hE3⟩
          obtain ⟨x0, x1, x2, x3⟩ := hE3.box4
          have hE4 := HE2.out.trans hE3
          have k0 := hE4.cell d0
          have k1 := hE4.cell d1
          have k2 := hE4.cell d2
          have k3 := hE4.cell d3
          have e0 := below_free hE4.1 hgb f0
          have e1 := below_free hE4.1 hgb f1
          have e2 := below_free hE4.1 hgb f2
          have e3 := below_free hE4.1 hgb f3
          have HE4 := Lib.hid hE4
          have hst := (HM.out.ext hE4.1).stored (by omega) i (by omega) q ((HQR.out.ext hE4.1).avoid (fun b _ hh => hh.imp id (fun e => by simpa [Value.ownBlock] using e)))
          have hsz := hE4.1.size
          have HST := Lib.hid hst
          clear hE3 hE4 hst d0 d1 d2 d3 f0 f1 f2 f3 g0 g1 g2 g3
          go_wp2_with fail
          go_roundw
          case rel => exact ⟨i + 1, j + 1, m.set i q, by omega, by omega, by go_num, by go_num, Lib.hid (HD.out.keep q HQ.out HPQ.out), Lib.hid HST.out.1, Lib.hid ((HB.out.trans (HE4.out.1.mono hbs)).trans HST.out.2), Nat.le_trans (by omega) HST.out.2.size⟩
          case measure => simp [intOf]; omega
      · have hfin := HD.out.fin (by omega)
        have hlen2 : (l.filter fun q => !p q.r).length = i := by rw [← hfin]; simp; omega
        have HF := Lib.hid hfin
        have HL := Lib.hid hlen2
        obtain ⟨w2, hcl, hown2, hb2⟩ := run_clear_rx (P := Try.prog) 52 0 54 tabR A base gb l.length cap m HM.out (by omega) i (by omega) (some ⟨gb, i * 4, none⟩) (cap - i) (fun _ => rfl)
        have HOWN2 := Lib.hid hown2
        have HB2 := Lib.hid (HB.out.trans hb2)
        rw [hml] at hcl
        have hic : ¬ i = cap := by omega
        clear hown2 hb2 hfin hlen2
        go_wp2_with fail
        go_ret
        refine ⟨by rw [HL.out]; rfl, ?_, HB2.out⟩
        rw [HL.out, ← HF.out]
        exact HOWN2.out

theorem enters_flat1 : ∀ args w, (callFunc 65 args).run Try.prog w = .ok (.enter 65 args) w := by
  intro args w
  go_simp

/-- the closure that asks whether an expression is the captured one -/
theorem flat1_any (bu : Nat) (u : Rx) (au : Option Addr) (cu : Nat) (w : World) (base : Nat) (hu : rxAt w bu 0 u au cu) (hur : RxRep w (fun b => base ≤ b) u au cu) (hbu : bu < base) :
    PredC 65 #[.pointer (some ⟨bu, 0, none⟩)] (fun _ => True) (fun x => rcmp x u == 0) w base := by
  intro W A x a c hW _ hx
  have hu' := rxAt_keep hu (hW.block bu hbu)
  have hur' := hur.keep (fun b hb hn => hW.block b (by omega))
  have hbs : bu < W.heap.size := rxAt_lt hu'
  obtain ⟨u0, u1, u2, u3⟩ := hu'
  simp only [Nat.zero_add] at u1 u2 u3
  have hE0 := Ext.alloc W (.cells #[.int .i64 x.k, .int .u8 x.lo, .int .u8 x.hi, .slice a x.ks.length c] 54)
  have HE0 := Lib.hid hE0
  have H1 := Lib.hid (hx.ext hE0.1)
  have H2 := Lib.hid (hur'.ext hE0.1)
  clear hx hur' hur hu hE0 hW
  simp only [rxv]
  show Calls Try.prog 65 #[.agg #[.int .i64 x.k, .int .u8 x.lo, .int .u8 x.hi, .slice a x.ks.length c], .pointer (some ⟨bu, 0, none⟩)] W _
  go_enter Try.func65, Try.ntmps65
  go_wp2_with fail
  refine (equal_any x u _ A (fun b => base ≤ b) a au c cu H1.out H2.out).mono ?_
  rintro e w' ⟨rfl, hE⟩
  have HE := Lib.hid (HE0.out.trans hE)
  clear hE
  go_wp2_with fail
  go_ret
  exact ⟨rfl, HE.out⟩
end Go.Proofs.Ytbepohpppailnaa
