/- Walks: cutsOf. -/
import Derived.Test.YtbepohpppailnaaAP
set_option linter.unusedSimpArgs false
set_option linter.unusedVariables false
namespace Go.Proofs.Ytbepohpppailnaa
open Go.RowKit
attribute [local go_sem ↓] Go.wp_at_zero Go.wp_at_succ

/-- what cutsOf leaves -/
def CutsC (r : Rx) : Prop := ∀ (w : World) (base : Nat) (v : Value) (l : List Int) (A : Nat → Prop) (a : Option Addr) (c : Nat), OwnC w base 3 v (ints l) → base ≤ w.heap.size → RxRep w A r a c → (∀ b, base ≤ b → A b) → l.length + 2 * nodes r ≤ 1000000 → proper r = true →
    Calls Try.prog 27 #[v, rxv r a c] w fun e w' => ∃ v', e = .returned v' ∧ OwnC w' base 3 v' (ints (l ++ cutsA r)) ∧ Below base w w'

set_option maxRecDepth 100000 in
set_option maxHeartbeats 3200000 in
theorem cutsOf_any : ∀ r : Rx, CutsC r := by
  refine Rx.ind ?_
  intro k lo hi ks ih w base v l A a c hown hbase hr hA hlen hp
  have hpk := proper_kids hp
  have hp2 := fun h2 : k = 2 => proper_none hp (.inr (.inr h2))
  obtain ⟨hk, hlo, hhi, fa, fc, hs⟩ := hr.kids
  have hl := hs.bd
  have hnl := nodesL_length ks
  have hcl : (cutsAL ks).length ≤ 2 * nodesL ks := by
    have : ∀ l : List Rx, (cutsAL l).length ≤ 2 * nodesL l := by
      intro l
      induction l with
      | nil => simp [cutsAL, nodesL]
      | cons b l ihl => simp only [cutsAL, nodesL, List.length_append]; have := cutsA_length b; omega
    exact this ks
  simp only [Rx.k_mk, Rx.lo_mk, Rx.hi_mk, Rx.ks_mk, nodes] at *
  have HI := Lib.hid (fun r (hr : r ∈ ks) => ih r hr)
  have HPK := Lib.hid hpk
  have HS := Lib.hid hs
  have HA := Lib.hid hA
  have HO := Lib.hid hown
  clear ih hs hr hA hown hp hpk
  simp only [rxv, Rx.k_mk, Rx.lo_mk, Rx.hi_mk, Rx.ks_mk]
  by_cases h2 : k = 2
  · have hks := hp2 h2
    subst hks h2
    clear hp2
    have hE1 := (Ext.alloc w (.cells #[.int .i64 2, .int .u8 lo, .int .u8 hi, .slice a 0 c] 54))
    have HO2 := Lib.hid (HO.out.ext hE1.1)
    have HE1 := Lib.hid hE1
    clear hE1
    have hlo' : (lo : Int) < 256 := by omega
    have hlen' : l.length + 2 ≤ 1000000 := by simp only [nodesL] at hlen; omega
    clear hlen
    have hne : v.ownBlock ≠ some w.heap.size := HO.out.apart (.inl (Nat.le_refl _))
    have fin : ∀ w1 v1 l1, OwnC w1 base 3 v1 (ints l1) → l1 = l ++ cutsA (.mk 2 lo hi []) → ∃ v', Ending.returned v1 = .returned v' ∧ OwnC w1 base 3 v' (ints (l ++ cutsA (.mk 2 lo hi []))) := fun w1 v1 l1 h e => ⟨v1, rfl, e ▸ h⟩
    have HF := Lib.hid fin
    have HNE := Lib.hid hne
    clear fin hne
    have arm : True := trivial
    by_cases h255 : hi < 255
    · have h255' : (hi : Int) < 255 := by omega
      go_enter Try.func27, Try.ntmps27
      go_wp2_with (first
        | (at_builtin; refine wpList_append_c1 rfl (.tmp 10) (.tmp 14) 22 3 rfl tabI rfl (by omega) base v (ints l) rfl HO2.out (by simp only [World.size_alloc]; omega) (.int .i64 lo) 3 _ rfl (by simp) rfl (by simp only [List.length_map]; omega) ?_; intro v1 w1 hg1; have q2 := hg1.cell (b := w.heap.size) 2 (by simp) HNE.out (u := .int .u8 hi) (by go_side); have q3 := hg1.cell (b := w.heap.size) 3 (by simp) HNE.out (u := .slice a 0 c) (by go_side); have hs1 : w.heap.size < w1.heap.size := (by have := hg1.below.size; simp at this; omega); have hn1 := Lib.hid (hg1.apart (b := w.heap.size) (by simp) HNE.out); have HG1 := Lib.hid hg1; clear hg1)
        | (at_builtin; refine wpList_append_c1 rfl (.tmp 19) (.tmp 24) 22 3 rfl tabI rfl (by omega) base v1 _ rfl HG1.out.own (by omega) (.int .i64 (hi + 1)) 3 _ rfl (by simp) rfl (by simp only [List.length_map, List.length_append, List.length_singleton]; omega) ?_; intro v2 w2 hg2; have p3 := hg2.cell (b := w.heap.size) 3 hs1 hn1.out q3; have HG2 := Lib.hid hg2; clear hg2))
      go_loopw [0, 29] (fun sv iv wr => sv = v2 ∧ iv = .int .i64 0 ∧ wr = w2) (fun _ _ _ => 0)
      case atStart => exact ⟨rfl, rfl, rfl⟩
      case round =>
        obtain ⟨rfl, rfl, rfl⟩ := hrel
        go_wp2_with fail
        go_ret
        exact ⟨_, rfl, by simpa [cutsA, cutsAL, h255] using HG2.out.own, (((Below.refl _ _).alloc hbase _).trans HG1.out.below).trans HG2.out.below⟩
    · have h255' : 255 ≤ (hi : Int) := by omega
      go_enter Try.func27, Try.ntmps27
      go_wp2_with (first
        | (at_builtin; refine wpList_append_c1 rfl (.tmp 10) (.tmp 14) 22 3 rfl tabI rfl (by omega) base v (ints l) rfl HO2.out (by simp only [World.size_alloc]; omega) (.int .i64 lo) 3 _ rfl (by simp) rfl (by simp only [List.length_map]; omega) ?_; intro v1 w1 hg1; have q2 := hg1.cell (b := w.heap.size) 2 (by simp) HNE.out (u := .int .u8 hi) (by go_side); have q3 := hg1.cell (b := w.heap.size) 3 (by simp) HNE.out (u := .slice a 0 c) (by go_side); have hs1 : w.heap.size < w1.heap.size := (by have := hg1.below.size; simp at this; omega); have hn1 := Lib.hid (hg1.apart (b := w.heap.size) (by simp) HNE.out); have HG1 := Lib.hid hg1; clear hg1))
      go_loopw [0, 29] (fun sv iv wr => sv = v1 ∧ iv = .int .i64 0 ∧ wr = w1) (fun _ _ _ => 0)
      case atStart => exact ⟨rfl, rfl, rfl⟩
      case round =>
        obtain ⟨rfl, rfl, rfl⟩ := hrel
        go_wp2_with fail
        go_ret
        exact ⟨_, rfl, by simpa [cutsA, cutsAL, h255] using HG1.out.own, ((Below.refl _ _).alloc hbase _).trans HG1.out.below⟩
  · clear hp2
    have hk2 : (k == 2) = false := ieq_f h2
    have hpre : ∀ xs : List Int, (if k = 2 then (lo : Int) :: (if hi < 255 then [(hi : Int) + 1] else []) else []) ++ xs = xs := fun xs => by rw [if_neg h2, List.nil_append]
    go_enter Try.func27, Try.ntmps27
    go_wp2
    go_loopw [0, 29] (fun v iv wr => ∃ j : Nat, j ≤ ks.length ∧ iv = .int .i64 j ∧ Hid (OwnC wr base 3 v (ints (l ++ cutsAL (ks.take j)))) ∧ Below base w wr ∧ w.heap.size < wr.heap.size)
      (fun _ i _ => ks.length - (intOf i).toNat)
    case atStart => exact ⟨0, Nat.zero_le _, rfl, Lib.hid (by simpa [cutsAL] using HO.out.ext (Ext.alloc w _).1), (Below.refl _ _).alloc hbase _, by simp⟩
    case round =>
      obtain ⟨j, hj, rfl, HOW, hb, hsz⟩ := hrel
      by_cases hlt : j < ks.length
      · obtain ⟨b, o, x, rfl, hA', hbb, hx, hat, hxr⟩ := (HS.out.keep (w' := wr) fun b _ hn => hb.block b (by by_cases h : b < base; exact h; exact absurd (HA.out b (by omega)) hn)).at hlt
        obtain ⟨g0, g1, g2, g3⟩ := hat
        have hE2 := Ext.alloc wr (.cells #[.int .i64 x.k, .int .u8 x.lo, .int .u8 x.hi, .slice (fa j) x.ks.length (fc j)] 54)
        have hxm := nodesL_append (ks.take j) (ks.drop j)
        rw [List.take_append_drop, List.drop_eq_getElem_cons hlt] at hxm
        have hxx : ks[j] = x := by rw [List.getElem?_eq_getElem hlt] at hx; exact Option.some.inj hx
        rw [hxx] at hxm
        simp only [nodesL] at hxm
        have hct : (cutsAL (ks.take j)).length ≤ 2 * nodesL (ks.take j) := by
          have : ∀ l : List Rx, (cutsAL l).length ≤ 2 * nodesL l := by
            intro l
            induction l with
            | nil => simp [cutsAL, nodesL]
            | cons b l ihl => simp only [cutsAL, nodesL, List.length_append]; have := cutsA_length b; omega
          exact this _
        have HC := Lib.hid (HI.out x (List.mem_of_getElem? hx) (wr.alloc (.cells #[.int .i64 x.k, .int .u8 x.lo, .int .u8 x.hi, .slice (fa j) x.ks.length (fc j)] 54)) base _ (l ++ cutsAL (ks.take j)) A (fa j) (fc j) (HOW.out.ext hE2.1) (by simp only [World.size_alloc]; omega) (hxr.ext hE2.1) HA.out (by rw [List.length_append]; omega) (HPK.out x (List.mem_of_getElem? hx)))
        have HX := Lib.hid hx
        have HB := Lib.hid hb
        have HE2 := Lib.hid hE2
        clear hx hxr hE2 hxm hb hxx hct
        go_wp2_with fail
        refine HC.out.mono ?_
        rintro e w1 ⟨v1, rfl, ho1, hb1⟩
        have hsz1 := hb1.size
        simp only [World.size_alloc] at hsz1
        have HO1 := Lib.hid ho1
        have HB1 := Lib.hid hb1
        clear ho1 hb1
        go_wp2_with fail
        go_roundw
        have hrel' : ∃ j' : Nat, j' ≤ ks.length ∧ Value.int .i64 (j + 1) = .int .i64 j' ∧ Hid (OwnC w1 base 3 v1 (ints (l ++ cutsAL (ks.take j')))) ∧ Below base w w1 ∧ w.heap.size < w1.heap.size :=
          ⟨j + 1, by omega, by simp, Lib.hid (by rw [cutsAL_take ks j x HX.out, ← List.append_assoc]; exact HO1.out), (HB.out.trans (HE2.out.1.mono (by omega))).trans HB1.out, by omega⟩
        case rel => first | exact hrel' | ((repeat apply Exists.intro); exact ⟨hrel', rfl⟩)
        case measure => simp [intOf]; omega
      · have he : j = ks.length := by omega
        have ho := HOW.out
        rw [he, List.take_length] at ho
        have HO1 := Lib.hid ho
        have HB := Lib.hid hb
        clear ho hb he
        go_wp2_with fail
        go_ret
        exact ⟨_, rfl, by simp only [cutsA]; rw [hpre]; exact HO1.out, HB.out⟩
end Go.Proofs.Ytbepohpppailnaa
