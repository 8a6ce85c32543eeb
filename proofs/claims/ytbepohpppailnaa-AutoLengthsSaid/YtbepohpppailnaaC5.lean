/- The example of the section. -/
import Derived.Test.YtbepohpppailnaaAA
import Derived.Test.YtbepohpppailnaaC3
import Derived.Test.YtbepohpppailnaaC4
import Derived.Test.YtbepohpppailnaaD0
set_option linter.unusedSimpArgs false
set_option linter.unusedVariables false
namespace Go.Proofs.Ytbepohpppailnaa
open Go.RowKit
attribute [local go_sem ↓] Go.wp_at_zero Go.wp_at_succ

def starA : Rx := .mk 7 0 0 [.mk 2 97 97 []]
def autA : Au := ⟨[0, 97, 98], [[1, 0, 1], [1, 1, 1]], [true, false]⟩
def autC : Au := ⟨[0, 97, 98], [[1, 0, 1], [1, 1, 1]], [false, true]⟩
set_option maxRecDepth 100000 in
theorem ofP_starA : ofP starA = (0, autA) := by kernel_rfl
theorem avalid_autA : avalid autA = 0 := by kernel_rfl
theorem avalid_autC : avalid autC = 0 := by kernel_rfl
theorem complP_autA : complP autA = autC := by kernel_rfl
theorem least_autA : leastW autA = some [] := by kernel_rfl
theorem least_autC : leastW autC = some [0] := by kernel_rfl
theorem left_autA : leftE autA 0 5 = 0 := by kernel_rfl
theorem leftV_autA : leftV autA 0 5 = [true, true, true, true, true, true] := by kernel_rfl

set_option maxRecDepth 100000 in
set_option maxHeartbeats 3200000 in
theorem lives_any (w : World) : Calls Try.prog 11 #[] w fun e w' => e = .returned (.bool true) ∧ Below w.heap.size w w' := by
  let o1 : Obj := .cells #[.int .i64 2, .int .u8 97, .int .u8 97, .slice none 0 0] 54
  let o2 : Obj := .cells #[.int .i64 7, .int .u8 0, .int .u8 0, .slice (some ⟨w.heap.size, 0, none⟩) 1 1] 54
  have hE0 : Ext w ((w.alloc o1).alloc o2) := (Ext.alloc w o1).trans (Ext.alloc _ o2)
  have hrx : RxRep ((w.alloc o1).alloc o2) (fun _ => False) starA (some ⟨w.heap.size, 0, none⟩) 1 := by
    have hat : rxAt (w.alloc o1) w.heap.size 0 (.mk 2 97 97 []) none 0 := by
      have := rxAt_box w (.mk 2 97 97 []) none 0 54
      exact this
    have hr0 : RxRep (w.alloc o1) (fun _ => False) (.mk 2 97 97 []) none 0 :=
      .mk (fun _ => none) (fun _ => 0) (by omega) (by omega) (by omega) (by simp) (by omega) (fun _ => rfl) (fun h => by simp at h) (fun i r h => by simp at h)
    have h1 := (RxsRep.one hat hr0 (fun h => h)).rx (k := 7) (lo := 0) (hi := 0) (by omega) (by omega) (by omega)
    exact h1.ext (Ext.alloc _ o2).1
  have HOF := Lib.hid (Of_any starA _ _ _ _ hrx)
  rw [ofP_starA] at HOF
  have HE0 := Lib.hid hE0
  clear hE0 hrx
  simp only [rxv, starA, Rx.k_mk, Rx.lo_mk, Rx.hi_mk, Rx.ks_mk, List.length_singleton] at HOF
  go_enter Try.func11, Try.ntmps11
  go_wp2_with fail
  refine HOF.out.mono ?_
  rintro e w1 ⟨p1, rfl, ha1, hb1⟩
  obtain ⟨ca, cc, na, nc, aa, ac⟩ := p1
  change AuRep w1 _ autA ⟨ca, cc, na, nc, aa, ac⟩ at ha1
  have hs1 := hb1.size
  simp only [World.size_alloc] at hs1
  have hE1 := Ext.alloc w1 (.cells #[.slice ca 3 cc, .slice na 2 nc, .slice aa 2 ac] 26)
  have hL1 := Least_any autA (w1.alloc (.cells #[.slice ca 3 cc, .slice na 2 nc, .slice aa 2 ac] 26)) _ _ (ha1.ext hE1.1)
  rw [avalid_autA, least_autA] at hL1
  have HL1 := Lib.hid hL1
  change Hid (Calls Try.prog _ #[.agg #[.slice ca 3 cc, .slice na 2 nc, .slice aa 2 ac]] _ _) at HL1
  have HA1 := Lib.hid (ha1.ext hE1.1)
  have HB1 := Lib.hid ((HE0.out.1.trans (hb1.mono (by simp; omega))).trans (hE1.1.mono (by omega)))
  clear ha1 hb1 hE1 hL1
  simp only [auv, autA, List.length_cons, List.length_nil, Nat.zero_add, Nat.reduceAdd]
  go_wp2_with fail
  refine HL1.out.mono ?_
  rintro e w2 ⟨rfl, hb2⟩
  have hs2 := hb2.size
  simp only [World.size_alloc] at hs2
  have a0 := below_cell hb2 (p := ⟨w1.heap.size, 0, none⟩) (v := .slice ca 3 cc) (by simp) (by go_side)
  have a1 := below_cell hb2 (p := ⟨w1.heap.size, 1, none⟩) (v := .slice na 2 nc) (by simp) (by go_side)
  have a2 := below_cell hb2 (p := ⟨w1.heap.size, 2, none⟩) (v := .slice aa 2 ac) (by simp) (by go_side)
  have hlt2 : w1.heap.size < w2.heap.size := by omega
  have hA2 := HA1.out.ext hb2
  have hN2 := Lengths_any autA 5 (by omega) w2 _ _ hA2
  rw [left_autA, leftV_autA] at hN2
  have HN2 := Lib.hid hN2
  change Hid (Calls Try.prog _ #[.agg #[.slice ca 3 cc, .slice na 2 nc, .slice aa 2 ac], .int .i64 5] _ _) at HN2
  have HA2 := Lib.hid hA2
  have HB2 := Lib.hid (HB1.out.trans (hb2.mono (by simp; omega)))
  clear hb2 hA2 hN2 HL1
  simp only [leastV, Option.isSome_some]
  go_wp2_with fail
  refine HN2.out.mono ?_
  rintro e w3 ⟨la, lc, rfl, hl3, hb3⟩
  have hs3 := hb3.size
  have d0 := below_cell hb3 (p := ⟨w1.heap.size, 0, none⟩) hlt2 a0
  have d1 := below_cell hb3 (p := ⟨w1.heap.size, 1, none⟩) hlt2 a1
  have d2 := below_cell hb3 (p := ⟨w1.heap.size, 2, none⟩) hlt2 a2
  have hlt3 : w1.heap.size < w3.heap.size := by omega
  have hA3 := HA2.out.ext hb3
  have hC3 := Complement_any autA w3 _ _ hA3
  rw [avalid_autA, complP_autA] at hC3
  have HC3 := Lib.hid hC3
  change Hid (Calls Try.prog _ #[.agg #[.slice ca 3 cc, .slice na 2 nc, .slice aa 2 ac]] _ _) at HC3
  have HA3 := Lib.hid hA3
  have HL3 := Lib.hid hl3
  have HB3 := Lib.hid (HB2.out.trans (hb3.mono (by omega)))
  clear hb3 hA3 hC3 hl3 a0 a1 a2 HN2
  simp only [List.length_cons, List.length_nil, Nat.zero_add, Nat.reduceAdd]
  go_wp2_with fail
  refine HC3.out.mono ?_
  rintro e w4 ⟨p4, rfl, ha4, hb4⟩
  obtain ⟨ca4, cc4, na4, nc4, aa4, ac4⟩ := p4
  change AuRep w4 _ autC ⟨ca4, cc4, na4, nc4, aa4, ac4⟩ at ha4
  have hs4 := hb4.size
  have e0 := below_cell hb4 (p := ⟨w1.heap.size, 0, none⟩) hlt3 d0
  have e1 := below_cell hb4 (p := ⟨w1.heap.size, 1, none⟩) hlt3 d1
  have e2 := below_cell hb4 (p := ⟨w1.heap.size, 2, none⟩) hlt3 d2
  have hlt4 : w1.heap.size < w4.heap.size := by omega
  have hE4 := Ext.alloc w4 (.cells #[.slice ca4 3 cc4, .slice na4 2 nc4, .slice aa4 2 ac4] 26)
  have hL4 := Least_any autC (w4.alloc (.cells #[.slice ca4 3 cc4, .slice na4 2 nc4, .slice aa4 2 ac4] 26)) _ _ (ha4.ext hE4.1)
  rw [avalid_autC, least_autC] at hL4
  have HL4 := Lib.hid hL4
  change Hid (Calls Try.prog _ #[.agg #[.slice ca4 3 cc4, .slice na4 2 nc4, .slice aa4 2 ac4]] _ _) at HL4
  have HA4 := Lib.hid ((HA3.out.ext hb4).ext hE4.1)
  have HL4b := Lib.hid ((HL3.out.ext hb4).ext hE4.1)
  have HB4 := Lib.hid ((HB3.out.trans (hb4.mono (by omega))).trans (hE4.1.mono (by omega)))
  clear ha4 hb4 hE4 hL4 d0 d1 d2 HC3
  simp only [auv, autC, List.length_cons, List.length_nil, Nat.zero_add, Nat.reduceAdd]
  go_wp2_with fail
  refine HL4.out.mono ?_
  rintro e w5 ⟨rfl, hb5⟩
  have hs5 := hb5.size
  simp only [World.size_alloc] at hs5
  have f0 := below_cell hb5 (p := ⟨w1.heap.size, 0, none⟩) (by simp; omega) (below_cell (Ext.alloc w4 _).1 hlt4 e0)
  have f1 := below_cell hb5 (p := ⟨w1.heap.size, 1, none⟩) (by simp; omega) (below_cell (Ext.alloc w4 _).1 hlt4 e1)
  have f2 := below_cell hb5 (p := ⟨w1.heap.size, 2, none⟩) (by simp; omega) (below_cell (Ext.alloc w4 _).1 hlt4 e2)
  have hlt5 : w1.heap.size < w5.heap.size := by omega
  have hA5 := HA4.out.ext hb5
  have hL5 := HL4b.out.ext hb5
  have HB5 := Lib.hid (HB4.out.trans (hb5.mono (by simp; omega)))
  -- what is read
  obtain ⟨ga, oa, haa, hga, hac0⟩ := boos_cell' hA5.accept (i := 0) (by decide)
  obtain ⟨ga', oa', haa', _, hac1⟩ := boos_cell' hA5.accept (i := 1) (by decide)
  simp only at haa haa'
  subst haa
  cases haa'
  obtain ⟨gl, ol, hla, hgl, hl0⟩ := boos_cell' hL5 (i := 0) (by decide)
  obtain ⟨gl', ol', hla', _, hl5⟩ := boos_cell' hL5 (i := 5) (by decide)
  subst hla
  cases hla'
  have hS := SameInts_any [0, 97, 98] [0, 97, 98] (w5.alloc (.cells #[.int .i64 0, .int .i64 97, .int .i64 98] 3)) _ (fun _ => False) ca (some ⟨w5.heap.size, 0, none⟩) cc 3 ((show SlRep w5 _ (ints [0, 97, 98]) ca cc from hA5.cuts).ext (Ext.alloc w5 _).1)
    (by have := (Blk.new w5 3 (ints [0, 97, 98])).rep (fun _ => False) (fun h => h) (by simp); simpa using this)
  have HS := Lib.hid hS
  change Hid (Calls Try.prog _ #[.slice ca 3 cc, .slice (some ⟨w5.heap.size, 0, none⟩) 3 3] _ _) at HS
  have q0 : bget autA.accept 0 = true := rfl
  have q1 : bget autA.accept 1 = false := rfl
  have q2 : bget [true, true, true, true, true, true] 0 = true := rfl
  have q3 : bget [true, true, true, true, true, true] 5 = true := rfl
  rw [q0] at hac0
  rw [q1] at hac1
  rw [q2] at hl0
  rw [q3] at hl5
  simp only [Nat.add_zero] at hac0 hl0
  have hcb := hA5.accept.bd
  have hlb := hL5.bd
  clear hb5 hA5 hL5 hS q0 q1 q2 q3 e0 e1 e2
  simp only [leastV, Option.isSome_some]
  go_wp2_with fail
  refine HS.out.mono ?_
  rintro e w6 ⟨rfl, n, rfl⟩
  have z1 : strB [] = .string ⟨#[]⟩ := rfl
  have z2 : strB [0] = .string ⟨#[0]⟩ := rfl
  rw [z1, z2]
  simp only [decide_true]
  have HB6 := Lib.hid (HB5.out.trans (((Ext.alloc w5 (.cells #[.int .i64 0, .int .i64 97, .int .i64 98] 3)).1).mono (by omega)))
  clear z1 z2 HS
  go_wp2_with fail
  go_ret
  exact ⟨rfl, below_drewN HB6.out n⟩
end Go.Proofs.Ytbepohpppailnaa
