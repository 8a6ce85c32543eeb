/- The walk of AutoLengths (seat L alone). -/
import Derived.Test.YtbepohpppailnaaD4
import Derived.Test.YtbepohpppailnaaD2
import Derived.Test.YtbepohpppailnaaC4
import Derived.Test.YtbepohpppailnaaC5
import Derived.Test.YtbepohpppailnaaMP
set_option linter.unusedSimpArgs false
set_option linter.unusedVariables false
namespace Go.Proofs.Ytbepohpppailnaa
open Go.RowKit
attribute [local go_sem ↓] Go.wp_at_zero Go.wp_at_succ

def lS (u : Au) : ByteArray := strOfNums (nats (lw u))
theorem lS_bytes {u : Au} (h : ∀ c ∈ lw u, c < 256) : bytesOf (lS u) = lw u := by
  unfold bytesOf lS nats
  rw [strOfNums_data, List.map_map, List.map_map]
  refine (List.map_congr_left (g := id) fun c hc => ?_).trans (List.map_id _)
  have := h c hc
  simp only [Function.comp, id]
  rw [UInt8.toNat_ofNat']
  simp
  omega
theorem lS_size (u : Au) : (lS u).size = (lw u).length := by unfold lS nats; rw [strOfNums_size, List.length_map]
theorem Least_lw (u : Au) (hu : AGood u) (w : World) (A : Nat → Prop) (p : APl) (h : AuRep w A u p) :
    Calls Try.prog 6 #[auv u p] w fun e w' => e = .returned (.tuple #[.string (lS u), .bool (leastP u).isSome, .int .i64 0]) ∧ Below w.heap.size w w' := by
  refine (Least_any u w A p h).mono ?_
  rintro e w' ⟨rfl, hb⟩
  refine ⟨?_, hb⟩
  have h0 := (avalid_zero u).2 hu
  unfold leastW lS lw
  rw [if_pos h0, h0]
  cases leastP u <;> rfl
theorem Left_good' (u : Au) (hu : AGood u) (s m : Int) (hs : 0 ≤ s ∧ s < (u.next.length : Int)) (hm : 0 ≤ m ∧ m ≤ 64) (w : World) (A : Nat → Prop) (p : APl) (h : AuRep w A u p) :
    Calls Try.prog 9 #[auv u p, .int .i64 s, .int .i64 m] w (BoPost w 0 (leftP u s.toNat m.toNat)) := by
  have h256 := hu.states.2
  have e1 : leftE u s m = 0 := by unfold leftE; rw [if_pos ((avalid_zero u).2 hu), if_pos (by omega), if_pos (by omega)]
  have e2 : leftV u s m = leftP u s.toNat m.toNat := by unfold leftV; rw [if_pos e1]
  have := Left_any u s m (by omega) (by omega) w A p h
  rw [e1, e2] at this
  exact this
theorem Lengths_good' (u : Au) (hu : AGood u) (w : World) (A : Nat → Prop) (p : APl) (h : AuRep w A u p) :
    Calls Try.prog 7 #[auv u p, .int .i64 12] w (BoPost w 0 (leftP u 0 12)) := by
  have h256 := hu.states
  have e1 : leftE u 0 12 = 0 := by unfold leftE; rw [if_pos ((avalid_zero u).2 hu), if_pos (by omega), if_pos (by omega)]
  have e2 : leftV u 0 12 = leftP u 0 12 := by unfold leftV; rw [if_pos e1]; rfl
  have := Lengths_any u 12 (by omega) w A p h
  rw [e1, e2] at this
  exact this
theorem Accepts_lw (u : Au) (hu : AGood u) (w : World) (A : Nat → Prop) (p : APl) (h : AuRep w A u p) :
    Calls Try.prog 8 #[auv u p, .string (lS u)] w fun e w' => e = .returned (.tuple #[.bool (leastP u).isSome, .int .i64 0]) ∧ Below w.heap.size w w' := by
  obtain ⟨l1, _, _, _, l5, l6⟩ := least_law hu
  refine (Accepts_any u (lS u) (by rw [lS_size]; omega) w A p h).mono ?_
  rintro e w' ⟨rfl, hb⟩
  refine ⟨?_, hb⟩
  have h0 := (avalid_zero u).2 hu
  have : accB u (lS u) = (leastP u).isSome := by
    unfold accB
    rw [if_pos h0, lS_bytes l5]
    exact l1
  rw [this, h0]
theorem leftP_get (u : Au) (s m n : Nat) (hn : n ≤ m) : bget (leftP u s m) n = bget (nowB u n) s := by
  refine bget_eq ?_
  unfold leftP
  rw [List.getElem?_map, List.getElem?_range (by omega)]
  rfl
theorem leftP_len (u : Au) (s m : Nat) : (leftP u s m).length = m + 1 := by simp [leftP]

def sm (u : Au) (s k n : Nat) : Bool := ((rget u.next s).take k).any fun t => bget (nowB u n) t.toNat
def someL (u : Au) (s k : Nat) : List Bool := (List.range 6).map (sm u s k)
def someM (u : Au) (s k n : Nat) : List Bool := (List.range 6).map fun i => if i < n then sm u s (k + 1) i else sm u s k i
theorem someL_zero (u : Au) (s : Nat) : someL u s 0 = [false, false, false, false, false, false] := by
  simp [someL, sm, List.range_succ]
theorem someM_zero (u : Au) (s k : Nat) : someM u s k 0 = someL u s k := by
  unfold someM someL
  refine List.map_congr_left fun i _ => ?_
  rw [if_neg (by omega)]
theorem someM_six (u : Au) (s k : Nat) : someM u s k 6 = someL u s (k + 1) := by
  unfold someM someL
  refine List.map_congr_left fun i hi => ?_
  rw [List.mem_range] at hi
  rw [if_pos hi]
theorem sm_succ (u : Au) (s k n : Nat) (hk : k < (rget u.next s).length) : sm u s (k + 1) n = (sm u s k n || bget (nowB u n) (iget (rget u.next s) k).toNat) := by
  unfold sm
  rw [List.take_add_one, iget_get hk]
  simp
theorem someM_get (u : Au) (s k n : Nat) (hn : n < 6) : (someM u s k n)[n]? = some (sm u s k n) := by
  unfold someM
  rw [List.getElem?_map, List.getElem?_range hn]
  simp
theorem someM_set (u : Au) (s k n : Nat) (hn : n < 6) : (someM u s k n).set n (sm u s (k + 1) n) = someM u s k (n + 1) := by
  apply List.ext_getElem?
  intro i
  rw [List.getElem?_set]
  unfold someM
  simp only [List.length_map, List.length_range, List.getElem?_map]
  by_cases hi : i < 6
  · rw [List.getElem?_range hi]
    by_cases e : n = i
    · subst e
      simp [hn]
    · rw [if_neg e]
      by_cases h2 : i < n
      · simp [h2, show i < n + 1 by omega]
      · simp [h2, show ¬ i < n + 1 by omega]
  · have : (List.range 6)[i]? = none := by rw [List.getElem?_eq_none_iff]; simp; omega
    rw [this]
    by_cases e : n = i
    · omega
    · rw [if_neg e]; rfl
theorem someL_full {u : Au} (s : Nat) (hs : s < u.next.length) : someL u s (rget u.next s).length = (leftP u s 6).drop 1 := by
  apply List.ext_getElem?
  intro i
  unfold someL leftP
  rw [List.getElem?_drop, List.getElem?_map, List.getElem?_map]
  by_cases hi : i < 6
  · rw [List.getElem?_range hi, List.getElem?_range (by omega)]
    simp only [Option.map_some]
    have e : 1 + i = i + 1 := by omega
    rw [e]
    simp only [nowB]
    rw [stepB_at _ hs]
    unfold sm
    rw [List.take_length]
  · have h1 : (List.range 6)[i]? = none := by rw [List.getElem?_eq_none_iff]; simp; omega
    have h2 : (List.range (6 + 1))[1 + i]? = none := by rw [List.getElem?_eq_none_iff]; simp; omega
    rw [h1, h2]
    rfl

set_option maxRecDepth 100000 in
set_option maxHeartbeats 3200000 in
theorem AutoLengths_any (l : List Int) (hl : ∀ x ∈ l, I64 x) (w : World) (A : Nat → Prop) (a : Option Addr) (c : Nat) (h : SlRep w A (ints l) a c) :
    Calls Try.prog 3 #[.slice a l.length c] w fun e w' => e = .returned (.bool true) ∧ Below w.heap.size w w' := by
  have HM := Lib.hid (Made_any l hl w A a c h)
  have hu := madeP_good l
  generalize madeP l = u at *
  clear h hl
  go_enter Try.func3, Try.ntmps3
  go_wp2_with fail
  refine HM.out.mono ?_
  rintro e w1 ⟨p, rfl, hr1, hb1⟩
  clear HM
  go_wp2_with fail
  refine (own_any u p w1).mono ?_
  rintro e w2 ⟨rfl, hb2⟩
  have hr2 := hr1.ext hb2
  have hB2 := hb1.trans (hb2.mono hb1.size)
  obtain ⟨ca, cc, na, nc, aa, ac⟩ := p
  have hav : auv u ⟨ca, cc, na, nc, aa, ac⟩ = .agg #[.slice ca u.cuts.length cc, .slice na u.next.length nc, .slice aa u.accept.length ac] := rfl
  have hE3 := Ext.alloc w2 (.cells #[.slice ca u.cuts.length cc, .slice na u.next.length nc, .slice aa u.accept.length ac] 26)
  have hK3 := Blk.new w2 26 [.slice ca u.cuts.length cc, .slice na u.next.length nc, .slice aa u.accept.length ac]
  have hs3 : (w2.alloc (.cells #[.slice ca u.cuts.length cc, .slice na u.next.length nc, .slice aa u.accept.length ac] 26)).heap.size = w2.heap.size + 1 := by simp
  obtain ⟨w3, hw3⟩ : ∃ w3, w3 = w2.alloc (.cells #[.slice ca u.cuts.length cc, .slice na u.next.length nc, .slice aa u.accept.length ac] 26) := ⟨_, rfl⟩
  have hK3' : Blk w3 w2.heap.size 26 [.slice ca u.cuts.length cc, .slice na u.next.length nc, .slice aa u.accept.length ac] := by rw [hw3]; exact hK3
  rw [← hw3] at hE3 hs3
  obtain ⟨g, hg⟩ : ∃ g, g = w2.heap.size := ⟨_, rfl⟩
  rw [← hg] at hK3' hs3
  have HB3 := Lib.hid (hB2.trans (hE3.1.mono (show w.heap.size ≤ w2.heap.size from hB2.size)))
  have HR3 := Lib.hid (hr2.ext hE3.1)
  have HK3 := Lib.hid hK3'
  have HW3 := Lib.hid hw3
  have HG := Lib.hid hg
  have HU := Lib.hid hu
  clear hr1 hb1 hb2 hr2 hB2 hE3 hK3 hw3 hK3' hg hu
  rw [hav]
  clear hav
  go_wp2_with fail
  rw [← HW3.out, ← HG.out]
  have hgs : g < w3.heap.size := by omega
  refine (Least_lw u HU.out w3 _ _ HR3.out).mono ?_
  rintro e w4 ⟨rfl, hb4⟩
  have HK4 := Lib.hid (HK3.out.ext hb4)
  have hs4 := hb4.size
  have z0 := HK4.out.cell (i := 0) rfl
  have z1 := HK4.out.cell (i := 1) rfl
  have z2 := HK4.out.cell (i := 2) rfl
  have HB4 := Lib.hid hb4
  have hgs4 : g < w4.heap.size := by omega
  generalize hI : (leastP u).isSome = I
  have HI := Lib.hid hI
  clear hb4 hI
  go_wp2_with fail
  refine (Lengths_good' u HU.out w4 _ _ (HR3.out.ext HB4.out)).mono ?_
  rintro e w5 ⟨xa, xc, rfl, hx, hb5⟩
  rw [leftP_len]
  have HB5 := Lib.hid (HB4.out.trans (hb5.mono HB4.out.size))
  have HK5 := Lib.hid (HK4.out.ext hb5)
  have hs5 := hb5.size
  have y0 := HK5.out.cell (i := 0) rfl
  have y1 := HK5.out.cell (i := 1) rfl
  have y2 := HK5.out.cell (i := 2) rfl
  have HX5 := Lib.hid hx
  have hgs5 : g < w5.heap.size := by omega
  clear hb5 hx z0 z1 z2
  go_wp2_with fail
  refine (Accepts_lw u HU.out w5 _ _ (HR3.out.ext HB5.out)).mono ?_
  rintro e w6 ⟨rfl, hb6⟩
  rw [HI.out]
  have HB6 := Lib.hid (HB5.out.trans (hb6.mono HB5.out.size))
  have HK6 := Lib.hid (HK5.out.ext hb6)
  have HX6 := Lib.hid (HX5.out.ext hb6)
  have hs6 := hb6.size
  have hgs6 : g < w6.heap.size := by omega
  clear hb6 y0 y1 y2
  go_wp2_with fail
  have hS : (lS u).size = (lw u).length := lS_size u
  obtain ⟨l1, l2, l3, l4, l5, l6⟩ := least_law HU.out
  rw [HI.out] at l3 l4
  rw [← hS] at l2 l3 l6
  have HL2 := Lib.hid l2
  have HL3 := Lib.hid l3
  have HL4 := Lib.hid l4
  generalize lS u = S at *
  clear hS l1 l2 l3 l4 l5 HI
  go_loopw [11] (fun kv wr => ∃ n : Nat, kv = .int .i64 n ∧ n ≤ 13 ∧ wr = w6) (fun kv _ => 13 - (intOf kv).toNat)
  case atStart => exact ⟨0, by simp, by omega, rfl⟩
  case round =>
    obtain ⟨n, rfl, hn, rfl⟩ := hrel
    by_cases hlt : n < 13
    · obtain ⟨xg, xo, rfl, hxg, hxc⟩ := boos_cell' HX6.out (i := n) (by rw [leftP_len]; omega)
      rw [leftP_get _ _ _ _ (by omega)] at hxc
      have i0 : (0 : Int) ≤ n := by omega
      have i1 : (n : Int) < 13 := by omega
      by_cases h1 : n < S.size
      · have hX := HL2.out n h1
        rw [hX] at hxc
        have h2 := ieq_f (show ¬ (n : Int) = S.size by omega)
        clear hX
        cases I
        all_goals
          go_wp2_with fail
          go_roundw
        all_goals first
          | exact ⟨n + 1, by simp, by omega, by first | rfl | trivial⟩
          | (simp [intOf]; omega)
      · by_cases h2 : S.size = n
        · have hX := HL3.out
          rw [h2] at hX
          rw [hX] at hxc
          clear hX
          have h3 := ieq_t (show (n : Int) = n from rfl)
          cases I
          all_goals
            go_wp2_with fail
            go_roundw
          all_goals first
            | exact ⟨n + 1, by simp, by omega, by first | rfl | trivial⟩
            | (simp [intOf]; omega)
        · have h3 := ieq_f (show ¬ (n : Int) = S.size by omega)
          have h4 : ¬ (n : Int) < S.size := by omega
          cases I
          · have hX := HL4.out rfl n
            rw [hX] at hxc
            clear hX
            go_wp2_with fail
            go_roundw
            all_goals first
              | exact ⟨n + 1, by simp, by omega, by first | rfl | trivial⟩
              | (simp [intOf]; omega)
          · clear hxc
            go_wp2_with fail
            go_roundw
            all_goals first
              | exact ⟨n + 1, by simp, by omega, by first | rfl | trivial⟩
              | (simp [intOf]; omega)
    · have he : n = 13 := by omega
      subst he
      clear HL2 HL3 HL4 HX6 HX5
      go_wp2_with fail
      obtain ⟨v6, hv6⟩ : ∃ v6, v6 = wr := ⟨_, rfl⟩
      subst hv6
      have HR6 := Lib.hid (HR3.out.ext HB6.out)
      have HBW := Lib.hid (HB3.out.trans (HB6.out.mono HB3.out.size))
      clear HR3 HK3 HK4 HK5 HB4 HB5 HB6 HB3
      go_loopw [12] (fun kv wx => ∃ s : Nat, kv = .int .i64 s ∧ s ≤ u.next.length ∧ Hid (Below v6.heap.size v6 wx)) (fun kv _ => u.next.length - (intOf kv).toNat)
      case atStart => exact ⟨0, by simp, Nat.zero_le _, Lib.hid (Below.refl _ _)⟩
      case round =>
        obtain ⟨s, rfl, hs, HBX⟩ := hrel
        have z0 := below_cell HBX.out (p := ⟨g, 0, none⟩) hgs6 (HK6.out.cell (i := 0) rfl)
        have z1 := below_cell HBX.out (p := ⟨g, 1, none⟩) hgs6 (HK6.out.cell (i := 1) rfl)
        have z2 := below_cell HBX.out (p := ⟨g, 2, none⟩) hgs6 (HK6.out.cell (i := 2) rfl)
        by_cases hlt : s < u.next.length
        · have hst := HU.out.states
          have i0 : (0 : Int) ≤ s := by omega
          go_wp2_with fail
          refine (Left_good' u HU.out s 6 (by omega) (by omega) wr _ _ (HR6.out.ext HBX.out)).mono ?_
          rintro e wl ⟨ua, uc, rfl, hul, hbl⟩
          have hsl := hbl.size
          have hsx := HBX.out.size
          have e6 : (leftP u (s : Int).toNat (6 : Int).toNat).length = 7 := by rw [leftP_len]; rfl
          rw [e6]
          have e7 : leftP u (s : Int).toNat (6 : Int).toNat = leftP u s 6 := by rw [Int.toNat_natCast]; rfl
          rw [e7] at hul
          have hgx : g < wr.heap.size := by omega
          have y0 := below_cell hbl (p := ⟨g, 0, none⟩) hgx z0
          have y1 := below_cell hbl (p := ⟨g, 1, none⟩) hgx z1
          have y2 := below_cell hbl (p := ⟨g, 2, none⟩) hgx z2
          obtain ⟨ug, uo, rfl, hug, huc⟩ := boos_cell' hul (i := 0) (by rw [leftP_len]; omega)
          rw [leftP_get _ _ _ _ (by omega)] at huc
          have hRl := HR6.out.ext (HBX.out.trans (hbl.mono hsx))
          obtain ⟨ag, ao, haa, hag, hac⟩ := boos_cell' hRl.accept (i := s) (by rw [HU.out.acc]; exact hlt)
          simp only at haa
          subst haa
          simp only [nowB, Nat.add_zero] at huc
          have HUL := Lib.hid hul
          have HBL := Lib.hid (HBX.out.trans (hbl.mono hsx))
          have hacl : (s : Int) < u.accept.length := by rw [HU.out.acc]; omega
          clear hul hbl e6 e7 hRl z0 z1 z2
          generalize bget u.accept s = X0 at *
          go_wp2_with fail
          go_quiet (fail)
          have hmk : ∀ W, (Instr.makeSlice 24 (.int .i64 6) (.int .i64 6)).run Try.prog W = .ok (.slice (some ⟨W.heap.size, 0, none⟩) 6 6) (W.alloc (.cells (List.replicate 6 (.bool false)).toArray 4)) := fun W => run_make_c (P := Try.prog) 24 4 tabBo rfl (by omega) 6 (by omega) W
          go_wp2_with fail
          clear hmk
          obtain ⟨wn, hwn⟩ : ∃ wn, wn = (wl.drewN nq).alloc (.cells #[.bool false, .bool false, .bool false, .bool false, .bool false, .bool false] 4) := ⟨_, rfl⟩
          have hbn : Below wl.heap.size wl wn := by rw [hwn]; exact (below_drewN (Below.refl _ _) _).alloc (Nat.le_refl _) _
          have hkn : Blk wn wl.heap.size 4 (boos (someL u s 0)) := by rw [hwn, someL_zero]; exact Blk.new (wl.drewN nq) 4 [.bool false, .bool false, .bool false, .bool false, .bool false, .bool false]
          rw [← hwn]
          have HBN := Lib.hid hbn
          have HKN := Lib.hid hkn
          have HRL := Lib.hid (HR6.out.ext HBL.out)
          clear hwn hbn hkn huc hac
          go_loopw [16] (fun kv wk => ∃ k : Nat, kv = .int .i64 k ∧ k ≤ (rget u.next s).length ∧ Hid (Blk wk wl.heap.size 4 (boos (someL u s k))) ∧ Hid (Below wl.heap.size wl wk)) (fun kv _ => (rget u.next s).length - (intOf kv).toNat)
          case atStart => exact ⟨0, by simp, Nat.zero_le _, HKN, HBN⟩
          case round =>
            obtain ⟨k, rfl, hk, HKK, HBK⟩ := hrel
            clear HKN HBN
            obtain ⟨wk, hwk⟩ : ∃ wk, wk = wr := ⟨_, rfl⟩
            subst hwk
            have hgl : g < wl.heap.size := by omega
            have z0 := below_cell HBK.out (p := ⟨g, 0, none⟩) hgl y0
            have z1 := below_cell HBK.out (p := ⟨g, 1, none⟩) hgl y1
            have z2 := below_cell HBK.out (p := ⟨g, 2, none⟩) hgl y2
            have hRk := HRL.out.ext HBK.out
            obtain ⟨gn, on, rg, rc, hna, hgn, hnc, hrow⟩ := rows_cell' hRk.next hlt
            simp only at hna
            subst hna
            have hnb := hRk.next.bd
            simp only [List.length_map] at hnb
            have islt : (s : Int) < u.next.length := by omega
            have hrb := hrow.bd
            simp only [List.length_map] at hrb
            by_cases hkl : k < (rget u.next s).length
            · obtain ⟨eg, eo, rfl, heg, hec⟩ := ints_cell' hrow hkl
              have ht := (HU.out.row hlt).2 _ (List.mem_of_getElem? (iget_get hkl))
              have hsk := Lib.hid (fun n => sm_succ u s k n hkl)
              generalize iget (rget u.next s) k = t at *
              have ik0 : (0 : Int) ≤ k := by omega
              have HRK := Lib.hid hRk
              clear hRk hrow
              go_wp2_with fail
              have hgk : g < wk.heap.size := by have := HBK.out.size; omega
              have Z0 := Lib.hid z0
              have Z1 := Lib.hid z1
              have Z2 := Lib.hid z2
              have HNC := Lib.hid hnc
              have HEC := Lib.hid hec
              clear z0 z1 z2 hnc hec
              refine wp_region_mix (fun w' => (w'.cell? ⟨g, 0, none⟩ = some (.slice ca u.cuts.length cc) ∧ w'.cell? ⟨g, 1, none⟩ = some (.slice (some ⟨gn, on, none⟩) u.next.length nc) ∧ w'.cell? ⟨g, 2, none⟩ = some (.slice (some ⟨ag, ao, none⟩) u.accept.length ac)) ∧ w'.cell? ⟨gn, on + s, none⟩ = some (.slice (some ⟨eg, eo, none⟩) (rget u.next s).length rc) ∧ w'.cell? ⟨eg, eo + k, none⟩ = some (.int .i64 t)) [(0, true), (1, true), (2, true), (3, true), (4, true), (5, true), (6, true), (7, true), (8, true), (9, false), (10, true), (11, true), (12, true), (13, true), (14, true)] (by kernel_rfl) (by kernel_rfl) ⟨⟨Z0.out, Z1.out, Z2.out⟩, HNC.out, HEC.out⟩ ?_
              simp only [mixList, List.getElem?_toArray, List.getElem?_cons_zero, List.getElem?_cons_succ]
              repeat (apply Exists.intro; refine ⟨fun w' hC => .inl ⟨rfl, .inl ?_⟩, ?_⟩; ((obtain ⟨⟨hC1, hC2, hC3⟩, hC4, hC5⟩ := hC; go_simp; rfl)))
              refine mix_loud rfl ?_
              unfold loud
              go_simp
              simp only [louD]
              refine (Left_good' u HU.out t 5 ht (by omega) wk.drew _ _ (HRK.out.ext ((Below.refl _ _).drew))).mono ?_
              rintro e wq ⟨va, vc, rfl, hvl, hbq⟩
              have hbq' : Below wk.heap.size wk wq := ((Below.refl _ _).drew).trans hbq
              have e5 : (leftP u t.toNat (5 : Int).toNat).length = 6 := by rw [leftP_len]; rfl
              have e8 : leftP u t.toNat (5 : Int).toNat = leftP u t.toNat 5 := rfl
              rw [e5]
              rw [e8] at hvl
              refine ⟨_, rfl, ⟨⟨below_cell hbq' hgk Z0.out, below_cell hbq' hgk Z1.out, below_cell hbq' hgk Z2.out⟩, below_cell hbq' hgn HNC.out, below_cell hbq' heg HEC.out⟩, ?_⟩
              have HBQ := Lib.hid hbq'
              have hsq := hbq'.size
              have HVL := Lib.hid hvl
              have HKQ := Lib.hid ((HKK.out).ext hbq')
              have HBL2 := Lib.hid (HBK.out.trans (hbq'.mono HBK.out.size))
              clear hbq hbq' hvl e5 e8
              repeat (apply Exists.intro; refine ⟨fun w' hC => .inl ⟨rfl, .inl ?_⟩, ?_⟩; ((obtain ⟨⟨hC1, hC2, hC3⟩, hC4, hC5⟩ := hC; go_simp; rfl)))
              simp only [wpMix]
              go_wp2_with fail
              have hlk : wl.heap.size < wq.heap.size := by have := HKQ.out.lt; omega
              have HKM : Hid (Blk wq wl.heap.size 4 (boos (someM u s k 0))) := Lib.hid (by rw [someM_zero]; exact HKQ.out)
              go_loopw [19] (fun kv wn => ∃ n : Nat, kv = .int .i64 n ∧ n ≤ 6 ∧ Hid (Blk wn wl.heap.size 4 (boos (someM u s k n))) ∧ Hid (SlRep wn (fun b => b = wl.heap.size) (boos (leftP u t.toNat 5)) va vc) ∧ Hid (Below wl.heap.size wl wn)) (fun kv _ => 6 - (intOf kv).toNat)
              case atStart => exact ⟨0, by simp, by omega, HKM, Lib.hid (HVL.out.avoid (fun b _ hh => by subst hh; show wl.heap.size < wk.heap.size; exact HKK.out.lt)), HBL2⟩
              case round =>
                obtain ⟨n, rfl, hn, HKN, HVN, HBN⟩ := hrel
                by_cases hln : n < 6
                · obtain ⟨vg, vo, rfl, hvg, hvc⟩ := boos_cell' HVN.out (i := n) (by rw [leftP_len]; omega)
                  rw [leftP_get _ _ _ _ (by omega)] at hvc
                  have hsc := HKN.out.cell (i := n) (v := .bool (sm u s k n)) (by rw [List.getElem?_map, someM_get _ _ _ _ hln]; rfl)
                  have hsf := HKN.out.free n
                  have hset := HKN.out.set n (.bool (sm u s (k + 1) n))
                  rw [← List.map_set, someM_set _ _ _ _ hln] at hset
                  have hss := hsk.out n
                  have in0 : (0 : Int) ≤ n := by omega
                  have HSET := Lib.hid hset
                  have HSS := Lib.hid hss
                  clear hset hss
                  rw [HSS.out] at HSET
                  generalize bget (nowB u n) t.toNat = y at *
                  generalize sm u s k n = x at *
                  cases x
                  all_goals
                    go_wp2_with fail
                    go_roundw
                  all_goals first
                    | (simp [intOf]; omega)
                    | exact ⟨n + 1, by simp, by omega, HSET, Lib.hid (HVN.out.keep (by simp [World.setCell]) fun b _ hb => Below.heap_setCell _ _ _ _ hb), Lib.hid (HBN.out.setCell (p := ⟨wl.heap.size, n, none⟩) (Nat.le_refl _) _)⟩
                · have he : n = 6 := by omega
                  subst he
                  have HKE : Hid (Blk wr wl.heap.size 4 (boos (someL u s (k + 1)))) := Lib.hid (by rw [← someM_six]; exact HKN.out)
                  clear HKM HKN HVN HKQ HKK HVL HBQ
                  go_wp2_with fail
                  go_roundw
                  case rel => exact ⟨k + 1, by simp, by omega, HKE, HBN⟩
                  case measure => simp [intOf]; omega
            · have he : k = (rget u.next s).length := by omega
              subst he
              have hfull := HKK.out
              rw [someL_full s hlt] at hfull
              have hbd := HUL.out.bd
              simp only [List.length_map, leftP_len] at hbd
              have q1 : ¬ uc = 1 := by omega
              have q2 : ¬ 1 = uc := by omega
              have q3 : 7 ≤ uc := by omega
              have hd := slrep_drop (HUL.out.ext HBK.out) 1 (by rw [List.length_map, leftP_len]; omega)
              rw [← List.map_drop] at hd
              have hr := hfull.rep (fun _ => False) (fun h => h) (by simp [leftP])
              have hel : (boos ((leftP u s 6).drop 1)).length = 6 := by rw [List.length_map, List.length_drop, leftP_len]
              rw [hel] at hr
              have hsb := sameBools_any ((leftP u s 6).drop 1) ((leftP u s 6).drop 1) wk _ _ _ _ _ _ hd hr
              have hel2 : ((leftP u s 6).drop 1).length = 6 := by rw [List.length_drop, leftP_len]
              rw [hel2] at hsb
              have HSB := Lib.hid hsb
              clear hfull hd hr hel hel2 hsb hRk hrow
              go_wp2_with fail
              refine HSB.out.mono ?_
              rintro e wz ⟨rfl, nz, rfl⟩
              simp only [decide_true]
              go_wp2_with fail
              go_roundw
              case rel => ((repeat apply Exists.intro); exact ⟨⟨s + 1, by simp, by omega, Lib.hid (below_drewN (HBL.out.trans (HBK.out.mono HBL.out.size)) nz)⟩, rfl⟩)
              case measure => simp [intOf]; omega
        · have he : s = u.next.length := by omega
          subst he
          go_wp2_with fail
          refine (lives_any wr).mono ?_
          rintro e wz ⟨rfl, hbz⟩
          have HBZ := Lib.hid hbz
          have hsx := HBX.out.size
          clear hbz
          go_wp2_with fail
          go_ret
          exact ⟨rfl, (HBW.out.trans (HBX.out.mono (HBW.out.size))).trans (HBZ.out.mono (Nat.le_trans HBW.out.size hsx))⟩
end Go.Proofs.Ytbepohpppailnaa
