/- Walks: Made of the reference of package auto. -/
import Derived.Test.YtbepohpppailnaaD3
import Derived.Test.YtbepohpppailnaaC3
set_option linter.unusedSimpArgs false
set_option linter.unusedVariables false
namespace Go.Proofs.Ytbepohpppailnaa
open Go.RowKit
attribute [local go_sem ↓] Go.wp_at_zero Go.wp_at_succ

/-- an automaton that is being made -/
structure Box (w : World) (base g : Nat) (t : TypeId) (c0 : Value) (T : List (Option Addr × Nat)) (rows : List (List Int)) (accs : List Bool) (v1 v2 : Value) : Prop where
  blk : Blk w g t [c0, v1, v2]
  own1 : OwnC w base 22 v1 (hdrs T rows)
  hd : HdRep w (fun b => b < base ∨ v1.ownBlock = some b ∨ v2.ownBlock = some b) T rows
  own2 : OwnC w base 4 v2 (boos accs)
  gl : g < base
  bl : base ≤ w.heap.size
theorem Box.ext {w w' : World} {base g : Nat} {t : TypeId} {c0 : Value} {T : List (Option Addr × Nat)} {rows : List (List Int)} {accs : List Bool} {v1 v2 : Value} (h : Box w base g t c0 T rows accs v1 v2) (hb : Below w.heap.size w w') : Box w' base g t c0 T rows accs v1 v2 :=
  ⟨h.blk.ext hb, h.own1.ext hb, h.hd.ext hb, h.own2.ext hb, h.gl, Nat.le_trans h.bl hb.size⟩
theorem Box.row {w w' : World} {base g : Nat} {t : TypeId} {c0 : Value} {T : List (Option Addr × Nat)} {rows : List (List Int)} {accs : List Bool} {v1 v2 v1' : Value} (h : Box w base g t c0 T rows accs v1 v2) {r : List Int} {a : Option Addr} {c : Nat}
    (hr : SlRep w (fun b => b < base ∨ v1.ownBlock = some b ∨ v2.ownBlock = some b) (ints r) a c) (hg : Grew w w' base v1 v1' 22 (hdrs T rows ++ [.slice a r.length c])) :
    Box (w'.setCell ⟨g, 1, none⟩ v1') base g t c0 (T ++ [(a, c)]) (rows ++ [r]) accs v1' v2 := by
  have hgl := h.gl
  have hbl := h.bl
  have hs := hg.below.size
  have hn1 : v1.ownBlock ≠ some g := fun e => by have := (h.own1.lt e).1; omega
  have hn2 : v2.ownBlock ≠ some g := fun e => by have := (h.own2.lt e).1; omega
  have hb' := h.blk.keep (hg.rest g (by omega) hn1)
  have ho2 := h.own2.keep (w' := w') fun b hb => hg.rest b (h.own2.lt hb).2 (own_ne2 h.own1 h.own2 (by decide) hb)
  have ho1 : OwnC w' base 22 v1' (hdrs (T ++ [(a, c)]) (rows ++ [r])) := by
    rw [hdrs_snoc h.hd.1]; exact hg.own
  have hn1' : v1'.ownBlock ≠ some g := fun e => by have := (ho1.lt e).1; omega
  have hh : HdRep w' (fun b => b < base ∨ v1'.ownBlock = some b ∨ v2.ownBlock = some b) (T ++ [(a, c)]) (rows ++ [r]) := by
    have h2 := ((h.hd.snoc hr).old).keep (w' := w') hs fun b hb hn => hg.rest b hb (fun e => hn (.inl (.inr (.inl e))))
    refine h2.avoid fun b _ hh => ?_
    rcases hh with hh | hh | hh
    · exact .inl (.inl hh)
    · rcases hg.place with e | ⟨q, e, hq⟩
      · rw [e] at hh; exact .inl (.inr (.inl hh))
      · rw [e] at hh; cases hh; exact .inr hq
    · exact .inl (.inr (.inr hh))
  refine ⟨hb'.set 1 v1', ho1.setOther hn1' 1 v1', hh.keep (by simp [World.setCell]) fun b _ hn => Below.heap_setCell _ _ _ _ (fun e => hn (.inl ?_)), ho2.setOther hn2 1 v1', hgl, by simp [World.setCell]; omega⟩
  have : b = g := e
  omega
theorem Box.acc {w w' : World} {base g : Nat} {t : TypeId} {c0 : Value} {T : List (Option Addr × Nat)} {rows : List (List Int)} {accs : List Bool} {v1 v2 v2' : Value} (h : Box w base g t c0 T rows accs v1 v2) {x : Bool}
    (hg : Grew w w' base v2 v2' 4 (boos accs ++ [.bool x])) :
    Box (w'.setCell ⟨g, 2, none⟩ v2') base g t c0 T rows (accs ++ [x]) v1 v2' := by
  have hgl := h.gl
  have hbl := h.bl
  have hs := hg.below.size
  have hn1 : v1.ownBlock ≠ some g := fun e => by have := (h.own1.lt e).1; omega
  have hn2 : v2.ownBlock ≠ some g := fun e => by have := (h.own2.lt e).1; omega
  have hb' := h.blk.keep (hg.rest g (by omega) hn2)
  have ho1 := h.own1.keep (w' := w') fun b hb => hg.rest b (h.own1.lt hb).2 (own_ne2 h.own2 h.own1 (by decide) hb)
  have ho2 : OwnC w' base 4 v2' (boos (accs ++ [x])) := by
    have := hg.own
    have e : boos (accs ++ [x]) = boos accs ++ [.bool x] := by simp
    rw [e]; exact this
  have hn2' : v2'.ownBlock ≠ some g := fun e => by have := (ho2.lt e).1; omega
  have hh : HdRep w' (fun b => b < base ∨ v1.ownBlock = some b ∨ v2'.ownBlock = some b) T rows := by
    have h2 := (h.hd.old).keep (w' := w') hs fun b hb hn => hg.rest b hb (fun e => hn (.inl (.inr (.inr e))))
    refine h2.avoid fun b _ hh => ?_
    rcases hh with hh | hh | hh
    · exact .inl (.inl hh)
    · exact .inl (.inr (.inl hh))
    · rcases hg.place with e | ⟨q, e, hq⟩
      · rw [e] at hh; exact .inl (.inr (.inr hh))
      · rw [e] at hh; cases hh; exact .inr hq
  refine ⟨hb'.set 2 v2', ho1.setOther hn1 2 v2', hh.keep (by simp [World.setCell]) fun b _ hn => Below.heap_setCell _ _ _ _ (fun e => hn (.inl ?_)), ho2.setOther hn2' 2 v2', hgl, by simp [World.setCell]; omega⟩
  have : b = g := e
  omega
theorem tab_cell (w : World) (d : Nat) (hd : d < 6) : (w.alloc (.cells #[.int .i64 1, .int .i64 97, .int .i64 98, .int .i64 99, .int .i64 255, .int .i64 40] 3)).cell? ⟨w.heap.size, d, none⟩ = some (.int .i64 (iget cutTab d)) := by
  have h := cells_all w #[.int .i64 1, .int .i64 97, .int .i64 98, .int .i64 99, .int .i64 255, .int .i64 40] 3 d (.int .i64 (iget cutTab d)) (by
    match d, hd with
    | 0, _ => rfl
    | 1, _ => rfl
    | 2, _ => rfl
    | 3, _ => rfl
    | 4, _ => rfl
    | 5, _ => rfl)
  rw [Addr.add_lit, Nat.zero_add] at h
  exact h
set_option maxRecDepth 100000 in
set_option maxHeartbeats 1600000 in
theorem Made_any (l : List Int) (hl : ∀ x ∈ l, I64 x) (w : World) (A : Nat → Prop) (a : Option Addr) (c : Nat) (h : SlRep w A (ints l) a c) :
    Calls Try.prog 5 #[.slice a l.length c] w fun e w' => ∃ p, e = .returned (auv (madeP l) p) ∧ AuRep w' (fun b => b < w.heap.size) (madeP l) p ∧ Below w.heap.size w w' := by
  have HP := Lib.hid (fun W (hW : Below w.heap.size w W) i n hi hn => Pick_any l hl i n hi hn W A a c (h.ext hW))
  obtain ⟨m0, hm0⟩ : ∃ m0 : Nat, pickP l 0 6 = (m0 : Int) := ⟨(pickP l 0 6).toNat, by have := pickP_range l 0 6 (by omega); omega⟩
  obtain ⟨m1, hm1⟩ : ∃ m1 : Nat, pickP l 1 4 = (m1 : Int) := ⟨(pickP l 1 4).toNat, by have := pickP_range l 1 4 (by omega); omega⟩
  have hr0 := pickP_range l 0 6 (by omega)
  have hr1 := pickP_range l 1 4 (by omega)
  rw [hm0] at hr0
  rw [hm1] at hr1
  have hk : madeCls l = m1 := by unfold madeCls; omega
  have hn : madeMany l = m0 + 1 := by unfold madeMany; omega
  have HM0 := Lib.hid hm0
  have HM1 := Lib.hid hm1
  have HK := Lib.hid hk
  have HN := Lib.hid hn
  clear h hl hm0 hm1 hk hn
  go_enter Try.func5, Try.ntmps5
  go_wp2_with fail
  refine (HP.out _ ((((Below.refl _ _).alloc (Nat.le_refl _) _).alloc (by simp) _).alloc (by simp; omega) _) _ _ ⟨by omega, by omega⟩ ⟨by omega, by omega⟩).mono ?_
  rintro e w1 ⟨rfl, rfl⟩
  rw [HM0.out]
  go_wp2_with fail
  refine (HP.out _ ((((Below.refl _ _).alloc (Nat.le_refl _) _).alloc (by simp) _).alloc (by simp; omega) _) _ _ ⟨by omega, by omega⟩ ⟨by omega, by omega⟩).mono ?_
  rintro e w1 ⟨rfl, rfl⟩
  rw [HM1.out]
  go_wp2_with fail
  have f1 : w.heap.size + 1 = (w.alloc (.cells #[.slice none 0 0, .slice none 0 0, .slice none 0 0] 28)).heap.size := by simp
  obtain ⟨r, hr⟩ : ∃ r, r = w.alloc (.cells #[.slice none 0 0, .slice none 0 0, .slice none 0 0] 28) := ⟨_, rfl⟩
  obtain ⟨w3, hw3⟩ : ∃ w3, w3 = (r.alloc (.cells #[.int .i64 0] 3)).alloc (.cells #[.slice (some ⟨w.heap.size + 1, 0, none⟩) 1 1, .slice none 0 0, .slice none 0 0] 28) := ⟨_, rfl⟩
  have hrs : r.heap.size = w.heap.size + 1 := by rw [hr]; simp
  have hs3 : w3.heap.size = w.heap.size + 3 := by rw [hw3]; simp [hrs]
  have hB3 : Below w.heap.size w w3 := by rw [hw3, hr]; exact (((Below.refl _ _).alloc (Nat.le_refl _) _).alloc (by simp) _).alloc (by simp; omega) _
  have hbr : Blk w3 w.heap.size 28 [.slice none 0 0, .slice none 0 0, .slice none 0 0] := by
    have h0 := Blk.new w 28 [.slice none 0 0, .slice none 0 0, .slice none 0 0]
    rw [hw3, hr]
    exact (h0.ext (Ext.alloc _ _).1).ext (Ext.alloc _ _).1
  have hbl : Blk w3 (w.heap.size + 1) 3 [.int .i64 0] := by
    have h0 := Blk.new r 3 [.int .i64 0]
    rw [hrs] at h0
    rw [hw3]
    exact h0.ext (Ext.alloc _ _).1
  have hbt : Blk w3 (w.heap.size + 1 + 1) 28 [.slice (some ⟨w.heap.size + 1, 0, none⟩) 1 1, .slice none 0 0, .slice none 0 0] := by
    have h0 := Blk.new (r.alloc (.cells #[.int .i64 0] 3)) 28 [.slice (some ⟨w.heap.size + 1, 0, none⟩) 1 1, .slice none 0 0, .slice none 0 0]
    simp only [World.size_alloc, hrs] at h0
    rw [hw3]
    exact h0
  rw [← hr, ← hw3]
  have HBR := Lib.hid hbr
  have HBT := Lib.hid hbt
  have HB3 := Lib.hid hB3
  have HL0 := Lib.hid (hbl.rep (fun b => b < w.heap.size + 1 ∨ b = w.heap.size + 1 + 1) (by omega) (by simp))
  clear hbr hbl hbt hB3 hw3 hr hrs f1
  go_loopw [6] (fun kv wr => ∃ (j : Nat) (b o k : Nat), kv = .int .i64 ((j : Int) + 1) ∧ j ≤ m1 ∧ w.heap.size + 3 ≤ wr.heap.size ∧ (madeCuts l j).length ≤ 4 ∧
      Hid (Blk wr (w.heap.size + 1 + 1) 28 [.slice (some ⟨b, o, none⟩) (madeCuts l j).length k, .slice none 0 0, .slice none 0 0]) ∧
      Hid (SlRep wr (fun b => b < w.heap.size + 1 ∨ b = w.heap.size + 1 + 1) (ints (madeCuts l j)) (some ⟨b, o, none⟩) k) ∧ Hid (Blk wr w.heap.size 28 [.slice none 0 0, .slice none 0 0, .slice none 0 0]) ∧ Hid (Below w.heap.size w wr)) (fun kv _ => m1 + 1 - (intOf kv).toNat)
  case atStart => exact ⟨0, _, _, _, by simp, Nat.zero_le _, by omega, by simp [madeCuts], HBT, HL0, HBR, HB3⟩
  case round =>
    obtain ⟨j, b, o, k, rfl, hj, hsz, hln, HBK, HC, HBR', HB⟩ := hrel
    by_cases hlt : j < m1
    · have x0 := HBK.out.cell (i := 0) rfl
      have x1 := HBK.out.free 0
      go_wp2_with fail
      have hpk := pickP_range l (2 + j) 6 (by omega)
      obtain ⟨d, hd⟩ : ∃ d : Nat, pickP l (2 + j) 6 = (d : Int) := ⟨(pickP l (2 + j) 6).toNat, by omega⟩
      rw [hd] at hpk
      have hd6 : d < 6 := by omega
      have d0 : (0 : Int) ≤ d := by omega
      have HD := Lib.hid hd
      have HX0 := Lib.hid x0
      clear hd
      refine wp_region_mix_tail (fun w' => Below wr.heap.size wr w' ∧ w'.cell? ⟨w.heap.size + 1 + 1, 0, none⟩ = some (.slice (some ⟨b, o, none⟩) (madeCuts l j).length k)) 10 [(0, true), (1, true), (3, true), (4, true), (5, true), (6, true), (2, false), (7, true), (8, false), (9, false)] (by kernel_rfl) (by kernel_rfl) ⟨(Below.refl _ _).drew, HX0.out⟩ ?_
      simp only [mixList, List.getElem?_toArray, List.getElem?_cons_zero, List.getElem?_cons_succ]
      iterate 5 (apply Exists.intro; refine ⟨fun w' hC => .inl ⟨rfl, .inl ?_⟩, ?_⟩; ((obtain ⟨hC1, hC2⟩ := hC; go_simp; rfl)))
      refine ⟨.int .i64 d, fun w' hC => .inl ⟨rfl, .inr (.inr ⟨12, #[.slice a l.length c, .int .i64 (2 + (j : Int)), .int .i64 6], ?_, ?_⟩)⟩, ?_⟩
      · obtain ⟨hC1, hC2⟩ := hC
        have e2 : IntKind.i64.wrap ((1 : Int) + (j + 1)) = 2 + j := by rw [IntWalk.i64_in _ (by omega)]; omega
        go_simp
        try simp only [e2]
      · refine (HP.out _ (HB.out.trans (hC.1.mono (by omega))) _ _ ⟨by omega, by omega⟩ ⟨by omega, by omega⟩).mono ?_
        rintro e w'' ⟨rfl, rfl⟩
        exact ⟨by rw [HD.out], rfl⟩
      refine mix_loud rfl ?_
      unfold loud
      go_simp
      simp only [louD]
      have hsz2 : w.heap.size + 1 + 1 < wr.heap.size := by omega
      obtain ⟨w4, hw4⟩ : ∃ w4, w4 = wr.alloc (.cells #[.int .i64 1, .int .i64 97, .int .i64 98, .int .i64 99, .int .i64 255, .int .i64 40] 3) := ⟨_, rfl⟩
      have hb4 : Below wr.heap.size wr w4 := by rw [hw4]; exact (Ext.alloc _ _).1
      have hsz4 : w4.heap.size = wr.heap.size + 1 := by rw [hw4]; simp
      have t4 := tab_cell wr d hd6
      rw [← hw4] at t4 ⊢
      have T4 := Lib.hid t4
      clear hw4
      have y4 := below_cell hb4 (p := ⟨w.heap.size + 1 + 1, 0, none⟩) hsz2 HX0.out
      refine ⟨⟨hb4.drew, y4⟩, ?_⟩
      apply Exists.intro
      refine ⟨fun w' hC => .inl ⟨rfl, .inl ?_⟩, ?_⟩
      · obtain ⟨hC1, hC2⟩ := hC
        go_simp
        rfl
      refine mix_loud rfl ?_
      unfold loud
      go_simp
      refine ⟨⟨hb4.drew, y4⟩, ?_⟩
      refine mix_loud rfl ?_
      unfold loud
      go_simp
      simp only [louD]
      have hcr := cutTab_range d hd6
      refine (put_any (madeCuts l j) (iget cutTab d) ⟨by omega, by omega⟩ (by omega) w4.drew (fun b => b < w.heap.size + 1 ∨ b = w.heap.size + 1 + 1) b o k (HC.out.ext hb4.drew)).mono ?_
      rintro e w5 ⟨b', o', c', rfl, hS, hb5⟩
      have hb5' : Below wr.heap.size wr w5 := hb4.trans (((Below.refl wr.heap.size w4).drew).trans ((hb5 : Below w4.heap.size w4.drew w5).mono (show wr.heap.size ≤ w4.heap.size by omega)))
      have y5 := below_cell hb5' (p := ⟨w.heap.size + 1 + 1, 0, none⟩) hsz2 HX0.out
      refine ⟨_, rfl, ⟨hb5', y5⟩, ?_⟩
      have hs5 : w4.heap.size ≤ w5.heap.size := hb5.size
      have hsz5 : w.heap.size + 1 + 1 < w5.heap.size := by omega
      have f5 := below_free hb5' (p := ⟨w.heap.size + 1 + 1, 0, none⟩) hsz2 x1
      have hmc : madeCuts l (j + 1) = iput (madeCuts l j) (iget cutTab d) := by rw [madeCuts, HD.out]; rfl
      have hln' : (iput (madeCuts l j) (iget cutTab d)).length ≤ 4 := by
        have := (madeCuts_ok l (j + 1)).2.2.2
        rw [hmc] at this
        omega
      have HMC := Lib.hid hmc
      have HS := Lib.hid (hS.avoid (A' := fun b => b < w.heap.size + 1 ∨ b = w.heap.size + 1 + 1) (fun q _ hh => ⟨hh, by show q < w4.heap.size; omega⟩))
      have HB5 := Lib.hid hb5'
      clear hmc hS hb5 hb5' y4 hb4 T4
      simp only [wpMix, List.drop_succ_cons, List.drop_zero]
      go_wp2_with fail
      go_roundw
      case rel =>
        refine ⟨j + 1, b', o', c', by simp, by omega, by simp [World.setCell]; omega, by rw [HMC.out]; exact hln', ?_, ?_, ?_, ?_⟩
        · rw [HMC.out]; exact Lib.hid ((HBK.out.ext HB5.out).set 0 _)
        · rw [HMC.out]; exact Lib.hid (HS.out.keep (by simp [World.setCell]) fun q _ hq => Below.heap_setCell _ _ _ _ (fun e => hq (.inr e)))
        · exact Lib.hid ((HBR'.out.ext HB5.out).keep (Below.heap_setCell _ _ _ _ (by show w.heap.size ≠ w.heap.size + 1 + 1; omega)))
        · exact Lib.hid ((HB.out.trans (HB5.out.mono (by omega))).setCell (by show w.heap.size ≤ w.heap.size + 1 + 1; omega) _)
      case measure => simp [intOf]; omega
    · have he : j = m1 := by omega
      subst he
      have hC : madeC l = madeCuts l j := by unfold madeC; rw [HK.out]
      obtain ⟨n, hn⟩ : ∃ n, n = (madeCuts l j).length := ⟨_, rfl⟩
      rw [← hn] at HBK hln
      have hbox := Box.mk (T := []) (rows := []) (accs := []) HBK.out (OwnC.nil wr wr.heap.size 22) (HdRep.nil _ _) (OwnC.nil wr wr.heap.size 4) (by omega) (Nat.le_refl _)
      have HBX := Lib.hid hbox
      have HCC := Lib.hid hC
      have HNN := Lib.hid hn
      clear hC hn hbox HBT HL0 HBR HB3 hs3
      go_wp2_with fail
      obtain ⟨base, hbase⟩ : ∃ base, base = wr.heap.size := ⟨_, rfl⟩
      rw [← hbase] at HBX
      go_loopw [7] (fun kv wx => ∃ (s : Nat) (T : List (Option Addr × Nat)) (ng : Option Addr) (nc' : Nat) (ag : Option Addr) (ac' : Nat), kv = .int .i64 s ∧ s ≤ m0 + 1 ∧ base ≤ wx.heap.size ∧ T.length = s ∧
        Hid (Box wx base (w.heap.size + 1 + 1) 28 (.slice (some ⟨b, o, none⟩) n k) T ((List.range s).map (madeRow l)) ((List.range s).map (madeAcc l)) (.slice ng s nc') (.slice ag s ac')) ∧
        Hid (SlRep wx (fun q => q < w.heap.size + 1 ∨ q = w.heap.size + 1 + 1 ∨ base ≤ q) (ints (madeCuts l j)) (some ⟨b, o, none⟩) k) ∧ Hid (Blk wx w.heap.size 28 [.slice none 0 0, .slice none 0 0, .slice none 0 0]) ∧ Hid (Below w.heap.size w wx)) (fun kv _ => m0 + 1 - (intOf kv).toNat)
      case atStart => exact ⟨0, [], none, 0, none, 0, by simp, Nat.zero_le _, by omega, rfl, HBX, Lib.hid (HC.out.avoid (fun q hq hh => by rcases hh with hh | hh | hh; exact .inl hh; exact .inr hh; omega)), HBR', HB⟩
      case round =>
        clear HBX HC HBR' HB HBK hsz hbase
        obtain ⟨s, T, ng, nc', ag, ac', rfl, hs, hsz, hT, HBX, HC, HBR, HB⟩ := hrel
        obtain ⟨wx, hwx⟩ : ∃ wx, wx = wr := ⟨_, rfl⟩
        subst hwx
        by_cases hlt : s < m0 + 1
        · go_wp2_with fail
          refine (HP.out _ HB.out _ _ ⟨by omega, by omega⟩ ⟨by omega, by omega⟩).mono ?_
          rintro e w'' ⟨rfl, rfl⟩
          obtain ⟨N, hN⟩ : ∃ N, N = pickP l (5 + s) 1048576 := ⟨_, rfl⟩
          have hNr : 0 ≤ N ∧ N < 1048576 := by rw [hN]; exact pickP_range l _ _ (by omega)
          rw [← hN]
          have HNV := Lib.hid hN
          have hnk := Lib.hid (fun i => nk_range N hNr i)
          clear hN
          go_wp2_with fail
          go_loopw [8, 9, 10] (fun v8 v9 v10 wi => ∃ (i : Nat) (x : Int) (rg : Option Addr) (rc : Nat), v8 = .slice rg i rc ∧ v9 = .int .i64 x ∧ v10 = .int .i64 i ∧ i ≤ n ∧ (0 ≤ x ∧ x < 1048576) ∧ Hid (x = nk N i) ∧
            Hid (OwnC wi wx.heap.size 3 (.slice rg i rc) (ints ((List.range i).map fun i => nk N i % (1 + (m0 : Int))))) ∧ Hid (Below wx.heap.size wx wi)) (fun _ _ v10 _ => n - (intOf v10).toNat)
          case atStart => exact ⟨0, N, none, 0, rfl, rfl, by simp, Nat.zero_le _, hNr, Lib.hid rfl, Lib.hid (OwnC.nil _ _ _), Lib.hid (Below.refl _ _)⟩
          case round =>
            obtain ⟨i, x, rg, rc, rfl, rfl, rfl, hi, hxr, HX, HO, HBI⟩ := hrel
            have x0 := below_cell HBI.out (p := ⟨w.heap.size + 1 + 1, 0, none⟩) (by have h1 := HBX.out.gl; have h2 := HBX.out.bl; show w.heap.size + 1 + 1 < wx.heap.size; omega) (HBX.out.blk.cell (i := 0) rfl)
            by_cases hlt2 : i < n
            · go_wp2_with (first
                | (at_builtin; refine wpList_append_c1 rfl (.tmp 51) (.tmp 55) 22 3 rfl tabI rfl (by omega) wx.heap.size (.slice rg i rc) _ rfl HO.out HBI.out.size (.int .i64 _) 3 _ rfl rfl rfl (by simp; omega) ?_; intro v1 w1 hg1; have HG1 := Lib.hid hg1; clear hg1))
              have hgo := HG1.out.own
              have er : ints ((List.range (i + 1)).map fun i => nk N i % (1 + (m0 : Int))) = ints ((List.range i).map fun i => nk N i % (1 + (m0 : Int))) ++ [.int .i64 (x % (1 + (m0 : Int)))] := by
                simp [List.range_succ, HX.out]
              rw [← er] at hgo
              obtain ⟨rg', rc', hv⟩ := hgo.form
              simp only [List.length_map, List.length_range] at hv
              subst hv
              go_roundw
              case rel => exact ⟨i + 1, x / 7, rg', rc', rfl, rfl, by simp, by omega, by omega, Lib.hid (by rw [nk, HX.out]), Lib.hid hgo, Lib.hid (HBI.out.trans HG1.out.below)⟩
              case measure => simp [intOf]; omega
            · have he2 : i = n := by omega
              subst he2
              have hrow : ((List.range i).map fun i => nk N i % (1 + (m0 : Int))) = madeRow l s := by
                have hm : (madeMany l : Int) = 1 + m0 := by rw [HN.out]; omega
                unfold madeRow
                rw [hm, HCC.out, ← HNN.out, ← HNV.out]
              have hacc : (x % 3 == 0) = madeAcc l s := by
                unfold madeAcc
                rw [HX.out, HCC.out, ← HNN.out, ← HNV.out]; by_cases e : nk N i % 3 = 0 <;> simp [e]
              rw [hrow] at HO
              have HACC := Lib.hid hacc
              have hlen : (madeRow l s).length = i := by unfold madeRow; rw [List.length_map, List.length_range, HCC.out, ← HNN.out]
              have HLEN := Lib.hid hlen
              have hbx := HBX.out.ext HBI.out
              have HBX2 := Lib.hid hbx
              have hx1 := hbx.blk.cell (i := 1) rfl
              have hx1f := hbx.blk.free 1
              have hgl := hbx.gl
              have hbl := hbx.bl
              have hgx : w.heap.size + 1 + 1 < wr.heap.size := by omega
              have hx2 := hbx.blk.cell (i := 2) rfl
              have hx2f := hbx.blk.free 2
              have hn1 : Value.ownBlock (.slice ng s nc') ≠ some (w.heap.size + 1 + 1) := fun e => by have := (hbx.own1.lt e).1; omega
              have hn2 : Value.ownBlock (.slice ag s ac') ≠ some (w.heap.size + 1 + 1) := fun e => by have := (hbx.own2.lt e).1; omega
              have hrr : SlRep wr (fun b => b < base ∨ Value.ownBlock (.slice ng s nc') = some b ∨ Value.ownBlock (.slice ag s ac') = some b) (ints (madeRow l s)) rg rc :=
                HO.out.rep fun q hq hh => by
                  rcases hh with hh | hh | hh
                  · omega
                  · have := (HBX.out.own1.lt hh).2; omega
                  · have := (HBX.out.own2.lt hh).2; omega
              have HRR := Lib.hid hrr
              have HN1 := Lib.hid hn1
              have HN2 := Lib.hid hn2
              have hl1 : (hdrs T ((List.range s).map (madeRow l)) ++ [Value.slice rg i rc]).length = s + 1 := by unfold hdrs; rw [List.length_append, List.length_map, List.length_zip, List.length_map, List.length_range]; simp; omega
              have HL1 := Lib.hid hl1
              have hl2 : (boos ((List.range s).map (madeAcc l)) ++ [Value.bool (madeAcc l s)]).length = s + 1 := by simp
              have HL2 := Lib.hid hl2
              clear hrow hacc hlen hbx hrr hn1 hn2 hl1 hl2
              go_wp2_with (first
                | (at_builtin; refine wpList_append_c1 rfl (.tmp 60) (.tmp 62) 23 22 rfl tabL rfl (by omega) base (.slice ng s nc') _ rfl HBX2.out.own1 HBX2.out.bl (.slice rg i rc) 22 _ rfl rfl rfl (by unfold hdrs; rw [List.length_map, List.length_zip]; omega) ?_; intro v1 w1 hg1; obtain ⟨ng1, nc1, hv1⟩ := grew_form hg1; rw [HL1.out] at hv1; subst hv1; have hz1 : wr.heap.size ≤ w1.heap.size := hg1.below.size; have q1 := hg1.cell (b := w.heap.size + 1 + 1) 1 hgx HN1.out hx1; have q1f := hg1.free (b := w.heap.size + 1 + 1) 1 hgx HN1.out hx1f; have q2 := hg1.cell (b := w.heap.size + 1 + 1) 2 hgx HN1.out hx2; have q2f := hg1.free (b := w.heap.size + 1 + 1) 2 hgx HN1.out hx2f; have HG1 := Lib.hid hg1; clear hg1)
                | (at_builtin; have hbx3 := HBX2.out.row (w' := w1) (v1' := .slice ng1 (s + 1) nc1) HRR.out (by rw [HLEN.out]; exact HG1.out); refine wpList_append_c1 rfl (.tmp 66) (.tmp 70) 24 4 rfl tabBo rfl (by omega) base (.slice ag s ac') _ rfl hbx3.own2 hbx3.bl (.bool (x % 3 == 0)) 4 _ rfl (by simp [World.setCell]) rfl (by simp; omega) ?_; intro v2 w2 hg2; rw [HACC.out] at hg2; obtain ⟨ag2, ac2, hv2⟩ := grew_form hg2; rw [HL2.out] at hv2; subst hv2; have hgx3 : w.heap.size + 1 + 1 < (w1.setCell ⟨w.heap.size + 1 + 1, 1, none⟩ (.slice ng1 (s + 1) nc1)).heap.size := (by have := hbx3.gl; have := hbx3.bl; omega); have p2 := hg2.cell (b := w.heap.size + 1 + 1) 2 hgx3 HN2.out (hbx3.blk.cell (i := 2) rfl); have p2f := hg2.free (b := w.heap.size + 1 + 1) 2 hgx3 HN2.out (hbx3.blk.free 2); have HG2 := Lib.hid hg2; have HBX3 := Lib.hid hbx3; clear hg2 hbx3))
              have hb := HB.out.trans ((HBI.out.mono (by omega)).trans ((HG1.out.below.mono (by omega)).trans ((Below.refl w.heap.size w1).setCell (p := ⟨w.heap.size + 1 + 1, 1, none⟩) (by show w.heap.size ≤ w.heap.size + 1 + 1; omega) (.slice ng1 (s + 1) nc1))))
              have hb2 := hb.trans (HG2.out.below.mono (by omega))
              have hgl' := HBX3.out.gl
              have hkeep : ∀ q, q < base → q ≠ w.heap.size + 1 + 1 → (w2.setCell ⟨w.heap.size + 1 + 1, 2, none⟩ (.slice ag2 (s + 1) ac2)).heap[q]? = wx.heap[q]? := fun q hq hne => by
                rw [Below.heap_setCell _ _ _ _ (by show q ≠ w.heap.size + 1 + 1; exact hne), HG2.out.below.block q hq, Below.heap_setCell _ _ _ _ (by show q ≠ w.heap.size + 1 + 1; exact hne), HG1.out.below.block q hq, HBI.out.block q (by omega)]
              have hzz := HBI.out.size
              have hz3 : w1.heap.size ≤ w2.heap.size := by simpa [World.setCell] using HG2.out.below.size
              have hzf : wx.heap.size ≤ (w2.setCell ⟨w.heap.size + 1 + 1, 2, none⟩ (.slice ag2 (s + 1) ac2)).heap.size := by
                simp [World.setCell]
                omega
              have HK2 := Lib.hid hkeep
              go_roundw
              case rel =>
                refine ⟨s + 1, T ++ [(rg, rc)], ng1, nc1, ag2, ac2, by simp, by omega, by omega, by simp; omega, ?_, ?_, ?_, ?_⟩
                · have := HBX3.out.acc HG2.out
                  rw [List.range_succ, List.map_append, List.map_append]
                  exact Lib.hid this
                · exact Lib.hid (HC.out.keep hzf fun q _ hn => HK2.out q (by omega) (by omega))
                · exact Lib.hid (HBR.out.keep (HK2.out _ (by omega) (by omega)))
                · exact Lib.hid (hb2.setCell (p := ⟨w.heap.size + 1 + 1, 2, none⟩) (by show w.heap.size ≤ w.heap.size + 1 + 1; omega) _)
              case measure => simp [intOf]; omega
        · have he3 : s = m0 + 1 := by omega
          subst he3
          have z0 := HBX.out.blk.cell (i := 0) rfl
          have z1 := HBX.out.blk.cell (i := 1) rfl
          have z2 := HBX.out.blk.cell (i := 2) rfl
          have u0 := HBR.out.cell (i := 0) rfl
          have u1 := HBR.out.cell (i := 1) rfl
          have u2 := HBR.out.cell (i := 2) rfl
          have n0 := HBR.out.free 0
          have n1 := HBR.out.free 1
          have n2 := HBR.out.free 2
          go_wp2_with fail
          obtain ⟨k0, k1, k2⟩ := set3_cells u0 u1 u2 (.slice (some ⟨b, o, none⟩) n k) (.slice ng (m0 + 1) nc') (.slice ag (m0 + 1) ac')
          simp only [set3] at k0 k1 k2
          refine bodyPost_ret (v := .agg #[.slice (some ⟨b, o, none⟩) n k, .slice ng (m0 + 1) nc', .slice ag (m0 + 1) ac']) (by simp [results, Try.results5, go_sem, k0, k1, k2]) rfl ?_
          have hgl := HBX.out.gl
          have hfar : ∀ q, q < wx.heap.size → ¬ (q < w.heap.size + 1) → (set3 wx w.heap.size (.slice (some ⟨b, o, none⟩) n k) (.slice ng (m0 + 1) nc') (.slice ag (m0 + 1) ac')).heap[q]? = wx.heap[q]? := fun q _ hn => set3_other _ _ _ _ _ _ (by omega)
          have hz : wx.heap.size ≤ (set3 wx w.heap.size (.slice (some ⟨b, o, none⟩) n k) (.slice ng (m0 + 1) nc') (.slice ag (m0 + 1) ac')).heap.size := by rw [set3_size]; exact Nat.le_refl _
          refine ⟨⟨some ⟨b, o, none⟩, k, ng, nc', ag, ac'⟩, by simp [auv, madeP, HCC.out, HNN.out, HN.out], ⟨?_, ?_, ?_⟩, set3_below HB.out (Nat.le_refl _) _ _ _⟩
          · have := (HC.out.avoid (A' := fun q => q < w.heap.size + 1) (fun q _ hh => .inl hh)).keep hz hfar
            simp only [madeP, HCC.out]
            exact this.avoid fun q _ hh => by omega
          · have h1 := (HBX.out.hd.avoid (A' := fun q => q < w.heap.size + 1) (fun q _ hh => .inl (by omega))).rows (HBX.out.own1.rep (A := fun q => q < w.heap.size + 1) (fun q hq hh => by omega))
            simp only [madeP, HN.out]
            exact (h1.keep hz hfar).avoid fun q _ hh => by omega
          · have h1 := HBX.out.own2.rep (A := fun q => q < w.heap.size + 1) (fun q hq hh => by omega)
            simp only [madeP, HN.out]
            exact (h1.keep hz hfar).avoid fun q _ hh => by omega
end Go.Proofs.Ytbepohpppailnaa
