/- Walks: number at expressions. -/
import Derived.Test.YtbepohpppailnaaA8
import Derived.StringKeys
set_option linter.unusedSimpArgs false
set_option linter.unusedVariables false
namespace Go.Proofs.Ytbepohpppailnaa
open Go.RowKit Go.Maps Go.WideMaps
attribute [local go_sem ↓] Go.wp_at_zero Go.wp_at_succ

def ofF (cuts : List Int) (s : Rx) (k : Nat) : Option Rx := if nodes (drv (cuts.getD k 0).toNat (nrm s)) ≤ 64 then some (drv (cuts.getD k 0).toNat (nrm s)) else none
def NumPost (w0 : World) (res : Option (List Rx × List (List Nat))) (e : Ending) (w' : World) : Prop :=
  Below w0.heap.size w0 w' ∧ match res with
    | none => e = .returned (.tuple #[.slice none 0 0, .slice none 0 0, .int .i64 4])
    | some (l, t) => ∃ g cap na nc fa fc, e = .returned (.tuple #[.slice g l.length cap, .slice na t.length nc, .int .i64 0]) ∧ RxsRep w' (fun _ => False) l g cap fa fc ∧ RowsRep w' (fun b => b < w0.heap.size) (t.map fun r => ints (nats r)) na nc ∧ ∀ x ∈ l, rvalid x = 0
/-- the contract of Of's second closure -/
def NextC (P : Program) (f : FuncId) (cuts : List Int) : Prop :=
  ∀ (s : Rx), rvalid s = 0 → ∀ (k : Nat), k < cuts.length → ∀ (w : World) (A A' : Nat → Prop) (a : Option Addr) (c : Nat), RxRep w A s a c → ∀ (cb : Nat) (ca : Option Addr) (cc : Nat),
    w.cell? ⟨cb, 0, none⟩ = some (.slice ca cuts.length cc) → SlRep w A' (ints cuts) ca cc →
    Calls P f #[rxv s a c, .int .i64 k, .pointer (some ⟨cb, 0, none⟩)] w fun e w' => ∃ a' c', e = .returned (.tuple #[rxv (rxLim (drv (cuts.getD k 0).toNat (nrm s))) a' c', .int .i64 (errLim (drv (cuts.getD k 0).toNat (nrm s)))]) ∧ Below w.heap.size w w' ∧ RxRep w' (fun b => b < w.heap.size) (rxLim (drv (cuts.getD k 0).toNat (nrm s))) a' c'
theorem rvalid_mk {r : Rx} (hp : proper r = true) (hn : nodes r ≤ 64) : rvalid r = 0 := by
  unfold rvalid
  have := (cdown_spec r 64 (by omega)).1 (by omega)
  rw [if_neg (by omega), if_pos hp]
theorem keyedS : Keyed Try.prog 9 := string_keyed Try.underlying9
theorem keyS_lit (r : Rx) (hn : nodes r ≤ 64) : ∃ x, keyOf Try.prog 9 (keyS r) = some x := by
  refine ⟨_, keyOf_string_mk Try.underlying9 ?_⟩
  rw [strOfNums_size]
  simp only [nats, List.length_map, keyA_length]
  unfold maxLen
  omega
theorem zeroI (w : World) : (zeroValue 3).run Try.prog w = .ok (.int .i64 0) w := by kernel_rfl

theorem loop_step_none {cuts : List Int} {n i : Nat} {l : List Rx} {t : List (List Nat)} {s : Rx} (hi : i < 257) (hs : l[i]? = some s) (hr : rowP (ofF cuts s) n 0 l [] = none) : loopP (ofF cuts) n (257 - i) i l t = none := by
  obtain ⟨m, hm⟩ : ∃ m, 257 - i = m + 1 := ⟨256 - i, by omega⟩
  rw [hm]; simp only [loopP, hs, hr]
theorem loop_step_some {cuts : List Int} {n i : Nat} {l l' : List Rx} {t : List (List Nat)} {r : List Nat} {s : Rx} (hi : i < 257) (hs : l[i]? = some s) (hr : rowP (ofF cuts s) n 0 l [] = some (l', r)) : loopP (ofF cuts) n (257 - i) i l t = loopP (ofF cuts) n (257 - (i + 1)) (i + 1) l' (t ++ [r]) := by
  obtain ⟨m, hm⟩ : ∃ m, 257 - i = m + 1 := ⟨256 - i, by omega⟩
  have : 257 - (i + 1) = m := by omega
  rw [hm, this]; simp only [loopP, hs, hr]
theorem loop_end {cuts : List Int} {n i : Nat} {l : List Rx} {t : List (List Nat)} (hi : i < 257) (hs : l.length ≤ i) : loopP (ofF cuts) n (257 - i) i l t = some (l, t) := by
  obtain ⟨m, hm⟩ : ∃ m, 257 - i = m + 1 := ⟨256 - i, by omega⟩
  rw [hm]; simp only [loopP, List.getElem?_eq_none hs]
theorem wpList_append_rx2 {P : Program} {w : World} {ops : Array Oper} {rest : List Oper} {o : Oper} {ac : Act} {Q : Exit → Act → World → Prop} (hgd : o.guard = none) (s x : Operand) (t e : TypeId) (ho : o.op = .call { callee := .builtin .append, args := #[s, x], argTypes := #[t, t] })
    (T : Tab P t e) (A : Nat → Prop) (base : Nat) (v : Value) (l : List Pl) (hs : ac.eval s = v) (hown : OwnRx w A base e v l) (hbase : base ≤ w.heap.size)
    (ks : List Rx) (a : Option Addr) (c : Nat) (fa : Nat → Option Addr) (fc : Nat → Nat) (hx : ac.eval x = .slice a ks.length c) (hsr : RxsRep w (fun b => A b ∨ v.ownBlock = some b) ks a c fa fc) (hlen : l.length + ks.length ≤ 1000000000) (hA : ∀ b, A b → b < w.heap.size)
    (h : ∀ g cap w', OwnRx w' A base e (.slice g (l.length + ks.length) cap) (l ++ pls ks fa fc) → Below base w w' → (∀ b, b < w.heap.size → v.ownBlock ≠ some b → w'.heap[b]? = w.heap[b]?) → wpList P ops Q rest (ac.put o.dst (.slice g (l.length + ks.length) cap)) w') : wpList P ops Q (o :: rest) ac w := by
  refine wpList_plain hgd fun _ hK => ?_
  obtain ⟨g, cap, w', hr, h1, h2, h3⟩ := run_append_rx2 t o.type e T A base v l hown hbase ks a c fa fc hsr hlen hA
  unfold Oper.wp execOp
  simp only [ho, resolve, invoke, builtin, Sem.run_bind, Sem.run_pure, Result.andThen_ok, List.map_toArray, List.map_cons, List.map_nil, hs, hx, hr]
  exact hK _ _ (h g cap w' h1 h2 h3)

set_option maxRecDepth 100000 in
set_option maxHeartbeats 1000000 in
theorem number_rx_any (cuts : List Int) (hnext : NextC Try.prog 31 cuts) (s0 : Rx) (hs0 : rvalid s0 = 0) (w : World) (A A' : Nat → Prop) (a : Option Addr) (c : Nat) (hr : RxRep w A s0 a c) (cb : Nat) (ca : Option Addr) (cc : Nat)
    (hcell : w.cell? ⟨cb, 0, none⟩ = some (.slice ca cuts.length cc)) (hcuts : SlRep w A' (ints cuts) ca cc) (hcl : cuts.length ≤ 1000) :
    Calls Try.prog 28 #[rxv s0 a c, .int .i64 cuts.length, .func (.func 29) #[] #[], .func (.func 31) #[] #[.pointer (some ⟨cb, 0, none⟩)]] w (NumPost w (numP (ofF cuts) cuts.length s0)) := by
  obtain ⟨hp0, hn0⟩ := rvalid_zero hs0
  have hcb := World.block_lt_of_cell? w _ hcell
  simp only at hcb
  obtain ⟨lx, hlx⟩ := keyS_lit s0 hn0
  have hby0 := hr.bytey hp0 hn0
  -- the worlds ahead
  let bx : Obj := .cells #[.int .i64 s0.k, .int .u8 s0.lo, .int .u8 s0.hi, .slice a s0.ks.length c] 54
  have hE1 : Ext w (((w.alloc bx).alloc bx).alloc (.map #[] 0)) := ((Ext.alloc w bx).trans (Ext.alloc _ bx)).trans (Ext.alloc _ _)
  have hm0 : NumMap (((w.alloc bx).alloc bx).alloc (.map #[] 0)) (w.heap.size + 2) (([] : List Rx).map keyS) := by
    have := NumMap.made ((w.alloc bx).alloc bx)
    simpa using this
  have hown0 : OwnRx (((w.alloc bx).alloc bx).alloc (.map #[] 0)) (fun b => b = w.heap.size + 2 ∨ Value.ownBlock (.slice none 0 0) = some b ∨ False) w.heap.size 54 (.slice (some ⟨w.heap.size + 1, 0, none⟩) 1 1) [⟨s0, a, c⟩] := by
    have h1 := OwnRx.box (w := w.alloc bx) (A := fun b => w.heap.size + 2 ≤ b) (base := w.heap.size) (p := ⟨s0, a, c⟩) (e := 54) (by simp) ((hr.old.ext (Ext.alloc w bx).1).avoid fun b hb hh => .inr (by omega))
    simp only [World.size_alloc] at h1
    refine ((h1.ext (Ext.alloc _ (.map #[] 0)).1)).avoidAll fun b hb hh => ?_
    rcases hh with hh | hh | hh
    · exact .inl (by omega)
    · simp [Value.ownBlock] at hh
    · exact hh.elim
  have HM0 := Lib.hid hm0
  have HOWN0 := Lib.hid hown0
  have HK0 := Lib.hid (Of1_any s0 hp0 hn0 (((w.alloc bx).alloc bx).alloc (.map #[] 0)) A a c (hr.ext hE1.1))
  have HE1 := Lib.hid hE1
  have HCUTS := Lib.hid hcuts
  have HNEXT := Lib.hid hnext
  have HLX := Lib.hid hlx
  have HBY0 := Lib.hid hby0
  have HS0 := Lib.hid hs0
  clear hm0 hown0 hE1 hcuts hnext hlx hby0 hs0 hr hp0
  have hmm := @run_makeMap Try.prog
  simp only [rxv] at HK0 ⊢
  go_enter Try.func28, Try.ntmps28
  go_wp2_with fail
  refine HK0.out.mono ?_
  rintro e w1 ⟨rfl, hb1⟩
  have hsz1 := hb1.size
  simp only [World.size_alloc] at hsz1
  have hm1 := HM0.out.ext hb1
  obtain ⟨w2, hput, hm2, hg2⟩ := hm1.put keyedS Try.underlying78 (by simp) s0 lx HLX.out (by simp) (by simp)
  simp only [List.length_nil, Int.ofNat_zero, Int.natCast_zero, List.nil_append] at hput hm2
  have hM : (w.heap.size + 2) = w.heap.size + 1 + 1 := rfl
  have hst : NumS w w2 w.heap.size (w.heap.size + 2) cuts.length (fun _ => False) (.slice (some ⟨w.heap.size + 1, 0, none⟩) 1 1) (.slice none 0 0) [⟨s0, a, c⟩] [] := by
    have h0 : NumS w (((w.alloc bx).alloc bx).alloc (.map #[] 0)) w.heap.size (w.heap.size + 2) cuts.length (fun _ => False) (.slice (some ⟨w.heap.size + 1, 0, none⟩) 1 1) (.slice none 0 0) [⟨s0, a, c⟩] [] :=
      ⟨HOWN0.out, by simp only [List.mem_singleton]; rintro p rfl; exact ⟨HS0.out, HBY0.out⟩, by simp, by simp, OwnC.nil _ _ _, by simp, HE1.out.1, by simp; omega⟩
    refine (h0.ext (hb1.mono (by simp))).keep (fun b => b = w.heap.size + 2) (fun b h => .inl h) ?_ ?_ ?_ hg2.size (fun b hb hn => hg2.block b hb (fun e => hn (by cases e; rfl)))
    · intro b hb; simp [Value.ownBlock] at hb; omega
    · intro b hb; simp [Value.ownBlock] at hb
    · exact (HE1.out.1.trans (hb1.mono (by simp; omega))).grown hg2 (by omega) (fun k hk => by injection hk with hk; omega)
  have HST := Lib.hid hst
  have HM2 := Lib.hid hm2
  clear hst hm1 hm2 hg2 hb1 HK0 HOWN0 HM0 hmm
  go_wp2_with fail
  clear hput
  go_loopw [11, 13, 14] (fun sv tv iv wr => ∃ (i : Nat) (pl : List Pl) (T : List (Nat × List Nat)) (g : Option Addr) (cap : Nat) (tg : Option Addr) (tcap : Nat), iv = .int .i64 i ∧ i ≤ pl.length ∧ pl.length ≤ 256 ∧ sv = .slice g pl.length cap ∧ tv = .slice tg T.length tcap ∧
      Hid (NumS w wr w.heap.size (w.heap.size + 2) cuts.length (fun _ => False) (.slice g pl.length cap) (.slice tg T.length tcap) pl T) ∧ Hid (NumMap wr (w.heap.size + 2) ((pl.map Pl.r).map keyS)) ∧ Hid (loopP (ofF cuts) cuts.length (257 - i) i (pl.map Pl.r) (T.map Prod.snd) = numP (ofF cuts) cuts.length s0) ∧ Hid (T.length = i))
    (fun _ _ iv _ => 257 - (intOf iv).toNat)
  case atStart => exact ⟨0, [⟨s0, a, c⟩], [], some ⟨w.heap.size + 1, 0, none⟩, 1, none, 0, by simp, by simp, by simp, rfl, rfl, HST.out |> Lib.hid, Lib.hid (by simpa using HM2.out), Lib.hid rfl, Lib.hid rfl⟩
  case round =>
    obtain ⟨i, pl, T, g, cap, tg, tcap, rfl, hi, h256, rfl, rfl, HS, HM, HL, HT⟩ := hrel
    by_cases hlt : i < pl.length
    · have hmk := run_make_c (P := Try.prog) 22 3 tabI rfl (by omega) cuts.length (by omega) wr
      obtain ⟨pi, hpi⟩ : ∃ pi, pl[i]? = some pi := ⟨_, List.getElem?_eq_getElem hlt⟩
      have hsz : w.heap.size ≤ wr.heap.size := HS.out.hbase
      have hmbl : w.heap.size + 2 < wr.heap.size := HM.out.lt
      have hpv := HS.out.good pi (List.mem_of_getElem? hpi)
      have hs1 : NumS w (wr.alloc (.cells (List.replicate cuts.length (.int .i64 0)).toArray 3)) w.heap.size (w.heap.size + 2) cuts.length (fun b => b = wr.heap.size) (.slice g pl.length cap) (.slice tg T.length tcap) pl T :=
        HS.out.fresh (fun b h => h.elim) _ (fun b h => by omega) (Ext.alloc wr _).1
      have hm1 := HM.out.ext (Ext.alloc wr (.cells (List.replicate cuts.length (.int .i64 0)).toArray 3)).1
      have hb1 := Blk.new wr 3 (List.replicate cuts.length (.int .i64 0))
      have hpk : rvalid pi.r = 0 := hpv.1
      have hp6 := rvalid_zero hpk
      have HP6 := Lib.hid hp6
      have HPI := Lib.hid hpi
      have HPI0 := Lib.hid (show (pl.map Pl.r)[i]? = some pi.r by rw [List.getElem?_map, hpi]; rfl)
      have HS1 := Lib.hid hs1
      have HM1 := Lib.hid hm1
      have HB1 := Lib.hid hb1
      have HPV := Lib.hid hpk
      have HHS := Lib.hid HS
      clear hpi hs1 hm1 hb1 hpv hpk hp6 HS HM
      go_wp2_with fail
      clear hmk
      obtain ⟨wo, rfl⟩ : ∃ wo : World, wo = wr := ⟨_, rfl⟩
      go_loopw [11, 37] (fun sv kv wq => ∃ (k : Nat) (ql : List Pl) (r : List Nat) (g : Option Addr) (cap : Nat), kv = .int .i64 k ∧ k ≤ cuts.length ∧ i < ql.length ∧ ql.length ≤ 256 ∧ sv = .slice g ql.length cap ∧ wo.heap.size < wq.heap.size ∧
          Hid (r.length = k) ∧ Hid (ql[i]? = some pi) ∧ Hid (NumS w wq w.heap.size (w.heap.size + 2) cuts.length (fun b => b = wo.heap.size) (.slice g ql.length cap) (.slice tg T.length tcap) ql T) ∧ Hid (NumMap wq (w.heap.size + 2) ((ql.map Pl.r).map keyS)) ∧
          Hid (Blk wq wo.heap.size 3 (ints (nats r) ++ List.replicate (cuts.length - k) (.int .i64 0))) ∧ Hid (rowP (ofF cuts pi.r) (cuts.length - k) k (ql.map Pl.r) r = rowP (ofF cuts pi.r) cuts.length 0 (pl.map Pl.r) []))
        (fun _ kv _ => cuts.length - (intOf kv).toNat)
      case atStart => exact ⟨0, pl, [], g, cap, by simp, by omega, hlt, h256, rfl, by simp, Lib.hid rfl, HPI, HS1, HM1, Lib.hid (by simpa [nats] using HB1.out), Lib.hid rfl⟩
      case round =>
        clear HS1 HM1 HB1 HPI
        obtain ⟨k, ql, r, g', cap', rfl, hk, hiq, hq256, rfl, hszq, HR, HPI, HS, HM, HB, HROW⟩ := hrel
        by_cases hkl : k < cuts.length
        · obtain ⟨b, o, hga, hbb, hat, hxr⟩ := HS.out.states.get HPI.out
          subst hga
          obtain ⟨g0, g1, g2, g3⟩ := hat
          have hcq : wr.cell? ⟨cb, 0, none⟩ = some (.slice ca cuts.length cc) := below_cell HS.out.below hcb hcell
          have HCALL := Lib.hid (HNEXT.out pi.r HPV.out k hkl wr (fun _ => False) A' _ _ hxr cb ca cc hcq (HCUTS.out.ext HS.out.below))
          clear hxr hcq
          simp only [rxv] at HCALL
          generalize hd : drv (cuts.getD k 0).toNat (nrm pi.r) = d at *
          have hdp : proper d = true := by rw [← hd]; exact drv_proper _ _ (nrm_proper _ HP6.out.1)
          have hfd : ofF cuts pi.r k = if nodes d ≤ 64 then some d else none := by rw [← hd]; rfl
          have HFD := Lib.hid hfd
          have HDP := Lib.hid hdp
          clear hd hfd hdp
          have hszw := HS.out.hbase
          by_cases hn : nodes d ≤ 64
          · have e1 : rxLim d = d := by unfold rxLim; rw [if_pos hn]
            have e2 : errLim d = 0 := by unfold errLim; rw [if_pos hn]
            rw [e1, e2] at HCALL
            have HF : Hid (ofF cuts pi.r k = some d) := Lib.hid (by rw [HFD.out, if_pos hn])
            clear e1 e2 HFD
            have hdv := rvalid_mk HDP.out hn
            have HDV := Lib.hid hdv
            clear hdv
            go_wp2_with fail
            refine HCALL.out.mono ?_
            rintro e w3 ⟨a3, c3, rfl, hb3, hr3⟩
            have hs3 := hb3.size
            have hby := hr3.bytey HDP.out hn
            obtain ⟨ly, hly⟩ := keyS_lit d hn
            have hE3 := Ext.alloc w3 (.cells #[.int .i64 d.k, .int .u8 d.lo, .int .u8 d.hi, .slice a3 d.ks.length c3] 54)
            have HK1 := Lib.hid (fun W hW => Of1_any d HDP.out hn W (fun b => b < wr.heap.size) a3 c3 ((hr3.ext hE3.1).ext hW))
            have hS3 := (HS.out.ext hb3).ext hE3.1
            have hM3 := (HM.out.ext hb3).ext hE3.1
            have hB3 := (HB.out.ext hb3).ext hE3.1
            have HR3 := Lib.hid (hr3.ext hE3.1)
            have HBY := Lib.hid hby
            have HLY := Lib.hid hly
            have HS3 := Lib.hid hS3
            have HM3 := Lib.hid hM3
            have HB3 := Lib.hid hB3
            have hinj : ∀ b ∈ ql.map Pl.r, keyS b = keyS d → b = d := fun b hb h => by
              obtain ⟨p, hp, rfl⟩ := List.mem_map.1 hb
              obtain ⟨h1, h2⟩ := HS.out.good p hp
              exact keyS_inj (rvalid_zero h1).1 HDP.out h2 hby h
            have hkv : ∀ b ∈ ql.map Pl.r, ∃ x, keyOf Try.prog 9 (keyS b) = some x := fun b hb => by
              obtain ⟨p, hp, rfl⟩ := List.mem_map.1 hb
              exact keyS_lit _ (rvalid_zero (HS.out.good p hp).1).2
            have hinj2 : ∀ a b, a ∈ ql.map Pl.r → b ∈ ql.map Pl.r → keyS a = keyS b → a = b := fun x y hx hy h => by
              obtain ⟨p, hp, rfl⟩ := List.mem_map.1 hx
              obtain ⟨q, hq, rfl⟩ := List.mem_map.1 hy
              obtain ⟨h1, h2⟩ := HS.out.good p hp
              obtain ⟨h3, h4⟩ := HS.out.good q hq
              exact keyS_inj (rvalid_zero h1).1 (rvalid_zero h3).1 h2 h4 h
            have HI1 := Lib.hid hinj
            have HI2 := Lib.hid hinj2
            have HKV := Lib.hid hkv
            have hnd := HS.out.nd
            have HND := Lib.hid hnd
            obtain ⟨m, hm⟩ : ∃ m, cuts.length - k = m + 1 := ⟨cuts.length - k - 1, by omega⟩
            have hm2 : cuts.length - (k + 1) = m := by omega
            have HMM := Lib.hid hm
            have HMM2 := Lib.hid hm2
            clear hb3 hr3 hE3 hS3 hM3 hB3 hby hly hinj hkv hinj2 hnd hm hm2 HS HM HB
            by_cases hmem : d ∈ ql.map Pl.r
            · obtain ⟨j, hj⟩ := List.getElem?_of_mem hmem
              have hidx : (ql.map Pl.r).idxOf d = j := by
                have h1 := List.idxOf_lt_length_of_mem hmem
                have h2 : (ql.map Pl.r)[(ql.map Pl.r).idxOf d]? = some d := by rw [List.getElem?_eq_getElem h1, List.getElem_idxOf]
                exact (List.getElem?_inj h1 HND.out).1 (by rw [h2, hj])
              have hrow2 : rowP (ofF cuts pi.r) (cuts.length - (k + 1)) (k + 1) (ql.map Pl.r) (r ++ [j]) = rowP (ofF cuts pi.r) cuts.length 0 (pl.map Pl.r) [] := by
                rw [← HROW.out, HMM.out, HMM2.out, rowP_old _ _ _ _ _ d HF.out hmem, hidx]
              have HROW2 := Lib.hid hrow2
              have HJ := Lib.hid hj
              clear hrow2 hidx hj hmem
              go_wp2_with fail
              refine (HK1.out _ (Below.refl _ _)).mono ?_
              rintro e w5 ⟨rfl, hb5⟩
              have hs5 := hb5.size
              simp only [World.size_alloc] at hs5
              have hlook := (HM3.out.ext hb5).hit keyedS Try.underlying78 HI2.out HKV.out HND.out j d HJ.out
              have hB5 := HB3.out.ext hb5
              rw [HMM.out] at hB5
              have cc5 := hB5.cell (rowcells_get r k m HR.out)
              have ff5 := hB5.free k
              have HM5 := Lib.hid (HM3.out.ext hb5)
              have HS5 := Lib.hid (HS3.out.ext hb5)
              have HB5 := Lib.hid hB5
              clear hB5 hb5
              go_wp2_with fail
              go_roundw
              case rel => exact ⟨k + 1, ql, r ++ [j], some ⟨b, o, none⟩, cap', by simp, by omega, hiq, hq256, rfl, by simp [World.setCell]; omega, Lib.hid (by simp [HR.out]), HPI, Lib.hid (HS5.out.setRow HB5.out hsz k _), Lib.hid (HM5.out.keep (Below.heap_setCell _ _ _ _ (by simp; omega))), Lib.hid (by
                have := HB5.out.set k (.int .i64 j)
                rw [rowcells_set r k m HR.out] at this
                rw [HMM2.out]; exact this), HROW2⟩
              case measure => simp [intOf]; omega
            · have hmiss := fun W (hW : Below (w3.alloc (.cells #[.int .i64 d.k, .int .u8 d.lo, .int .u8 d.hi, .slice a3 d.ks.length c3] 54)).heap.size (w3.alloc (.cells #[.int .i64 d.k, .int .u8 d.lo, .int .u8 d.hi, .slice a3 d.ks.length c3] 54)) W) => (HM3.out.ext hW).miss keyedS Try.underlying78 zeroI HKV.out d ly HLY.out HI1.out hmem
              have HMISS := Lib.hid hmiss
              have HMEM := Lib.hid hmem
              clear hmiss hmem
              by_cases hfull : ql.length = 256
              · have hf2 : ((ql.length : Int) == 256) = true := by rw [hfull]; rfl
                have hrow2 : rowP (ofF cuts pi.r) cuts.length 0 (pl.map Pl.r) [] = none := by
                  rw [← HROW.out, HMM.out]
                  exact rowP_full _ _ _ _ _ d HF.out HMEM.out (by rw [List.length_map]; exact hfull)
                have hres : Hid (numP (ofF cuts) cuts.length s0 = none) := Lib.hid (by rw [← HL.out]; exact loop_step_none (by omega) HPI0.out hrow2)
                clear hrow2 hfull
                go_wp2_with fail
                refine (HK1.out _ (Below.refl _ _)).mono ?_
                rintro e w5 ⟨rfl, hb5⟩
                have hlook := HMISS.out w5 hb5
                have HB5 := Lib.hid (HS3.out.below.trans (hb5.mono (by simp only [World.size_alloc]; omega)))
                clear hb5
                go_wp2_with fail
                refine bodyPost_ret (results_tmp3 rfl _ _ _) rfl ?_
                refine ⟨HB5.out, by rw [hres.out]; rfl⟩
              · have hf2 : ((ql.length : Int) == 256) = false := by simp; omega
                have hrow2 : rowP (ofF cuts pi.r) (cuts.length - (k + 1)) (k + 1) ((ql ++ [(⟨d, a3, c3⟩ : Pl)]).map Pl.r) (r ++ [ql.length]) = rowP (ofF cuts pi.r) cuts.length 0 (pl.map Pl.r) [] := by
                  rw [← HROW.out, HMM.out, HMM2.out, rowP_new _ _ _ _ _ d HF.out HMEM.out (by rw [List.length_map]; exact hfull)]
                  simp
                have HROW2 := Lib.hid hrow2
                have hq255 : ql.length < 256 := by omega
                clear hrow2 hfull
                go_wp2_with fail
                refine (HK1.out _ (Below.refl _ _)).mono ?_
                rintro e w5 ⟨rfl, hb5⟩
                have hlook := HMISS.out w5 hb5
                have hs5 := hb5.size
                simp only [World.size_alloc] at hs5
                have d0 := below_cell hb5 (p := ⟨w3.heap.size, 0, none⟩) (v := .int .i64 d.k) (by simp) (by go_side)
                have d1 := below_cell hb5 (p := ⟨w3.heap.size, 1, none⟩) (v := .int .u8 d.lo) (by simp) (by go_side)
                have d2 := below_cell hb5 (p := ⟨w3.heap.size, 2, none⟩) (v := .int .u8 d.hi) (by simp) (by go_side)
                have d3 := below_cell hb5 (p := ⟨w3.heap.size, 3, none⟩) (v := .slice a3 d.ks.length c3) (by simp) (by go_side)
                have HB5 := Lib.hid hb5
                clear hb5
                go_wp2_with fail
                refine (HK1.out _ HB5.out).mono ?_
                rintro e w6 ⟨rfl, hb6⟩
                have hs6 := hb6.size
                have hM6 := (HM3.out.ext HB5.out).ext hb6
                have hS6 := (HS3.out.ext HB5.out).ext hb6
                have hB6 := (HB3.out.ext HB5.out).ext hb6
                have hR6 := (HR3.out.ext HB5.out).ext hb6
                have e0 := below_cell hb6 (by simp; omega) d0
                have e1 := below_cell hb6 (by simp; omega) d1
                have e2 := below_cell hb6 (by simp; omega) d2
                have e3 := below_cell hb6 (by simp; omega) d3
                obtain ⟨w7, hput, hM7, hg7⟩ := hM6.put keyedS Try.underlying78 HKV.out d ly HLY.out HI1.out HMEM.out
                simp only [List.length_map] at hput
                have hS7 : NumS w w7 w.heap.size (w.heap.size + 2) cuts.length (fun b => b = wo.heap.size) (.slice (some ⟨b, o, none⟩) ql.length cap') (.slice tg T.length tcap) ql T := by
                  obtain ⟨es, ck, hh, _⟩ := hM6
                  refine hS6.keep (fun q => q = w.heap.size + 2) (fun q h => .inl h) (fun q hq e => ?_) (fun q hq e => ?_) (hS6.below.grown hg7 (by omega) (fun k hk => by injection hk with hk; omega)) hg7.size (fun q hq hn => hg7.block q hq (fun e => hn (by cases e; rfl)))
                  · subst e; exact own_ne hS6.states.1 hh (fun cs fr e => by cases e) hq
                  · subst e; exact own_ne hS6.table hh (fun cs fr e => by cases e) hq
                have hs7 := hg7.size
                have hE8 := Ext.alloc w7 (.cells #[.int .i64 d.k, .int .u8 d.lo, .int .u8 d.hi, .slice a3 d.ks.length c3] 54)
                have hB7 : Blk w7 wo.heap.size 3 (ints (nats r) ++ List.replicate (cuts.length - k) (.int .i64 0)) := hB6.keep (hg7.block _ hB6.lt (fun e => by injection e with e; omega))
                have hR7 : RxRep w7 (fun b => b < wr.heap.size) d a3 c3 := hR6.keep fun q hq hn => hg7.block q hq (fun e => hn (by injection e with e; omega))
                have f0 : w7.cell? ⟨w3.heap.size, 0, none⟩ = some (.int .i64 d.k) := by rw [World.cell?_of_block (a := ⟨w3.heap.size, 0, none⟩) (hg7.block w3.heap.size (by omega) (fun e => by injection e with e; omega))]; exact e0
                have f1 : w7.cell? ⟨w3.heap.size, 1, none⟩ = some (.int .u8 d.lo) := by rw [World.cell?_of_block (a := ⟨w3.heap.size, 1, none⟩) (hg7.block w3.heap.size (by omega) (fun e => by injection e with e; omega))]; exact e1
                have f2 : w7.cell? ⟨w3.heap.size, 2, none⟩ = some (.int .u8 d.hi) := by rw [World.cell?_of_block (a := ⟨w3.heap.size, 2, none⟩) (hg7.block w3.heap.size (by omega) (fun e => by injection e with e; omega))]; exact e2
                have f3 : w7.cell? ⟨w3.heap.size, 3, none⟩ = some (.slice a3 d.ks.length c3) := by rw [World.cell?_of_block (a := ⟨w3.heap.size, 3, none⟩) (hg7.block w3.heap.size (by omega) (fun e => by injection e with e; omega))]; exact e3
                have hS8 := hS7.ext hE8.1
                have hB8 := hB7.ext hE8.1
                have hM8 := hM7.ext hE8.1
                have hown8 : ∀ q, Value.ownBlock (.slice (some ⟨b, o, none⟩) ql.length cap') = some q → q < wr.heap.size := fun q hq => by simp [Value.ownBlock] at hq; omega
                have htv8 : ∀ q, Value.ownBlock (.slice tg T.length tcap) = some q → q < wo.heap.size := fun q hq => (HHS.out.table.lt hq).2
                have hsr : RxsRep (w7.alloc (.cells #[.int .i64 d.k, .int .u8 d.lo, .int .u8 d.hi, .slice a3 d.ks.length c3] 54)) (fun q => (q = w.heap.size + 2 ∨ Value.ownBlock (.slice tg T.length tcap) = some q ∨ q = wo.heap.size) ∨ Value.ownBlock (.slice (some ⟨b, o, none⟩) ql.length cap') = some q) [d] (some ⟨w7.heap.size, 0, none⟩) 1 (fun _ => a3) (fun _ => c3) := by
                  refine RxsRep.one (rxAt_box _ _ _ _ _) ((hR7.ext hE8.1).avoid fun q _ hh => ?_) ?_
                  · rcases hh with (hh | hh | hh) | hh
                    · omega
                    · have := htv8 q hh; omega
                    · omega
                    · exact hown8 q hh
                  · rintro ((hh | hh | hh) | hh)
                    · omega
                    · have := htv8 _ hh; omega
                    · omega
                    · have := hown8 _ hh; omega
                have hlt8 : ∀ q, (q = w.heap.size + 2 ∨ Value.ownBlock (.slice tg T.length tcap) = some q ∨ q = wo.heap.size) → q < (w7.alloc (.cells #[.int .i64 d.k, .int .u8 d.lo, .int .u8 d.hi, .slice a3 d.ks.length c3] 54)).heap.size := fun q hq => by
                  simp only [World.size_alloc]
                  rcases hq with hh | hh | hh
                  · omega
                  · have := htv8 q hh; omega
                  · omega
                have HLT8 := Lib.hid hlt8
                clear hlt8
                have HS8 := Lib.hid hS8
                have HB8 := Lib.hid hB8
                have HM8 := Lib.hid hM8
                have HSR := Lib.hid hsr
                have HTV := Lib.hid htv8
                clear hS7 hE8 hB7 hR7 hS8 hB8 hM8 hown8 htv8 hsr hM6 hS6 hB6 hR6 hM7 hg7 e0 e1 e2 e3 d0 d1 d2 d3 hb6
                go_wp2_with (at_builtin; refine wpList_append_rx2 rfl (.tmp 72) (.tmp 74) 52 54 rfl tabR _ w.heap.size _ ql rfl HS8.out.states HS8.out.hbase [d] (some ⟨w7.heap.size, 0, none⟩) 1 (fun _ => a3) (fun _ => c3) rfl HSR.out (by simp; omega) HLT8.out ?_; intro g9 cap9 w9 hown9 hb9 hr9; have hs9 := hb9.size; simp only [World.size_alloc] at hs9; have hk9 := hr9 wo.heap.size HB8.out.lt (own_ne HS8.out.states.1 HB8.out (fun cs fr e => by injection e with _ e1; exact absurd e1 (by decide))); have hB9 := HB8.out.keep hk9; rw [HMM.out] at hB9; have cc9 := hB9.cell (rowcells_get r k m HR.out); have ff9 := hB9.free k; have HOWN9 := Lib.hid hown9; have HBL9 := Lib.hid hB9; have HB9 := Lib.hid hb9; have HR9 := Lib.hid hr9; clear hown9 hb9 hr9 hk9 hB9)
                have hS9 := HS8.out.more ⟨d, a3, c3⟩ ⟨HDV.out, HBY.out⟩ HMEM.out hq255 HOWN9.out HB9.out HR9.out
                have hM9 : NumMap w9 (w.heap.size + 2) (((ql ++ [(⟨d, a3, c3⟩ : Pl)]).map Pl.r).map keyS) := by
                  have h1 := HM8.out
                  obtain ⟨es, ck, hh, _⟩ := HM8.out
                  have := h1.keep (HR9.out _ h1.lt (own_ne HS8.out.states.1 hh (fun cs fr e => by cases e)))
                  simpa using this
                have HS9 := Lib.hid hS9
                have HM9 := Lib.hid hM9
                clear hS9 hM9
                go_roundw
                case rel => exact ⟨k + 1, ql ++ [⟨d, a3, c3⟩], r ++ [ql.length], g9, cap9, by simp, by omega, by simp; omega, by simp; omega, by simp, by simp [World.setCell]; omega, Lib.hid (by simp [HR.out]), Lib.hid (by rw [List.getElem?_append_left hiq]; exact HPI.out), Lib.hid (by have := HS9.out.setRow HBL9.out hsz k (.int .i64 ql.length); simpa [pls_one] using this), Lib.hid (HM9.out.keep (Below.heap_setCell _ _ _ _ (by simp; omega))), Lib.hid (by
                  have := HBL9.out.set k (.int .i64 ql.length)
                  rw [rowcells_set r k m HR.out] at this
                  rw [HMM2.out]; exact this), HROW2⟩
                case measure => simp [intOf]; omega
          · have e1 : rxLim d = noneR := by unfold rxLim; rw [if_neg hn]
            have e2 : errLim d = 4 := by unfold errLim; rw [if_neg hn]
            rw [e1, e2] at HCALL
            have HF : Hid (ofF cuts pi.r k = none) := Lib.hid (by rw [HFD.out, if_neg hn])
            clear e1 e2 HFD
            go_wp2_with fail
            refine HCALL.out.mono ?_
            rintro e w3 ⟨a3, c3, rfl, hb3, _⟩
            have HB3 := Lib.hid (HS.out.below.trans (hb3.mono hszw))
            have hs3 := hb3.size
            have hres : Hid (numP (ofF cuts) cuts.length s0 = none) := Lib.hid (by
              rw [← HL.out]
              refine loop_step_none (by omega) HPI0.out ?_
              rw [← HROW.out]
              obtain ⟨m, hm⟩ : ∃ m, cuts.length - k = m + 1 := ⟨cuts.length - k - 1, by omega⟩
              rw [hm]
              exact rowP_none _ _ _ _ _ HF.out)
            clear hb3
            simp only [noneR, Rx.k_mk, Rx.lo_mk, Rx.hi_mk, Rx.ks_mk]
            go_wp2_with fail
            refine bodyPost_ret (results_tmp3 rfl _ _ _) rfl ?_
            refine ⟨?_, by rw [hres.out]; rfl⟩
            exact HB3.out.alloc (by omega) _
        · have he : k = cuts.length := by omega
          have HK := Lib.hid he
          clear he
          have hszw := HS.out.hbase
          go_wp2_with (at_builtin; refine wpList_append_c1 rfl (.tmp 81) (.tmp 83) 23 22 rfl tabL rfl (by omega) w.heap.size (.slice tg T.length tcap) _ rfl HS.out.table hszw (.slice (some ⟨wo.heap.size, 0, none⟩) cuts.length cuts.length) 22 _ rfl rfl rfl (by rw [List.length_map, HT.out]; omega) ?_; intro tv' w3 hg3; obtain ⟨tg', tc', rfl⟩ := grew_form hg3; have HG3 := Lib.hid hg3; clear hg3)
          simp only [List.length_append, List.length_map, List.length_singleton] at HG3 ⊢
          go_wp2_with fail
          go_roundw
          have hrb : Blk wr wo.heap.size 3 (ints (nats r)) := by have := HB.out; rw [HK.out, Nat.sub_self, List.replicate_zero, List.append_nil] at this; exact this
          have hr0 : r.length = cuts.length := by rw [HR.out]; exact HK.out
          have hnew := HS.out.done r ⟨hsz, by omega⟩ hrb hr0 HG3.out
          have hrow : rowP (ofF cuts pi.r) cuts.length 0 (pl.map Pl.r) [] = some (ql.map Pl.r, r) := by
            rw [← HROW.out, HK.out, Nat.sub_self]; rfl
          have hloop : loopP (ofF cuts) cuts.length (257 - (i + 1)) (i + 1) (ql.map Pl.r) ((T ++ [(wo.heap.size, r)]).map Prod.snd) = numP (ofF cuts) cuts.length s0 := by
            rw [List.map_append]
            exact (loop_step_some (by omega) HPI0.out hrow).symm.trans HL.out
          have hmap : NumMap w3 (w.heap.size + 2) ((ql.map Pl.r).map keyS) := HM.out.keep (HG3.out.rest _ HM.out.lt (fun e => by
            obtain ⟨es, ck, hh, _⟩ := HM.out
            exact own_ne HS.out.table hh (fun cs fr e => by cases e) e))
          case rel => exact ⟨i + 1, ql, T ++ [(wo.heap.size, r)], g', cap', tg', tc', by simp, by omega, hq256, rfl, by simp, Lib.hid (by simpa using hnew), Lib.hid hmap, Lib.hid hloop, Lib.hid (by simp [HT.out])⟩
          case measure => simp [intOf]; omega
    · have hge : pl.length ≤ i := by omega
      have HGE := Lib.hid hge
      clear hge
      go_wp2_with fail
      refine bodyPost_ret (results_tmp3 rfl _ _ _) rfl ?_
      have hres : numP (ofF cuts) cuts.length s0 = some (pl.map Pl.r, T.map Prod.snd) := by
        rw [← HL.out]
        exact loop_end (by omega) (by rw [List.length_map]; exact HGE.out)
      refine ⟨HS.out.below, ?_⟩
      rw [hres]
      refine ⟨g, cap, tg, tcap, _, _, ?_, (HS.out.states.avoidAll (A' := fun _ => False) (fun _ _ h => h.elim)).rep (fun _ _ h => h), HS.out.rowsRep (by omega), fun x hx => ?_⟩
      · simp
      · obtain ⟨p, hp, rfl⟩ := List.mem_map.1 hx
        exact (HS.out.good p hp).1
end Go.Proofs.Ytbepohpppailnaa
