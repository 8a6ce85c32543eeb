/- Walks: SortFunc at expressions. -/
import Derived.Test.YtbepohpppailnaaW9
import Derived.Test.YtbepohpppailnaaMP
import Derived.Test.YtbepohpppailnaaL0
set_option linter.unusedSimpArgs false
set_option linter.unusedVariables false
namespace Go.Proofs.Ytbepohpppailnaa
open Go.RowKit Go.Sort

theorem enters_compare : ∀ args w, (callFunc 57 args).run Try.prog w = .ok (.enter 57 args) w := by
  intro args w
  go_simp
theorem isAggR : ∀ w, (isAgg 54).run Try.prog w = .ok true w := by intro w; go_simp
theorem sizeOfR : ∀ w, (Go.sizeOf 54).run Try.prog w = .ok 4 w := by intro w; go_simp

theorem ext_grow {W w' : World} (h : Ext W w') : ∃ q os, w' = grow (W.drewN q) os := by
  obtain ⟨⟨ho, ht, hou, hs, hb⟩, hd⟩ := h
  refine ⟨w'.drawn - W.drawn, w'.heap.extract W.heap.size w'.heap.size, ?_⟩
  have hheap : w'.heap = W.heap ++ w'.heap.extract W.heap.size w'.heap.size := by
    apply Array.ext_getElem?
    intro i
    rw [Array.getElem?_append]
    split
    · rename_i hi; exact hb i hi
    · rename_i hi
      rw [Array.getElem?_extract]
      by_cases h2 : i < w'.heap.size
      · rw [if_pos (by omega)]; congr 1; omega
      · rw [if_neg (by omega), Array.getElem?_eq_none (by omega)]
  cases w' with
  | mk heap tape drawn os output =>
  simp only at *
  subst ho ht hou
  simp only [grow, World.drewN, World.mk.injEq, true_and, and_true]
  exact ⟨hheap, by omega⟩

theorem lt_swo : SWO (fun x y : Rx => decide (rcmp x y < 0)) := by
  refine ⟨fun x => ?_, fun x y z h1 h2 => ?_, fun x y z h1 h2 => ?_⟩
  · simp [rcmp_self]
  · simp only [decide_eq_true_eq] at *
    have := rcmp_trans x y z (by omega) (by omega)
    have h3 : rcmp x z ≠ 0 := fun e => by have := this.2.1 e; omega
    omega
  · simp only [decide_eq_false_iff_not, Int.not_lt] at *
    have := rcmp_trans z y x (by rw [rcmp_swap]; omega) (by rw [rcmp_swap]; omega)
    rw [rcmp_swap z x]; omega

/-- ascending: none is after a later one -/
def Asc (l : List Rx) : Prop := l.Pairwise fun x y => rcmp x y ≤ 0

theorem insertion0 (a : Option Addr) (cap : Nat) (w : World) : Calls Try.prog 83 #[.slice a 0 cap, .int .i64 0, .int .i64 0, .func (.func 57) #[] #[]] w fun e w' => e = .returned (.tuple #[]) ∧ w = w' := by
  go_enter Try.func83, Try.ntmps83
  go_wp2
  refine wp_loop_rounds 1 ?_
  repeat any_goals (rw [rounds_succ]; go_wp2)
  go_end0
  exact ⟨rfl, rfl⟩
theorem pdq0 (a : Option Addr) (cap : Nat) (w : World) : Calls Try.prog 67 #[.slice a 0 cap, .int .i64 0, .int .i64 0, .int .i64 0, .func (.func 57) #[] #[]] w fun e w' => e = .returned (.tuple #[]) ∧ w = w' := by
  go_enter Try.func67, Try.ntmps67
  go_wp2_with fail
  refine wp_loop_rounds 1 ?_
  rw [rounds_succ]
  go_wp2_with fail
  refine (insertion0 _ _ _).mono ?_
  rintro e w' ⟨rfl, rfl⟩
  go_wp2_with fail
  exact bodyPost_ret (v := .tuple #[]) (by simp [results, Try.results67, go_sem]) rfl ⟨rfl, rfl⟩

theorem holdsK_own {w : World} {A : Nat → Prop} {base : Nat} {e : TypeId} {g n cap : Nat} {l : List Pl} (h : OwnRx w A base e (.slice (some ⟨g, 0, none⟩) n cap) l) {α : Type} [Inhabited α] (enc : α → List Value) (d : Array α) (hd : ∀ i (hi : i < d.size), ∃ p, l[i]? = some p ∧ enc d[i]! = pcells p) :
    HoldsK enc 4 w g 0 d := by
  intro j hj
  rw [size_flatK] at hj
  rw [get_flatK _ _ _ _ hj]
  obtain ⟨p, hp, he⟩ := hd (j / 4) (by omega)
  rw [he]
  obtain ⟨⟨c0, c1, c2, c3⟩, f0, f1, f2, f3⟩ := h.cells (j / 4) p hp
  have hjj : 0 + j = j / 4 * 4 + j % 4 := by omega
  rw [hjj]
  have h4 : j % 4 = 0 ∨ j % 4 = 1 ∨ j % 4 = 2 ∨ j % 4 = 3 := by omega
  rcases h4 with h4 | h4 | h4 | h4 <;> rw [h4] <;> simp only [Nat.add_zero, pcells] <;> exact ⟨by assumption, by assumption⟩

set_option maxHeartbeats 800000 in
theorem sortFunc_any (l : List Pl) (w : World) (A : Nat → Prop) (base : Nat) (a : Option Addr) (cap : Nat)
    (hown : OwnRx w A base 54 (.slice a l.length cap) l) (hbase : base ≤ w.heap.size) (hlen : l.length ≤ 1000000000) :
    Calls Try.prog 56 #[.slice a l.length cap, .func (.func 57) #[] #[]] w fun e w' =>
      e = .returned (.tuple #[]) ∧ ∃ l', l'.Perm l ∧ Asc (l'.map Pl.r) ∧ OwnRx w' A base 54 (.slice a l.length cap) l' ∧ Below base w w' := by
  cases l with
  | nil =>
    have HO := Lib.hid hown
    clear hown
    simp only [List.length_nil]
    go_enter Try.func56, Try.ntmps56
    go_wp2_with (go_at_call 62; refine (Try.bits_Len _ _ (by omega) (by omega)).mono ?_; rintro e w' ⟨rfl, rfl⟩)
    refine (pdq0 _ _ _).mono ?_
    rintro e w' ⟨rfl, rfl⟩
    go_wp2_with fail
    go_end0
    exact ⟨rfl, [], List.Perm.refl _, List.Pairwise.nil, HO.out, Below.refl _ _⟩
  | cons p0 l0 =>
    generalize hL : p0 :: l0 = l at *
    have hne : 0 < l.length := by rw [← hL]; simp
    obtain ⟨gb, ha⟩ : ∃ gb, a = some ⟨gb, 0, none⟩ := by
      rcases hown.1.2 with ⟨hv, h0⟩ | ⟨gb, cap', cur, hv, _⟩
      · omega
      · cases hv; exact ⟨gb, rfl⟩
    subst ha
    have hgb := hown.1.lt gb rfl
    let α := { p : Pl // RxRep w (fun b => A b ∨ gb = b) p.r p.a p.c }
    have hin : ∀ p ∈ l, RxRep w (fun b => A b ∨ gb = b) p.r p.a p.c := fun p hp => (hown.2 p hp).avoid (fun b _ hh => hh.imp id (fun e => by simp [Value.ownBlock, e]))
    haveI : Inhabited α := ⟨⟨p0, hin p0 (by rw [← hL]; simp)⟩⟩
    let enc : α → List Value := fun x => pcells x.1
    let cf : α → α → Int := fun x y => rcmp x.1.r y.1.r
    let d : Array α := (l.attach.map fun x => (⟨x.1, hin x.1 x.2⟩ : α)).toArray
    have hds : d.size = l.length := by simp [d]
    have hdi : ∀ i (hi : i < d.size), l[i]? = some (d[i]!).1 := by
      intro i hi
      rw [getElem!_pos d i hi]
      simp [d]
    have hblk : gb < w.heap.size := hgb.2
    have hheap : ∀ (m : Nat) (dk : Array α) (os : Array Obj) (b : Nat), b < w.heap.size → b ≠ gb → (sortWorldK enc 4 w gb 0 m dk os).heap[b]? = w.heap[b]? := by
      intro m dk os b hb hne'
      simp only [sortWorldK, grow, putRowK, putRow, mapBlock, heap_ahead]
      rw [Array.getElem?_append_left (by simpa using hb), Array.getElem?_modify, if_neg (fun e => hne' e.symm)]
    have hcmp : CmpLays Try.prog 57 #[] enc 4 cf gb 0 d.size w := by
      intro m os dk hdk x y
      have hx := x.2.keep (w' := sortWorldK enc 4 w gb 0 m dk os) (fun b hb hn => hheap m dk os b hb (fun e => hn (.inr e.symm)))
      have hy := y.2.keep (w' := sortWorldK enc 4 w gb 0 m dk os) (fun b hb hn => hheap m dk os b hb (fun e => hn (.inr e.symm)))
      refine (compare_any x.1.r (sortWorldK enc 4 w gb 0 m dk os) _ _ y.1.r x.1.a y.1.a x.1.c y.1.c hx hy).mono ?_
      rintro e w' ⟨he, hE⟩
      exact ⟨he, ext_grow hE⟩
    have hswo : SWO (ltOf cf) := by
      refine ⟨fun x => lt_swo.irrefl x.1.r, fun x y z => lt_swo.trans x.1.r y.1.r z.1.r, fun x y z => lt_swo.ntrans x.1.r y.1.r z.1.r⟩
    have hH : HoldsK enc 4 w gb 0 d := holdsK_own hown enc d (fun i hi => ⟨_, hdi i hi, rfl⟩)
    have hS := AnyQ.slices_SortFunc Try.sortRx 4 isAggR sizeOfR enc (fun _ => rfl) (fun x v hv => by
      simp [enc, pcells] at hv
      rcases hv with rfl | rfl | rfl | rfl <;> rfl) cf hswo 57 #[] gb 0 cap d w enters_compare hcmp hH hblk (by omega)
    rw [hds] at hS
    refine Calls.mono hS ?_
    rintro e w' ⟨he, d', n, os, hperm, hsort, hw⟩
    subst hw
    obtain ⟨hsz', _, hpm⟩ := hperm
    have hdl : d.toList.map Subtype.val = l := by
      apply List.ext_getElem?
      intro i
      rw [List.getElem?_map, Array.getElem?_toList]
      by_cases hi : i < d.size
      · rw [hdi i hi, Array.getElem?_eq_getElem hi, getElem!_pos d i hi]; rfl
      · rw [Array.getElem?_eq_none (by omega), List.getElem?_eq_none (by omega)]; rfl
    have hex : ∀ (x : Array α), x.extract 0 l.length = x ∨ l.length < x.size := by
      intro x
      by_cases h : l.length < x.size
      · exact .inr h
      · left; apply Array.ext_getElem?; intro i
        rw [Array.getElem?_extract]
        simp only [Nat.zero_add, Nat.sub_zero]
        by_cases h3 : i < x.size
        · rw [if_pos (by omega)]
        · rw [if_neg (by omega), Array.getElem?_eq_none (by omega)]
    have hp2 : d'.toList.Perm d.toList := by
      have h1 := (hex d').resolve_right (by omega)
      have h2 := (hex d).resolve_right (by omega)
      rw [h1, h2] at hpm
      exact hpm
    have hpl : (d'.toList.map Subtype.val).Perm l := by
      have := hp2.map Subtype.val
      rw [hdl] at this
      exact this
    have hll : (d'.toList.map Subtype.val).length = l.length := hpl.length_eq
    have hmem : ∀ p ∈ d'.toList.map Subtype.val, RxRep w (fun b => A b ∨ gb = b) p.r p.a p.c := fun p hp => hin p (hpl.mem_iff.1 hp)
    refine ⟨he, d'.toList.map Subtype.val, hpl, ?_, ⟨?_, fun p hp => ?_⟩, ?_⟩
    · unfold Asc
      rw [List.pairwise_iff_getElem]
      intro i j hi hj hij
      simp only [List.length_map, Array.length_toList] at hi hj
      have h1 := hsort i j (Nat.zero_le _) hij (by omega)
      simp only [ltOf, cf, decide_eq_false_iff_not, Int.not_lt] at h1
      rw [getElem!_pos d' i hi, getElem!_pos d' j hj] at h1
      simp only [List.getElem_map, Array.getElem_toList]
      rw [rcmp_swap] at h1
      omega
    · rcases hown.1.2 with ⟨hv, _⟩ | ⟨g', cap', cur, hv, hg, hh, hnc, hcm, hcs, htake⟩
      · cases hv
      · cases hv
        refine ⟨by rw [flatMap_pcells_length], .inr ⟨gb, cap, putCells id 0 (flatK enc 4 d') cur, by rw [hll], hg, ?_, by rw [hll]; exact hnc, hcm, by simp [putCells, hcs], ?_⟩⟩
        · simp only [sortWorldK, grow, putRowK, putRow, mapBlock, heap_ahead]
          rw [Array.getElem?_append_left (by simpa using hblk), Array.getElem?_modify, if_pos rfl, hh]
          rfl
        · rw [hll]
          apply List.ext_getElem?
          intro j
          rw [List.getElem?_take]
          by_cases hj : j < l.length * 4
          · rw [if_pos hj, Array.getElem?_toList]
            have hjd : j < d'.size * 4 := by omega
            have hjc : j < cur.size := by rw [hcs]; have := Nat.mul_le_mul_right 4 hnc; omega
            have e1 : (putCells id 0 (flatK enc 4 d') cur)[j]? = some (flatK enc 4 d')[j]! := by
              unfold putCells
              rw [Array.getElem?_mapIdx, Array.getElem?_eq_getElem hjc]
              simp only [Option.map_some, id]
              rw [if_pos ⟨Nat.zero_le _, by rw [size_flatK]; omega⟩]
              simp
            rw [e1, get_flatK _ _ _ _ hjd]
            have hq : (d'.toList.map Subtype.val)[j / 4]? = some (d'[j / 4]!).1 := by
              rw [List.getElem?_map, Array.getElem?_toList, Array.getElem?_eq_getElem (by omega), getElem!_pos d' (j / 4) (by omega)]
              rfl
            have h2 := flatMap_pcells_get (d'.toList.map Subtype.val) (j / 4) _ hq (j % 4) (by omega)
            rw [show j / 4 * 4 + j % 4 = j from by omega] at h2
            rw [h2]
            have h4 : j % 4 = 0 ∨ j % 4 = 1 ∨ j % 4 = 2 ∨ j % 4 = 3 := by omega
            rcases h4 with h4 | h4 | h4 | h4 <;> rw [h4] <;> rfl
          · rw [if_neg hj, List.getElem?_eq_none (by rw [flatMap_pcells_length, hll]; omega)]
    · refine ((hmem p hp).keep (fun b hb hn => hheap n d' os b hb (fun e => hn (.inr e.symm)))).avoid (fun b _ hh => hh.imp id (fun e => by simpa [Value.ownBlock] using e))
    · refine ⟨rfl, rfl, rfl, ?_, fun k hk => hheap n d' os k (by omega) (by omega)⟩
      simp only [sortWorldK, grow, Array.size_append]
      simp [putRowK]
end Go.Proofs.Ytbepohpppailnaa
