/- Walks: forms as a whole. -/
import Derived.Test.YtbepohpppailnaaWH
set_option linter.unusedSimpArgs false
set_option linter.unusedVariables false
namespace Go.Proofs.Ytbepohpppailnaa
open Go.RowKit Go.ChangeMaps

/-- the world in which forms' last region begins -/
def formsW (w : World) : World :=
  ((((w.alloc (.cells #[.int .i64 0, .int .u8 0, .int .u8 0, .slice none 0 0] 54)).alloc (.cells #[.int .i64 1, .int .u8 0, .int .u8 0, .slice none 0 0] 54)).alloc
    (.cells #[.int .i64 0, .int .u8 0, .int .u8 0, .slice none 0 0] 54)).alloc (.cells #[.int .i64 6, .int .u8 0, .int .u8 0, .slice (some ⟨w.heap.size + 1 + 1, 0, none⟩) 1 1] 54)).drew
theorem formsW_boxes (w : World) : Boxes (formsW w) w.heap.size := by
  unfold formsW
  refine ⟨?_, ?_, ?_, ?_⟩ <;> unfold rxAt <;> simp only [noneR, emptyR, everything, Rx.k_mk, Rx.lo_mk, Rx.hi_mk, Rx.ks_mk, List.length_nil, List.length_singleton, Int.natCast_zero] <;> exact ⟨by go_side, by go_side, by go_side, by go_side⟩
theorem formsW_size (w : World) : (formsW w).heap.size = w.heap.size + 1 + 1 + 1 + 1 := by
  simp [formsW, World.drew]
theorem formsW_below (w : World) : Below w.heap.size w (formsW w) :=
  ((((Ext.alloc w _).trans (Ext.alloc _ _)).trans (Ext.alloc _ _)).trans (Ext.alloc _ _)).1.drew

set_option maxRecDepth 100000 in
set_option maxHeartbeats 1600000 in
theorem forms_any (w : World) : Calls Try.prog 39 #[] w fun e w' => ∃ f, e = .returned f ∧ Below w.heap.size w w' ∧ FormsRep w' w'.heap.size f := by
  go_enter Try.func39, Try.ntmps39
  go_wp2
  rename_i Q' K hK
  refine wp_region_any (by kernel_rfl) ?_
  change wpAny _ _ _ _ _ _ _ (formsW w)
  have hB := formsW_boxes w
  have hn : w.heap.size + 1 + 1 + 1 < (formsW w).heap.size := by rw [formsW_size]; omega
  have hW := formsW_below w
  generalize formsW w = W0 at *
  refine wpAny_inv (FII w.heap.size W0) (fun i o ho => ?_) (fun L a wr h hall => ?_) ?_ _ _ _ _ (by simp) (by simp) ?_
  rotate_left
  · refine hK _ _ ?_
    obtain ⟨mb, hI⟩ := h.some
    have h0 : L 0 = true := hall 0 (by decide)
    obtain ⟨h1, h2, es, clock, h3, h4⟩ := hI.mp h0
    have he : a.eval (.tmp 0) = .map (some mb) := hI.tv 26 0 rfl (hall 26 (by decide))
    go_wp2_with fail
    refine bodyPost_ret (v := .map (some mb)) ?_ hI.df ⟨_, rfl, hW.trans (hI.bl.mono (by omega)), mb, es, clock, rfl, h2, h3, fun k hk0 hk7 => ?_⟩
    · have : a.tmps[0]?.getD undef = .map (some mb) := by have := he; simpa [Act.eval] using this
      simp [results, Try.results39, this]
    · obtain ⟨kn, rfl⟩ : ∃ kn : Nat, k = kn := ⟨k.toNat, by omega⟩
      obtain ⟨h5, _⟩ := h4 kn (by omega)
      have hop : opOf kn < 27 := by unfold opOf; split <;> decide
      obtain ⟨i, v, h7, h8⟩ := h5 (hall _ hop)
      exact ⟨i, v, h7, h8.formV⟩
  · exact afterB_spec (by kernel_rfl)
  · refine ⟨fun hq => ?_, fun _ mb hmb => ?_⟩
    · simp at hq
    · refine ⟨rfl, rfl, rfl, rfl, rfl, rfl, rfl, Below.refl _ _, ?_, ?_, ?_, ?_, ?_⟩
      · intro i d hd hl
        have := (tmpOf_lt hd).2.2
        exfalso
        simp [this] at hl
      · simp
      · simp
      · intro _ k hk
        have hop : opOf k < 27 := by unfold opOf; split <;> decide
        simp [hop]
      · simp
  have hq := EachOp.get (p := fun i (o : Oper) => o.guard = none ∧ ∀ L a w', FII w.heap.size W0 L a w' → L i = false → (∀ e ∈ o.after, Region.binds .any e = true → L e.on = true) → o.wp Try.prog a w' (FII w.heap.size W0 (updL L i)) (Exit.then K Q')) (n := 0) ?_ i o (Array.getElem?_toList.trans ho)
  · rwa [Nat.zero_add] at hq
  clear ho
  refine ⟨⟨rfl, fun L a wr h h0 hd => ?_⟩, ?_⟩
  · exact wp_makeMap rfl (h.made h0)
  refine ⟨⟨rfl, fun L a wr h h0 hd => ?_⟩, ?_⟩
  · exact wp_move (.inl rfl) (h.put hn (i := 1) rfl (by decide) (by omega) (Below.refl _ _) fun mb hI _ => hI.e4)
  refine ⟨⟨rfl, fun L a wr h h0 hd => ?_⟩, ?_⟩
  · have hL0 : L 0 = true := hd ⟨0, .data⟩ (by simp) rfl
    obtain ⟨w', hr, hI'⟩ := h.ins hL0 0 (by omega) h0 (v := a.eval (.tmp 12)) (fun mb hI _ => by rw [show a.eval (.tmp 12) = vItself from hI.tv 1 12 rfl (hd ⟨1, .data⟩ (by simp) rfl)]; exact itself_formE wr mb _ (by omega)) hn
    exact wp_insert rfl hr rfl hI'
  refine ⟨⟨rfl, fun L a wr h h0 hd => ?_⟩, ?_⟩
  · exact wp_move (.inl rfl) (h.put hn (i := 3) rfl (by decide) (by omega) (Below.refl _ _) fun mb hI _ => hI.e4)
  refine ⟨⟨rfl, fun L a wr h h0 hd => ?_⟩, ?_⟩
  · have hL0 : L 0 = true := hd ⟨0, .data⟩ (by simp) rfl
    obtain ⟨w', hr, hI'⟩ := h.ins hL0 1 (by omega) h0 (v := a.eval (.tmp 13)) (fun mb hI _ => by rw [show a.eval (.tmp 13) = vItself from hI.tv 3 13 rfl (hd ⟨3, .data⟩ (by simp) rfl)]; exact itself_formE wr mb _ (by omega)) hn
    exact wp_insert rfl hr rfl hI'
  refine ⟨⟨rfl, fun L a wr h h0 hd => ?_⟩, ?_⟩
  · exact wp_move (.inl rfl) (h.put hn (i := 5) rfl (by decide) (by omega) (Below.refl _ _) fun mb hI _ => hI.e4)
  refine ⟨⟨rfl, fun L a wr h h0 hd => ?_⟩, ?_⟩
  · have hL0 : L 0 = true := hd ⟨0, .data⟩ (by simp) rfl
    obtain ⟨w', hr, hI'⟩ := h.ins hL0 2 (by omega) h0 (v := a.eval (.tmp 14)) (fun mb hI _ => by rw [show a.eval (.tmp 14) = vItself from hI.tv 5 14 rfl (hd ⟨5, .data⟩ (by simp) rfl)]; exact itself_formE wr mb _ (by omega)) hn
    exact wp_insert rfl hr rfl hI'
  refine ⟨⟨rfl, fun L a wr h h0 hd => ?_⟩, ?_⟩
  · exact wp_move (.inl rfl) (h.put hn (i := 7) rfl (by decide) (by omega) (Below.refl _ _) fun mb hI _ => hI.e5)
  refine ⟨⟨rfl, fun L a wr h h0 hd => ?_⟩, ?_⟩
  · obtain ⟨m, hJ⟩ := h.some
    exact wp_loadAt rfl (by rw [hJ.e2]; exact run_load_rx (hB.later hJ.bl).b2) (h.put hn (i := 8) rfl (by decide) (by omega) (Below.refl _ _) fun mb hI _ => rfl)
  refine ⟨⟨rfl, fun L a wr h h0 hd => ?_⟩, ?_⟩
  · obtain ⟨m, hJ⟩ := h.some
    exact wp_loadAt rfl (by rw [hJ.e1]; exact run_load_rx (hB.later hJ.bl).b1) (h.put hn (i := 9) rfl (by decide) (by omega) (Below.refl _ _) fun mb hI _ => rfl)
  refine ⟨⟨rfl, fun L a wr h h0 hd => ?_⟩, ?_⟩
  · obtain ⟨m, hJ⟩ := h.some
    have e1 : a.eval (.tmp 15) = vJoin := hJ.tv 7 15 rfl (hd ⟨7, .data⟩ (by simp) rfl)
    have e2 : a.eval (.tmp 16) = rxv emptyR none 0 := hJ.tv 8 16 rfl (hd ⟨8, .data⟩ (by simp) rfl)
    have e3 : a.eval (.tmp 17) = rxv noneR none 0 := hJ.tv 9 17 rfl (hd ⟨9, .data⟩ (by simp) rfl)
    refine wp_callv rfl e1 enters_join ?_
    rw [show Array.map a.eval #[.tmp 16, .tmp 17] ++ #[] = #[rxv emptyR none 0, rxv noneR none 0] from by simp [e2, e3]]
    refine (joined_step (hB.later hJ.bl) 3 (by omega) emptyR noneR rfl rfl _ _ _ _ (.inl ⟨.inr rfl, rfl, rfl⟩) (.inl ⟨.inl rfl, rfl, rfl⟩)).mono ?_
    rintro e w' ⟨v, rfl, hE, hF⟩
    exact ⟨v, rfl, h.put hn (i := 10) rfl (by decide) (by omega) hE fun mb _ hm => hF mb hm⟩
  refine ⟨⟨rfl, fun L a wr h h0 hd => ?_⟩, ?_⟩
  · have hL0 : L 0 = true := hd ⟨0, .data⟩ (by simp) rfl
    obtain ⟨w', hr, hI'⟩ := h.ins hL0 3 (by omega) h0 (v := a.eval (.tmp 18)) (fun mb hI _ => hI.tv 10 18 rfl (hd ⟨10, .data⟩ (by simp) rfl)) hn
    exact wp_insert rfl hr rfl hI'
  refine ⟨⟨rfl, fun L a wr h h0 hd => ?_⟩, ?_⟩
  · exact wp_move (.inl rfl) (h.put hn (i := 12) rfl (by decide) (by omega) (Below.refl _ _) fun mb hI _ => hI.e5)
  refine ⟨⟨rfl, fun L a wr h h0 hd => ?_⟩, ?_⟩
  · obtain ⟨m, hJ⟩ := h.some
    exact wp_loadAt rfl (by rw [hJ.e1]; exact run_load_rx (hB.later hJ.bl).b1) (h.put hn (i := 13) rfl (by decide) (by omega) (Below.refl _ _) fun mb hI _ => rfl)
  refine ⟨⟨rfl, fun L a wr h h0 hd => ?_⟩, ?_⟩
  · obtain ⟨m, hJ⟩ := h.some
    exact wp_loadAt rfl (by rw [hJ.e3]; exact run_load_rx (hB.later hJ.bl).b3) (h.put hn (i := 14) rfl (by decide) (by omega) (Below.refl _ _) fun mb hI _ => rfl)
  refine ⟨⟨rfl, fun L a wr h h0 hd => ?_⟩, ?_⟩
  · obtain ⟨m, hJ⟩ := h.some
    have e1 : a.eval (.tmp 19) = vJoin := hJ.tv 12 19 rfl (hd ⟨12, .data⟩ (by simp) rfl)
    have e2 : a.eval (.tmp 20) = rxv noneR none 0 := hJ.tv 13 20 rfl (hd ⟨13, .data⟩ (by simp) rfl)
    have e3 : a.eval (.tmp 21) = rxv everything (some ⟨w.heap.size + 1 + 1, 0, none⟩) 1 := hJ.tv 14 21 rfl (hd ⟨14, .data⟩ (by simp) rfl)
    refine wp_callv rfl e1 enters_join ?_
    rw [show Array.map a.eval #[.tmp 20, .tmp 21] ++ #[] = #[rxv noneR none 0, rxv everything (some ⟨w.heap.size + 1 + 1, 0, none⟩) 1] from by simp [e2, e3]]
    refine (joined_step (hB.later hJ.bl) 4 (by omega) noneR everything rfl rfl _ _ _ _ (.inl ⟨.inl rfl, rfl, rfl⟩) (.inr ⟨rfl, rfl, rfl⟩)).mono ?_
    rintro e w' ⟨v, rfl, hE, hF⟩
    exact ⟨v, rfl, h.put hn (i := 15) rfl (by decide) (by omega) hE fun mb _ hm => hF mb hm⟩
  refine ⟨⟨rfl, fun L a wr h h0 hd => ?_⟩, ?_⟩
  · have hL0 : L 0 = true := hd ⟨0, .data⟩ (by simp) rfl
    obtain ⟨w', hr, hI'⟩ := h.ins hL0 4 (by omega) h0 (v := a.eval (.tmp 22)) (fun mb hI _ => hI.tv 15 22 rfl (hd ⟨15, .data⟩ (by simp) rfl)) hn
    exact wp_insert rfl hr rfl hI'
  refine ⟨⟨rfl, fun L a wr h h0 hd => ?_⟩, ?_⟩
  · exact wp_move (.inl rfl) (h.put hn (i := 17) rfl (by decide) (by omega) (Below.refl _ _) fun mb hI _ => hI.e5)
  refine ⟨⟨rfl, fun L a wr h h0 hd => ?_⟩, ?_⟩
  · obtain ⟨m, hJ⟩ := h.some
    exact wp_loadAt rfl (by rw [hJ.e3]; exact run_load_rx (hB.later hJ.bl).b3) (h.put hn (i := 18) rfl (by decide) (by omega) (Below.refl _ _) fun mb hI _ => rfl)
  refine ⟨⟨rfl, fun L a wr h h0 hd => ?_⟩, ?_⟩
  · obtain ⟨m, hJ⟩ := h.some
    exact wp_loadAt rfl (by rw [hJ.e1]; exact run_load_rx (hB.later hJ.bl).b1) (h.put hn (i := 19) rfl (by decide) (by omega) (Below.refl _ _) fun mb hI _ => rfl)
  refine ⟨⟨rfl, fun L a wr h h0 hd => ?_⟩, ?_⟩
  · obtain ⟨m, hJ⟩ := h.some
    have e1 : a.eval (.tmp 23) = vJoin := hJ.tv 17 23 rfl (hd ⟨17, .data⟩ (by simp) rfl)
    have e2 : a.eval (.tmp 24) = rxv everything (some ⟨w.heap.size + 1 + 1, 0, none⟩) 1 := hJ.tv 18 24 rfl (hd ⟨18, .data⟩ (by simp) rfl)
    have e3 : a.eval (.tmp 25) = rxv noneR none 0 := hJ.tv 19 25 rfl (hd ⟨19, .data⟩ (by simp) rfl)
    refine wp_callv rfl e1 enters_join ?_
    rw [show Array.map a.eval #[.tmp 24, .tmp 25] ++ #[] = #[rxv everything (some ⟨w.heap.size + 1 + 1, 0, none⟩) 1, rxv noneR none 0] from by simp [e2, e3]]
    refine (joined_step (hB.later hJ.bl) 5 (by omega) everything noneR rfl rfl _ _ _ _ (.inr ⟨rfl, rfl, rfl⟩) (.inl ⟨.inl rfl, rfl, rfl⟩)).mono ?_
    rintro e w' ⟨v, rfl, hE, hF⟩
    exact ⟨v, rfl, h.put hn (i := 20) rfl (by decide) (by omega) hE fun mb _ hm => hF mb hm⟩
  refine ⟨⟨rfl, fun L a wr h h0 hd => ?_⟩, ?_⟩
  · have hL0 : L 0 = true := hd ⟨0, .data⟩ (by simp) rfl
    obtain ⟨w', hr, hI'⟩ := h.ins hL0 5 (by omega) h0 (v := a.eval (.tmp 26)) (fun mb hI _ => hI.tv 20 26 rfl (hd ⟨20, .data⟩ (by simp) rfl)) hn
    exact wp_insert rfl hr rfl hI'
  refine ⟨⟨rfl, fun L a wr h h0 hd => ?_⟩, ?_⟩
  · have hL0 : L 0 = true := hd ⟨0, .data⟩ (by simp) rfl
    obtain ⟨w', hr, hI'⟩ := h.ins hL0 6 (by omega) h0 (v := .func (.func 59) #[] #[]) (fun mb _ _ => notF_formE wr mb) hn
    exact wp_insert rfl hr rfl hI'
  refine ⟨⟨rfl, fun L a wr h h0 hd => ?_⟩, ?_⟩
  · refine wp_makeFunc rfl (h.put hn (i := 23) rfl (by decide) (by omega) (Below.refl _ _) fun mb hI _ => ?_)
    show Value.func _ _ (Array.map a.eval #[.tmp 2, .tmp 3]) = .func _ #[] #[_, _]
    simp [hI.e2, hI.e3]
  refine ⟨⟨rfl, fun L a wr h h0 hd => ?_⟩, ?_⟩
  · have hL0 : L 0 = true := hd ⟨0, .data⟩ (by simp) rfl
    obtain ⟨w', hr, hI'⟩ := h.ins hL0 7 (by omega) h0 (v := a.eval (.tmp 27)) (fun mb hI hm => by
      rw [show a.eval (.tmp 27) = .func (.func 60) #[] #[pAt (w.heap.size + 1), pAt (w.heap.size + 1 + 1 + 1)] from hI.tv 23 27 rfl (hd ⟨23, .data⟩ (by simp) rfl)]
      exact starF_formE wr mb _ _ _ _ _ _ (hB.later hI.bl).b2 (emptyR_rep _ _) (hB.later hI.bl).b3 (everything_rep (hB.later hI.bl) _ (by omega)) (by omega) (by omega)) hn
    exact wp_insert rfl hr rfl hI'
  refine ⟨⟨rfl, fun L a wr h h0 hd => ?_⟩, ?_⟩
  · have hL0 : L 0 = true := hd ⟨0, .data⟩ (by simp) rfl
    exact wp_move (.inl rfl) (h.put hn (i := 25) rfl (by decide) (fun _ => hL0) (Below.refl _ _) fun mb hI _ => hI.tv 0 11 rfl hL0)
  refine ⟨⟨rfl, fun L a wr h h0 hd => ?_⟩, ?_⟩
  · have h25 : L 25 = true := hd ⟨25, .data⟩ (by simp) rfl
    obtain ⟨m, hJ⟩ := h.some
    exact wp_move (.inr rfl) (h.put hn (i := 26) rfl (by decide) (fun _ => hJ.d25 h25) (Below.refl _ _) fun mb hI _ => hI.tv 25 28 rfl h25)
  exact True.intro
end Go.Proofs.Ytbepohpppailnaa
