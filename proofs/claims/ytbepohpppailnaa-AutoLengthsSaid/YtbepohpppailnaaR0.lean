/- A region in any order, by one order: operations that hold one value in every world of a class, and others that stand alone when they come up. -/
import Derived.Deep.Quiet
import Derived.StillTail
import Derived.Tactics
import Derived.Tactics2
import Derived.KernelRfl
set_option linter.unusedSimpArgs false
set_option linter.unusedVariables false
namespace Go.Proofs.Ytbepohpppailnaa
open Go

section
variable {P : Program} {ops : Array Oper} {md : Region.Mode} {C : World → Prop}

/-- an operation that hands back a value, in whatever world, without a panic -/
def louD (P : Program) (K : Value → World → Prop) : Result Next → Prop
  | .ok (.value v) w' => K v w'
  | .ok .skip w' => K undef w'
  | .ok (.enter f args) w' => Calls P f args w' (fun e w'' => ∃ v, e = .returned v ∧ K v w'')
  | _ => False
def loud (P : Program) (o : Oper) (a : Act) (w : World) (K : Value → World → Prop) : Prop := louD P K ((execOp a.eval o).run P w)
theorem loud_mono {o : Oper} {a : Act} {w : World} {K K' : Value → World → Prop} (h : ∀ v w, K v w → K' v w) (hh : loud P o a w K) : loud P o a w K' := by
  unfold loud at *
  generalize (execOp a.eval o).run P w = r at *
  cases r with
  | ok n w' =>
    cases n <;> simp only [louD] at hh ⊢
    case enter f args => exact hh.mono fun e w'' ⟨v, he, hk⟩ => ⟨v, he, h _ _ hk⟩
    all_goals exact h _ _ hh
  | halt x w' => simp only [louD] at hh

def mOp (P : Program) (ops : Array Oper) (i : Nat) (K : Act → World → Prop) (a : Act) (w : World) : Prop :=
  match ops[i]? with
  | none => K a w
  | some o => if Region.wanted o (yielded ops a.tmps) then loud P o a w (fun v w' => K (a.put o.dst v) w') else K (a.put o.dst undef) w
theorem mOp_mono {i : Nat} {a : Act} {w : World} {K K' : Act → World → Prop} (h : ∀ a w, K a w → K' a w) (hh : mOp P ops i K a w) : mOp P ops i K' a w := by
  unfold mOp at *
  split
  · exact h _ _ (by simpa [*] using hh)
  · rename_i o ho
    simp only [ho] at hh
    split
    · rename_i hw; simp only [hw, if_true] at hh; exact loud_mono (fun v w => h _ _) hh
    · rename_i hw; simp only [hw] at hh; exact h _ _ hh
theorem mOp_yields {i : Nat} {o : Oper} {v : Value} {a : Act} {w : World} (hi : ops[i]? = some o) (hy : YieldsAt P ops w o v a) {K : Act → World → Prop} (h : K (a.put o.dst v) w) : mOp P ops i K a w := by
  unfold mOp
  simp only [hi]
  rcases hy with ⟨hw, hv | ⟨hv, rfl⟩ | ⟨f, args, hv, hc⟩⟩ | ⟨hw, rfl⟩
  · simp only [hw, if_true, loud, hv, louD]; exact h
  · simp only [hw, if_true, loud, hv, louD]; exact h
  · simp only [hw, if_true, loud, hv, louD]; exact hc.mono fun e w'' ⟨he, hw'⟩ => ⟨v, he, by rw [hw']; exact h⟩
  · simp only [hw, Bool.false_eq_true, if_false]; exact h
theorem mOp_put {j : Nat} {oi oj : Oper} {v : Value} (hj : ops[j]? = some oj) (hap : oi.apart ops oj = true)
    (hsi : ∀ cs b, oi.op ≠ .select cs b) (hsj : ∀ cs b, oj.op ≠ .select cs b) {K : Act → World → Prop} {a : Act} {w : World}
    (hy : ∀ w', C w' → YieldsAt P ops w' oi v a) (h : mOp P ops j K (a.put oi.dst v) w) :
    mOp P ops j (fun a' w' => (∀ w', C w' → YieldsAt P ops w' oi v a') ∧ K (a'.put oi.dst v) w') a w := by
  obtain ⟨h1, h2, h3⟩ := Oper.apart_spec hap
  have keep : ∀ u, ∀ w', C w' → YieldsAt P ops w' oi v (a.put oj.dst u) := fun u w' hw' =>
    (hy w' hw').of_same (execOp_put oi hsi a oj.dst u h3) (wanted_put oi a oj.dst u h3)
  unfold mOp at *
  simp only [hj] at *
  rw [wanted_put oj a oi.dst v h1] at h
  split
  · rename_i hw
    simp only [hw, if_true] at h
    unfold loud at *
    rw [execOp_put oj hsj a oi.dst v h1] at h
    generalize (execOp a.eval oj).run P w = r at *
    cases r with
    | ok n w' =>
      cases n <;> simp only [louD] at h ⊢
      case value u => exact ⟨keep u, by rw [← Act.put_comm a v u h2]; exact h⟩
      case skip => exact ⟨keep _, by rw [← Act.put_comm a v undef h2]; exact h⟩
      case enter f args => exact h.mono fun e w'' ⟨u, he, hk⟩ => ⟨u, he, keep u, by rw [← Act.put_comm a v u h2]; exact hk⟩
    | halt x w' => simp only [louD] at h
  · rename_i hw
    simp only [hw] at h
    exact ⟨keep _, by rw [← Act.put_comm a v undef h2]; exact h⟩
theorem wpOp_of_mOp {i : Nat} {a : Act} {w : World} {K : Act → World → Prop} {K' : Act → World → Prop} {Q' : Exit → Act → World → Prop} (h : ∀ a w, K a w → K' a w) (hh : mOp P ops i K a w) : wpOp P ops Q' i K' a w := by
  unfold mOp at hh
  unfold wpOp
  split
  · rename_i ho; simp only [ho] at hh; exact h _ _ hh
  · rename_i o ho
    simp only [ho] at hh
    split
    · rename_i hw
      simp only [hw, if_true] at hh
      refine .inl ?_
      unfold loud at hh
      unfold Oper.wp
      generalize (execOp a.eval o).run P w = r at *
      cases r with
      | ok n w' =>
        cases n <;> simp only [louD] at hh <;> simp only [Oper.upon]
        case enter f args => exact hh.mono fun e w'' ⟨v, he, hk⟩ => by subst he; exact h _ _ hk
        all_goals exact h _ _ hh
      | halt x w' => simp only [louD] at hh
    · rename_i hw; simp only [hw] at hh; exact h _ _ hh

def wpAnyM (P : Program) (md : Region.Mode) (ops : Array Oper) (C : World → Prop) (Q : Act → World → Prop) : Nat → Array Bool → Act → World → Prop
  | 0, listed, a, w => Region.ready md ops listed = [] ∧ Q a w
  | fuel + 1, listed, a, w => Region.ready md ops listed ≠ [] ∧ ∀ i ∈ Region.ready md ops listed, mOp P ops i (fun a' w' => C w' ∧ wpAnyM P md ops C Q fuel (listed.setIfInBounds i true) a' w') a w
theorem wpAny_of_M {Q : Act → World → Prop} {Q' : Exit → Act → World → Prop} (hQ : ∀ a w, Q a w → Q' .normal a w) : ∀ (fuel : Nat) (listed : Array Bool) (a : Act) (w : World), wpAnyM P md ops C Q fuel listed a w → wpAny P md ops Q' fuel listed a w
  | 0, _, _, _, h => ⟨h.1, hQ _ _ h.2⟩
  | fuel + 1, _, _, _, h => ⟨fun h0 => absurd h0 h.1, fun i hi => wpOp_of_mOp (fun a' w' h' => wpAny_of_M hQ fuel _ a' w' h'.2) (h.2 i hi)⟩
theorem wpAnyM_first {Q : Act → World → Prop} {i : Nat} {oi : Oper} {v : Value} (hi : ops[i]? = some oi) (hsel : ∀ (j : Nat) (o : Oper) cs b, ops[j]? = some o → o.op ≠ .select cs b) :
    ∀ (fuel : Nat) (listed : Array Bool) (a : Act) (w : World), C w →
      (∀ j oj, ops[j]? = some oj → j ≠ i → listed.getD j true = false → (∀ e ∈ oj.after, Region.binds md e = true → e.on ≠ i) → oi.apart ops oj = true) →
      i ∈ Region.ready md ops listed → (∀ w', C w' → YieldsAt P ops w' oi v a) →
      wpAnyM P md ops C Q fuel (listed.setIfInBounds i true) (a.put oi.dst v) w → wpAnyM P md ops C Q (fuel + 1) listed a w := by
  intro fuel
  induction fuel with
  | zero =>
    intro listed a w hC _ hr hy H
    refine ⟨fun h => (by rw [h] at hr; cases hr), fun j hj => ?_⟩
    by_cases hji : j = i
    · subst hji; exact mOp_yields hi (hy w hC) ⟨hC, H⟩
    · have := ready_mono hj hji
      rw [H.1] at this
      cases this
  | succ fuel ih =>
    intro listed a w hC hfree hr hy H
    refine ⟨fun h => (by rw [h] at hr; cases hr), fun j hj => ?_⟩
    by_cases hji : j = i
    · subst hji; exact mOp_yields hi (hy w hC) ⟨hC, H⟩
    · have h1 := H.2 j (ready_mono hj hji)
      obtain ⟨hjun, oj, hoj, hall⟩ := mem_ready.1 hj
      have hnot : ∀ e ∈ oj.after, Region.binds md e = true → e.on ≠ i := fun e he hb heq => by
        have h1 := hall e he hb
        have h0 := (mem_ready.1 hr).1
        rw [heq] at h1
        rcases Nat.lt_or_ge i listed.size with h' | h'
        · simp [h'] at h0 h1; rw [h0] at h1; cases h1
        · simp [Array.getElem?_eq_none h'] at h1
      have h2 := mOp_put (C := C) hoj (hfree j oj hoj hji hjun hnot) (fun cs b => hsel i oi cs b hi) (fun cs b => hsel j oj cs b hoj) hy h1
      have hfree' : ∀ k ok, ops[k]? = some ok → k ≠ i → (listed.setIfInBounds j true).getD k true = false →
          (∀ e ∈ ok.after, Region.binds md e = true → e.on ≠ i) → oi.apart ops ok = true := fun k ok hk hki hun hno => by
        refine hfree k ok hk hki ?_ hno
        by_cases hjk : j = k
        · subst hjk; exact hjun
        · rw [getD_set_ne true hjk] at hun; exact hun
      refine mOp_mono (fun a' w' h3 => ⟨h3.2.1, ih (listed.setIfInBounds j true) a' w' h3.2.1 hfree' (ready_mono hr (Ne.symm hji)) h3.1 ?_⟩) h2
      rw [Array.setIfInBounds_comm _ _ hji]
      exact h3.2.2

/-- one order: 'true': the operation holds one value in every world of the class; 'false': it stands alone when it comes up -/
def wpMix (P : Program) (ops : Array Oper) (C : World → Prop) (Q : Act → World → Prop) : List (Bool × Oper) → Act → World → Prop
  | [], a, w => Q a w
  | (true, o) :: rest, a, w => ∃ v, (∀ w', C w' → YieldsAt P ops w' o v a) ∧ wpMix P ops C Q rest (a.put o.dst v) w
  | (false, o) :: rest, a, w => if Region.wanted o (yielded ops a.tmps) then loud P o a w (fun v w' => C w' ∧ wpMix P ops C Q rest (a.put o.dst v) w') else wpMix P ops C Q rest (a.put o.dst undef) w
def mixFrom (md : Region.Mode) (ops : Array Oper) : List (Nat × Bool) → Array Bool → Bool
  | [], listed => (Region.ready md ops listed).isEmpty
  | (i, true) :: r, listed => (Region.ready md ops listed).contains i && Region.free md ops listed i && mixFrom md ops r (listed.setIfInBounds i true)
  | (i, false) :: r, listed => decide (Region.ready md ops listed = [i]) && mixFrom md ops r (listed.setIfInBounds i true)
def mixB (md : Region.Mode) (ops : Array Oper) (ord : List (Nat × Bool)) : Bool :=
  Region.noSelect ops && ord.all (fun p => decide (p.1 < ops.size)) && decide (ord.length = ops.size) && mixFrom md ops ord (Array.replicate ops.size false)
def mixList (ops : Array Oper) : List (Nat × Bool) → List (Bool × Oper)
  | [] => []
  | (i, b) :: r => match ops[i]? with
    | some o => (b, o) :: mixList ops r
    | none => mixList ops r
theorem wpAnyM_mix {Q : Act → World → Prop} (hs : Region.noSelect ops = true) : ∀ (ord : List (Nat × Bool)) (listed : Array Bool) (a : Act) (w : World), (ord.all fun p => decide (p.1 < ops.size)) = true →
    mixFrom md ops ord listed = true → C w → wpMix P ops C Q (mixList ops ord) a w → wpAnyM P md ops C Q ord.length listed a w
  | [], _, _, _, _, hB, _, h => ⟨by simpa [mixFrom] using hB, h⟩
  | (i, b) :: r, listed, a, w, hall, hB, hC, h => by
    simp only [List.all_cons, Bool.and_eq_true, decide_eq_true_eq] at hall
    have hi : ops[i]? = some ops[i] := Array.getElem?_eq_getElem hall.1
    simp only [mixList, hi] at h
    cases b with
    | true =>
      simp only [mixFrom, Bool.and_eq_true] at hB
      obtain ⟨⟨hr, hf⟩, hB'⟩ := hB
      obtain ⟨v, hy, hK⟩ := h
      exact wpAnyM_first hi (Region.noSelect_spec hs) r.length listed a w hC (Region.free_spec hi hf) (by simpa using hr) hy (wpAnyM_mix hs r _ _ w hall.2 hB' hC hK)
    | false =>
      simp only [mixFrom, Bool.and_eq_true, decide_eq_true_eq] at hB
      obtain ⟨hr, hB'⟩ := hB
      refine ⟨fun h0 => (by rw [h0] at hr; cases hr), fun j hj => ?_⟩
      rw [hr] at hj
      have hji : j = i := by simpa using hj
      subst hji
      simp only [wpMix] at h
      unfold mOp
      simp only [hi]
      by_cases hw : Region.wanted ops[j] (yielded ops a.tmps) = true
      · rw [if_pos hw] at h ⊢
        exact loud_mono (fun v w' ⟨h1, h2⟩ => ⟨h1, wpAnyM_mix hs r _ _ w' hall.2 hB' h1 h2⟩) h
      · rw [if_neg hw] at h ⊢
        exact ⟨hC, wpAnyM_mix hs r _ _ w hall.2 hB' hC h⟩
/-- a region in any order, walked in one order of the user's -/
theorem wp_region_mix {id : Nat} {Q : Exit → Act → World → Prop} {a : Act} {w : World} {l : List Oper} (C : World → Prop) (ord : List (Nat × Bool)) (hm : P.follows .mixedOrders = true) (hB : mixB .any l.toArray ord = true) (hC : C w.drew)
    (h : wpMix P l.toArray C (fun a' w' => Q .normal a' w') (mixList l.toArray ord) a w.drew) : (Code.region id l.toArray true).wp P Q a w := by
  simp only [mixB, Bool.and_eq_true, decide_eq_true_eq] at hB
  obtain ⟨⟨⟨hsel, hall⟩, hlen⟩, hB⟩ := hB
  refine wp_region_any hm (wpAny_of_M (C := C) (fun _ _ h => h) _ _ _ _ ?_)
  have := wpAnyM_mix (C := C) (md := .any) hsel ord _ a w.drew hall hB hC h
  rw [hlen] at this
  exact this

/-! ### with a tail in one order, before which everything else is done -/
def wpAnyML (P : Program) (md : Region.Mode) (ops : Array Oper) (C : World → Prop) (n : Nat) (L : Array Bool → Act → World → Prop) : Nat → Array Bool → Act → World → Prop
  | 0, listed, a, w => L listed a w
  | f + 1, listed, a, w => Region.ready md ops listed ≠ [] ∧ ∀ i ∈ Region.ready md ops listed, i < n ∧ mOp P ops i (fun a' w' => C w' ∧ wpAnyML P md ops C n L f (listed.setIfInBounds i true) a' w') a w
theorem wpAny_of_headM {n g : Nat} {L : Array Bool → Act → World → Prop} {Q' : Exit → Act → World → Prop} (hL : ∀ listed a w, L listed a w → wpAny P md ops Q' g listed a w) :
    ∀ (f : Nat) (listed : Array Bool) (a : Act) (w : World), wpAnyML P md ops C n L f listed a w → wpAny P md ops Q' (f + g) listed a w
  | 0, listed, a, w, h => by rw [Nat.zero_add]; exact hL _ _ _ h
  | f + 1, listed, a, w, h => by
    rw [show f + 1 + g = (f + g) + 1 by omega]
    exact ⟨fun h0 => absurd h0 h.1, fun i hi => wpOp_of_mOp (fun a' w' h' => wpAny_of_headM hL f _ a' w' h'.2) (h.2 i hi).2⟩
theorem wpAnyML_first {n i : Nat} {oi : Oper} {v : Value} {L : Array Bool → Act → World → Prop} (hi : ops[i]? = some oi) (hsel : ∀ (j : Nat) (o : Oper) cs b, ops[j]? = some o → o.op ≠ .select cs b)
    (hs : Region.sinkB md ops n = true) (hc : Region.chainB md ops n = true) (hn : n < ops.size) (hin : i < n)
    (hdone : ∀ listed a w, L listed a w → ∀ j ∈ Region.ready md ops listed, n ≤ j) :
    ∀ (f : Nat) (listed : Array Bool) (a : Act) (w : World), C w → HeadInv md ops n listed →
      (∀ j oj, ops[j]? = some oj → j ≠ i → listed.getD j true = false → (∀ e ∈ oj.after, Region.binds md e = true → e.on ≠ i) → oi.apart ops oj = true) →
      i ∈ Region.ready md ops listed → (∀ w', C w' → YieldsAt P ops w' oi v a) →
      wpAnyML P md ops C n L f (listed.setIfInBounds i true) (a.put oi.dst v) w → wpAnyML P md ops C n L (f + 1) listed a w := by
  intro f
  induction f with
  | zero =>
    intro listed a w hC inv _ hr hy H
    have hun := (mem_ready.1 hr).1
    refine ⟨fun h => (by rw [h] at hr; cases hr), fun j hj => ?_⟩
    have hjn : j < n := by
      rcases Nat.lt_or_ge j n with h | h
      · exact h
      · exact absurd hj (tail_waits hs hc hn inv _ i rfl hin hun j h)
    refine ⟨hjn, ?_⟩
    by_cases hji : j = i
    · subst hji; exact mOp_yields hi (hy w hC) ⟨hC, H⟩
    · have := hdone _ _ _ H j (ready_mono hj hji)
      omega
  | succ f ih =>
    intro listed a w hC inv hfree hr hy H
    have hun := (mem_ready.1 hr).1
    refine ⟨fun h => (by rw [h] at hr; cases hr), fun j hj => ?_⟩
    have hjn : j < n := by
      rcases Nat.lt_or_ge j n with h | h
      · exact h
      · exact absurd hj (tail_waits hs hc hn inv _ i rfl hin hun j h)
    refine ⟨hjn, ?_⟩
    by_cases hji : j = i
    · subst hji; exact mOp_yields hi (hy w hC) ⟨hC, H⟩
    · have h1 := (H.2 j (ready_mono hj hji)).2
      obtain ⟨hjun, oj, hoj, hall⟩ := mem_ready.1 hj
      have hnot : ∀ e ∈ oj.after, Region.binds md e = true → e.on ≠ i := fun e he hb heq => by
        have h1 := hall e he hb
        rw [heq, getD_both hun] at h1
        cases h1
      have h2 := mOp_put (C := C) hoj (hfree j oj hoj hji hjun hnot) (fun cs b => hsel i oi cs b hi) (fun cs b => hsel j oj cs b hoj) hy h1
      have hfree' : ∀ k ok, ops[k]? = some ok → k ≠ i → (listed.setIfInBounds j true).getD k true = false →
          (∀ e ∈ ok.after, Region.binds md e = true → e.on ≠ i) → oi.apart ops ok = true := fun k ok hk hki hun hno => by
        refine hfree k ok hk hki ?_ hno
        by_cases hjk : j = k
        · subst hjk; exact hjun
        · rw [getD_set_ne true hjk] at hun; exact hun
      refine mOp_mono (fun a' w' h3 => ⟨h3.2.1, ih (listed.setIfInBounds j true) a' w' h3.2.1 (inv.set hj hjn) hfree' (ready_mono hr (Ne.symm hji)) h3.1 ?_⟩) h2
      rw [Array.setIfInBounds_comm _ _ hji]
      exact h3.2.2
def mixFromT (md : Region.Mode) (ops : Array Oper) (n g : Nat) : List (Nat × Bool) → Array Bool → Bool
  | [], listed => Region.seqB md ops g n listed
  | (i, true) :: r, listed => decide (i < n) && (Region.ready md ops listed).contains i && Region.free md ops listed i && mixFromT md ops n g r (listed.setIfInBounds i true)
  | (i, false) :: r, listed => decide (i < n) && decide (Region.ready md ops listed = [i]) && mixFromT md ops n g r (listed.setIfInBounds i true)
def mixBT (md : Region.Mode) (ops : Array Oper) (n : Nat) (ord : List (Nat × Bool)) : Bool :=
  Region.noSelect ops && decide (n < ops.size) && Region.sinkB md ops n && Region.chainB md ops n && ord.all (fun p => decide (p.1 < ops.size)) && decide (ord.length = n) && mixFromT md ops n (ops.size - n) ord (Array.replicate ops.size false)
theorem wpAnyML_mix {n g : Nat} {L : Act → World → Prop} (hsel : Region.noSelect ops = true) (hs : Region.sinkB md ops n = true) (hc : Region.chainB md ops n = true) (hn : n < ops.size) :
    ∀ (ord : List (Nat × Bool)) (listed : Array Bool) (a : Act) (w : World), (ord.all fun p => decide (p.1 < ops.size)) = true → HeadInv md ops n listed →
    mixFromT md ops n g ord listed = true → C w → wpMix P ops C L (mixList ops ord) a w → wpAnyML P md ops C n (fun listed' a' w' => Region.seqB md ops g n listed' = true ∧ L a' w') ord.length listed a w
  | [], _, _, _, _, _, hB, _, h => ⟨by simpa [mixFromT] using hB, h⟩
  | (i, b) :: r, listed, a, w, hall, inv, hB, hC, h => by
    simp only [List.all_cons, Bool.and_eq_true, decide_eq_true_eq] at hall
    have hi : ops[i]? = some ops[i] := Array.getElem?_eq_getElem hall.1
    simp only [mixList, hi] at h
    cases b with
    | true =>
      simp only [mixFromT, Bool.and_eq_true, decide_eq_true_eq] at hB
      obtain ⟨⟨⟨hin, hr⟩, hf⟩, hB'⟩ := hB
      have hr' : i ∈ Region.ready md ops listed := by simpa using hr
      obtain ⟨v, hy, hK⟩ := h
      exact wpAnyML_first hi (Region.noSelect_spec hsel) hs hc hn hin (fun listed' a' w' hL => seqB_ready hL.1) r.length listed a w hC inv (Region.free_spec hi hf) hr' hy (wpAnyML_mix hsel hs hc hn r _ _ w hall.2 (inv.set hr' hin) hB' hC hK)
    | false =>
      simp only [mixFromT, Bool.and_eq_true, decide_eq_true_eq] at hB
      obtain ⟨⟨hin, hr⟩, hB'⟩ := hB
      have hr' : i ∈ Region.ready md ops listed := by rw [hr]; simp
      refine ⟨fun h0 => (by rw [h0] at hr; cases hr), fun j hj => ?_⟩
      rw [hr] at hj
      have hji : j = i := by simpa using hj
      subst hji
      refine ⟨hin, ?_⟩
      simp only [wpMix] at h
      unfold mOp
      simp only [hi]
      by_cases hw : Region.wanted ops[j] (yielded ops a.tmps) = true
      · rw [if_pos hw] at h ⊢
        exact loud_mono (fun v w' ⟨h1, h2⟩ => ⟨h1, wpAnyML_mix hsel hs hc hn r _ _ w' hall.2 (inv.set hr' hin) hB' h1 h2⟩) h
      · rw [if_neg hw] at h ⊢
        exact ⟨hC, wpAnyML_mix hsel hs hc hn r _ _ w hall.2 (inv.set hr' hin) hB' hC h⟩
/-- .. and the same with a tail: everything before operation n is done first, in whatever order; then the tail, as it stands -/
theorem wp_region_mix_tail {id : Nat} {Q : Exit → Act → World → Prop} {a : Act} {w : World} {l : List Oper} (C : World → Prop) (n : Nat) (ord : List (Nat × Bool)) (hm : P.follows .mixedOrders = true) (hB : mixBT .any l.toArray n ord = true) (hC : C w.drew)
    (h : wpMix P l.toArray C (fun a' w' => wpList P l.toArray Q (l.drop n) a' w') (mixList l.toArray ord) a w.drew) : (Code.region id l.toArray true).wp P Q a w := by
  simp only [mixBT, Bool.and_eq_true, decide_eq_true_eq] at hB
  obtain ⟨⟨⟨⟨⟨⟨hsel, hn⟩, hs⟩, hc⟩, hall⟩, hlen⟩, hB⟩ := hB
  have hdl : (l.drop n).length = l.toArray.size - n := by simp
  have inv0 : HeadInv .any l.toArray n (Array.replicate l.toArray.size false) :=
    ⟨by simp, fun j oj _ hl => (by rw [getD_replicate_false] at hl; cases hl), fun t _ ht => getD_in (by simpa using ht) (getD_replicate_false _ _)⟩
  have H := wpAnyML_mix (C := C) (md := .any) (g := l.toArray.size - n) hsel hs hc hn ord _ a w.drew hall inv0 hB hC h
  refine wp_region_any hm ?_
  have := wpAny_of_headM (Q' := Q) (g := l.toArray.size - n) (fun listed a' w' hL => by
    have := wpAny_of_seq (md := .any) (Q' := Q) (l.drop n) n listed a' w' (fun j => by simp [List.getElem?_drop]) (by rw [hdl]; exact hL.1) hL.2
    rwa [hdl] at this) _ _ _ _ H
  rw [hlen, show n + (l.toArray.size - n) = l.toArray.size by omega] at this
  exact this
end

theorem mix_held {P : Program} {ops : Array Oper} {C : World → Prop} {Q : Act → World → Prop} {o : Oper} {rest : List (Bool × Oper)} {a : Act} {w : World} (v : Value)
    (hw : Region.wanted o (yielded ops a.tmps) = true) (h1 : ∀ w', C w' → (execOp a.eval o).run P w' = .ok (.value v) w') (h2 : wpMix P ops C Q rest (a.put o.dst v) w) : wpMix P ops C Q ((true, o) :: rest) a w :=
  ⟨v, fun w' hC => .inl ⟨hw, .inl (h1 w' hC)⟩, h2⟩
theorem mix_loud {P : Program} {ops : Array Oper} {C : World → Prop} {Q : Act → World → Prop} {o : Oper} {rest : List (Bool × Oper)} {a : Act} {w : World}
    (hw : Region.wanted o (yielded ops a.tmps) = true) (h : loud P o a w (fun v w' => C w' ∧ wpMix P ops C Q rest (a.put o.dst v) w')) : wpMix P ops C Q ((false, o) :: rest) a w := by
  simp only [wpMix]; rw [if_pos hw]; exact h
end Go.Proofs.Ytbepohpppailnaa
