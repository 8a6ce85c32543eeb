/- Expressions as trees, and plain functions on them: no program in sight. The order of expressions is a total order: no program in sight. Sorted lists of expressions without doubles: no program in sight. Normal forms: what is kept by them. No program in sight. Derivatives: what is kept by them. No program in sight. Numbering what is reached: no program in sight. Numbers in increasing order, each once: no program in sight. Automata: what is asked of one; what is run. No program in sight. What automata accept: lengths, the least string, runs. No program in sight. Automata made of numbers. No program in sight. The least accepted string is least and accepted; lengths by one step. No program in sight. -/
import Derived.Lib.SlicesCompact
set_option linter.unusedSimpArgs false
set_option linter.unusedVariables false
namespace Go.Proofs.Ytbepohpppailnaa

inductive Rx where
  | mk (k : Int) (lo hi : Nat) (ks : List Rx)
namespace Rx
def k : Rx → Int | .mk k _ _ _ => k
def lo : Rx → Nat | .mk _ l _ _ => l
def hi : Rx → Nat | .mk _ _ h _ => h
def ks : Rx → List Rx | .mk _ _ _ s => s
end Rx
theorem Rx.k_mk (k : Int) (lo hi : Nat) (ks : List Rx) : (Rx.mk k lo hi ks).k = k := rfl
theorem Rx.lo_mk (k : Int) (lo hi : Nat) (ks : List Rx) : (Rx.mk k lo hi ks).lo = lo := rfl
theorem Rx.hi_mk (k : Int) (lo hi : Nat) (ks : List Rx) : (Rx.mk k lo hi ks).hi = hi := rfl
theorem Rx.ks_mk (k : Int) (lo hi : Nat) (ks : List Rx) : (Rx.mk k lo hi ks).ks = ks := rfl
theorem Rx.ind {P : Rx → Prop} (h : ∀ k lo hi ks, (∀ r ∈ ks, P r) → P (.mk k lo hi ks)) : ∀ r, P r := by
  intro r
  refine Rx.rec (motive_1 := P) (motive_2 := fun l => ∀ r ∈ l, P r) ?_ ?_ ?_ r
  · intro k lo hi ks ih; exact h k lo hi ks ih
  · intro r hr; cases hr
  · intro r l h1 h2 x hx
    cases hx with
    | head => exact h1
    | tail _ hx => exact h2 x hx

mutual
/-- the number of nodes -/
def nodes : Rx → Nat
  | .mk _ _ _ ks => 1 + nodesL ks
def nodesL : List Rx → Nat
  | [] => 0
  | r :: rs => nodes r + nodesL rs
end
mutual
/-- the program's countdown -/
def cdown : Rx → Int → Int
  | .mk _ _ _ ks, left => cdownL ks (left - 1)
def cdownL : List Rx → Int → Int
  | [], left => left
  | r :: rs, left => if 0 ≤ left then cdownL rs (cdown r left) else left
end
theorem cdownL_drop (ks : List Rx) (i : Nat) (r : Rx) (l : Int) (h : ks[i]? = some r) : cdownL (ks.drop i) l = if 0 ≤ l then cdownL (ks.drop (i+1)) (cdown r l) else l := by
  obtain ⟨hi, rfl⟩ := List.getElem?_eq_some_iff.1 h
  rw [List.drop_eq_getElem_cons hi]
  simp only [cdownL]
theorem cdownL_neg (ks : List Rx) (l : Int) (h : l < 0) : cdownL ks l = l := by
  cases ks with
  | nil => rfl
  | cons a b => simp only [cdownL]; rw [if_neg (by omega)]
theorem cdown_spec : ∀ r : Rx, ∀ left : Int, 0 ≤ left → (nodes r ≤ left → cdown r left = left - nodes r) ∧ (left < nodes r → cdown r left = -1) := by
  refine Rx.ind ?_
  intro k lo hi ks ih left hl
  have key : ∀ l : List Rx, (∀ r ∈ l, r ∈ ks) → ∀ left : Int, -1 ≤ left → (nodesL l ≤ left → cdownL l left = left - nodesL l) ∧ (left < nodesL l → cdownL l left = -1) := by
    intro l
    induction l with
    | nil =>
      intro _ left hle
      simp only [nodesL, cdownL]
      constructor <;> intro h <;> omega
    | cons r rs ihl =>
      intro hm left hle
      simp only [nodesL, cdownL]
      by_cases h0 : 0 ≤ left
      · rw [if_pos h0]
        have h1 := ih r (hm r (List.mem_cons_self)) left h0
        by_cases h2 : (nodes r : Int) ≤ left
        · have h3 := h1.1 h2
          have h4 := ihl (fun x hx => hm x (List.mem_cons_of_mem _ hx)) (cdown r left) (by omega)
          rw [h3] at h4 ⊢
          constructor
          · intro h5; have := h4.1 (by omega); omega
          · intro h5; have := h4.2 (by omega); omega
        · have h3 := h1.2 (by omega)
          rw [h3, cdownL_neg _ _ (by omega)]
          constructor
          · intro h5; omega
          · intro h5; rfl
      · rw [if_neg h0]
        constructor
        · intro h5; omega
        · intro h5; omega
  have := key ks (fun _ h => h) (left - 1) (by omega)
  simp only [nodes, cdown]
  constructor
  · intro h; have := this.1 (by omega); omega
  · intro h; have := this.2 (by omega); omega
theorem nodes_pos (r : Rx) : 1 ≤ nodes r := by cases r; simp only [nodes]; omega
theorem cdown_range (r : Rx) (left : Int) (h : -1 ≤ left) : -2 ≤ cdown r left ∧ cdown r left ≤ left := by
  by_cases h0 : 0 ≤ left
  · have := cdown_spec r left h0
    have hp := nodes_pos r
    by_cases h1 : (nodes r : Int) ≤ left
    · have := this.1 h1; omega
    · have := this.2 (by omega); omega
  · cases r with
    | mk k lo hi ks => simp only [cdown]; rw [cdownL_neg _ _ (by omega)]; omega

/-- the order of two numbers -/
def icmp (x y : Int) : Int := if x < y then -1 else if y < x then 1 else 0
def or3 (a b c : Int) : Int := if a ≠ 0 then a else if b ≠ 0 then b else c
mutual
/-- the order of expressions -/
def rcmp : Rx → Rx → Int
  | .mk k lo hi ks, r => if or3 (icmp k r.k) (icmp lo r.lo) (icmp hi r.hi) ≠ 0 then or3 (icmp k r.k) (icmp lo r.lo) (icmp hi r.hi) else rcmpL ks r.ks
def rcmpL : List Rx → List Rx → Int
  | [], [] => 0
  | [], _ :: _ => -1
  | _ :: _, [] => 1
  | a :: as, b :: bs => if rcmp a b ≠ 0 then rcmp a b else rcmpL as bs
end
mutual
/-- the fields of all nodes are as they have to be -/
def proper : Rx → Bool
  | .mk k lo hi ks =>
    if k ≠ 2 ∧ (lo ≠ 0 ∨ hi ≠ 0) then false
    else if k = 0 ∨ k = 1 then decide (ks.length = 0)
    else if k = 2 then decide (ks.length = 0 ∧ lo ≤ hi)
    else if k = 3 ∨ k = 4 ∨ k = 5 then properL ks
    else if k = 6 ∨ k = 7 then decide (ks.length = 1) && properL ks
    else false
def properL : List Rx → Bool
  | [] => true
  | r :: rs => proper r && properL rs
end
theorem properL_drop (ks : List Rx) (i : Nat) (x : Rx) (hx : ks[i]? = some x) : properL (ks.drop i) = (proper x && properL (ks.drop (i + 1))) := by
  obtain ⟨hi, rfl⟩ := List.getElem?_eq_some_iff.1 hx
  rw [List.drop_eq_getElem_cons hi]
  simp only [properL]
theorem properL_end (ks : List Rx) (i : Nat) (h : ks.length ≤ i) : properL (ks.drop i) = true := by
  rw [List.drop_eq_nil_of_le h]; rfl
theorem properL_mem {ks : List Rx} (h : properL ks = true) : ∀ x ∈ ks, proper x = true := by
  induction ks with
  | nil => intro x hx; cases hx
  | cons a as ih =>
    simp only [properL, Bool.and_eq_true] at h
    intro x hx
    cases hx with
    | head => exact h.1
    | tail _ hx => exact ih h.2 x hx
/-- the error of an expression: 0, 4 (too large), 1 (malformed) -/
def rvalid (r : Rx) : Int := if cdown r 64 < 0 then 4 else if proper r then 0 else 1

mutual
/-- the empty string is one of a valid expression -/
def nullable : Rx → Bool
  | .mk k _ _ ks =>
    if k = 1 ∨ k = 7 then true
    else if k = 3 ∨ k = 5 then nullAll ks
    else if k = 4 then nullAny ks
    else if k = 6 then !nullFst ks
    else false
def nullAll : List Rx → Bool
  | [] => true
  | r :: rs => nullable r && nullAll rs
def nullAny : List Rx → Bool
  | [] => false
  | r :: rs => nullable r || nullAny rs
def nullFst : List Rx → Bool
  | [] => false
  | r :: _ => nullable r
end
theorem nullAll_drop (ks : List Rx) (i : Nat) (x : Rx) (hx : ks[i]? = some x) : nullAll (ks.drop i) = (nullable x && nullAll (ks.drop (i + 1))) := by
  obtain ⟨hi, rfl⟩ := List.getElem?_eq_some_iff.1 hx
  rw [List.drop_eq_getElem_cons hi]
  simp only [nullAll]
theorem nullAll_end (ks : List Rx) (i : Nat) (h : ks.length ≤ i) : nullAll (ks.drop i) = true := by
  rw [List.drop_eq_nil_of_le h]; rfl
theorem nullAny_any (ks : List Rx) : nullAny ks = ks.any nullable := by
  induction ks with
  | nil => rfl
  | cons a as ih => simp only [nullAny, List.any_cons, ih]

/-- the first place at which a predicate holds, or -1 -/
def fidx {α : Type} (p : α → Bool) (l : List α) : Int := match l.findIdx? p with | some i => i | none => -1
theorem fidx_hit {α : Type} (p : α → Bool) (l : List α) (i : Nat) (x : α) (hx : l[i]? = some x) (hp : p x = true) (hn : ∀ (j : Nat) (y : α), j < i → l[j]? = some y → p y = false) : fidx p l = i := by
  have : l.findIdx? p = some i := by
    rw [List.findIdx?_eq_some_iff_getElem]
    obtain ⟨hi, rfl⟩ := List.getElem?_eq_some_iff.1 hx
    refine ⟨hi, hp, fun j hj => ?_⟩
    have := hn j l[j] hj (List.getElem?_eq_getElem (by omega))
    simp [this]
  simp [fidx, this]
theorem fidx_miss {α : Type} (p : α → Bool) (l : List α) (hn : ∀ (j : Nat) (y : α), l[j]? = some y → p y = false) : fidx p l = -1 := by
  have : l.findIdx? p = none := by
    rw [List.findIdx?_eq_none_iff]
    intro x hx
    obtain ⟨j, hj⟩ := List.getElem?_of_mem hx
    exact hn j x hj
  simp [fidx, this]
theorem fidx_any {α : Type} (p : α → Bool) (l : List α) : decide (0 ≤ fidx p l) = l.any p := by
  unfold fidx
  cases h : l.findIdx? p with
  | none =>
    rw [List.findIdx?_eq_none_iff] at h
    have : l.any p = false := by rw [List.any_eq_false]; intro x hx; simp [h x hx]
    simp [this]
  | some i =>
    rw [List.findIdx?_eq_some_iff_getElem] at h
    obtain ⟨hi, hp, _⟩ := h
    have : l.any p = true := by rw [List.any_eq_true]; exact ⟨l[i], List.getElem_mem hi, hp⟩
    rw [this]
    simp only [decide_eq_true_eq]
    omega
theorem ieq_t {a b : Int} (h : a = b) : (a == b) = true := by simpa using h
theorem ieq_f {a b : Int} (h : a ≠ b) : (a == b) = false := by simpa using h
theorem ine_t {a b : Int} (h : a ≠ b) : (a != b) = true := by simpa using h
theorem ine_f {a b : Int} (h : a = b) : (a != b) = false := by simpa using h
end Go.Proofs.Ytbepohpppailnaa
namespace Go.Proofs.Ytbepohpppailnaa

theorem icmp_swap (x y : Int) : icmp y x = - icmp x y := by unfold icmp; split <;> split <;> omega
theorem icmp_zero (x y : Int) : icmp x y = 0 ↔ x = y := by unfold icmp; split <;> (try split) <;> omega
theorem icmp_self (x : Int) : icmp x x = 0 := (icmp_zero x x).2 rfl
theorem icmp_range (x y : Int) : icmp x y = -1 ∨ icmp x y = 0 ∨ icmp x y = 1 := by unfold icmp; split <;> (try split) <;> omega
theorem icmp_trans {x y z : Int} (h : icmp x y ≤ 0) (h' : icmp y z ≤ 0) : icmp x z ≤ 0 ∧ (icmp x z = 0 ↔ icmp x y = 0 ∧ icmp y z = 0) := by
  unfold icmp at *
  split at h <;> split at h' <;> (try split at h) <;> (try split at h') <;> split <;> (try split) <;> omega
theorem or3_swap (a b c : Int) : or3 (-a) (-b) (-c) = - or3 a b c := by unfold or3; split <;> split <;> (try split) <;> (try split) <;> omega
theorem or3_zero (a b c : Int) : or3 a b c = 0 ↔ a = 0 ∧ b = 0 ∧ c = 0 := by unfold or3; split <;> (try split) <;> omega
theorem or3_trans {a1 b1 c1 a2 b2 c2 a3 b3 c3 : Int} (ha : a1 ≤ 0 → a2 ≤ 0 → a3 ≤ 0 ∧ (a3 = 0 ↔ a1 = 0 ∧ a2 = 0)) (hb : b1 ≤ 0 → b2 ≤ 0 → b3 ≤ 0 ∧ (b3 = 0 ↔ b1 = 0 ∧ b2 = 0)) (hc : c1 ≤ 0 → c2 ≤ 0 → c3 ≤ 0 ∧ (c3 = 0 ↔ c1 = 0 ∧ c2 = 0))
    (h : or3 a1 b1 c1 ≤ 0) (h' : or3 a2 b2 c2 ≤ 0) : or3 a3 b3 c3 ≤ 0 ∧ (or3 a3 b3 c3 = 0 ↔ or3 a1 b1 c1 = 0 ∧ or3 a2 b2 c2 = 0) := by
  have a1le : a1 ≤ 0 := by unfold or3 at h; split at h <;> omega
  have a2le : a2 ≤ 0 := by unfold or3 at h'; split at h' <;> omega
  have ha' := ha a1le a2le
  by_cases x : a3 = 0
  · obtain ⟨rfl, rfl⟩ := ha'.2.1 x
    subst x
    have e : ∀ b c, or3 0 b c = if b ≠ 0 then b else c := by intro b c; unfold or3; simp
    rw [e] at h h' ⊢
    rw [e, e]
    have b1le : b1 ≤ 0 := by split at h <;> omega
    have b2le : b2 ≤ 0 := by split at h' <;> omega
    have hb' := hb b1le b2le
    by_cases y : b3 = 0
    · obtain ⟨rfl, rfl⟩ := hb'.2.1 y
      subst y
      simp only [ne_eq, not_true_eq_false, if_false] at *
      exact hc h h'
    · have y' : ¬ (b1 = 0 ∧ b2 = 0) := fun hh => y (hb'.2.2 hh)
      rw [if_pos y]
      refine ⟨hb'.1, ⟨fun hh => absurd hh y, fun hh => ?_⟩⟩
      exfalso
      apply y'
      obtain ⟨h1, h2⟩ := hh
      constructor
      · split at h1 <;> omega
      · split at h2 <;> omega
  · have x' : ¬ (a1 = 0 ∧ a2 = 0) := fun hh => x (ha'.2.2 hh)
    have e : or3 a3 b3 c3 = a3 := by unfold or3; rw [if_pos x]
    rw [e]
    refine ⟨ha'.1, ⟨fun hh => absurd hh x, fun hh => ?_⟩⟩
    exfalso
    apply x'
    obtain ⟨h1, h2⟩ := hh
    exact ⟨((or3_zero _ _ _).1 h1).1, ((or3_zero _ _ _).1 h2).1⟩
theorem if_trans {a1 r1 a2 r2 a3 r3 : Int} (ha : a1 ≤ 0 → a2 ≤ 0 → a3 ≤ 0 ∧ (a3 = 0 ↔ a1 = 0 ∧ a2 = 0)) (hr : r1 ≤ 0 → r2 ≤ 0 → r3 ≤ 0 ∧ (r3 = 0 ↔ r1 = 0 ∧ r2 = 0))
    (h : (if a1 ≠ 0 then a1 else r1) ≤ 0) (h' : (if a2 ≠ 0 then a2 else r2) ≤ 0) : (if a3 ≠ 0 then a3 else r3) ≤ 0 ∧ ((if a3 ≠ 0 then a3 else r3) = 0 ↔ (if a1 ≠ 0 then a1 else r1) = 0 ∧ (if a2 ≠ 0 then a2 else r2) = 0) := by
  have := or3_trans (a1 := 0) (b1 := a1) (c1 := r1) (a2 := 0) (b2 := a2) (c2 := r2) (a3 := 0) (b3 := a3) (c3 := r3) (by omega) ha hr (by unfold or3; simpa using h) (by unfold or3; simpa using h')
  unfold or3 at this
  simpa using this

theorem rcmp_mk (k : Int) (lo hi : Nat) (ks : List Rx) (k' : Int) (lo' hi' : Nat) (ls : List Rx) : rcmp (.mk k lo hi ks) (.mk k' lo' hi' ls) =
    if or3 (icmp k k') (icmp lo lo') (icmp hi hi') ≠ 0 then or3 (icmp k k') (icmp lo lo') (icmp hi hi') else rcmpL ks ls := by rw [rcmp]; rfl
theorem rcmp_swap : ∀ x y : Rx, rcmp y x = - rcmp x y := by
  refine Rx.ind ?_
  intro k lo hi ks ih y
  cases y with
  | mk k' lo' hi' ls =>
  have key : ∀ (l : List Rx), (∀ r ∈ l, r ∈ ks) → ∀ l', rcmpL l' l = - rcmpL l l' := by
    intro l
    induction l with
    | nil => intro _ l'; cases l' <;> simp [rcmpL]
    | cons a as ihl =>
      intro hm l'
      cases l' with
      | nil => simp [rcmpL]
      | cons b bs =>
        simp only [rcmpL]
        have h1 := ih a (hm a List.mem_cons_self) b
        have h2 := ihl (fun r hr => hm r (List.mem_cons_of_mem _ hr)) bs
        rw [h1, h2]
        split <;> split <;> omega
  rw [rcmp_mk, rcmp_mk]
  rw [icmp_swap k k', icmp_swap lo lo', icmp_swap hi hi', or3_swap, key ks (fun _ h => h) ls]
  split <;> split <;> omega

theorem rcmp_eq : ∀ x y : Rx, rcmp x y = 0 → x = y := by
  refine Rx.ind ?_
  intro k lo hi ks ih y
  cases y with
  | mk k' lo' hi' ls =>
  have key : ∀ (l : List Rx), (∀ r ∈ l, r ∈ ks) → ∀ l', rcmpL l l' = 0 → l = l' := by
    intro l
    induction l with
    | nil => intro _ l' h; cases l' with
      | nil => rfl
      | cons b bs => simp [rcmpL] at h
    | cons a as ihl =>
      intro hm l' h
      cases l' with
      | nil => simp [rcmpL] at h
      | cons b bs =>
        simp only [rcmpL] at h
        by_cases hab : rcmp a b = 0
        · rw [if_neg (by simp [hab])] at h
          rw [ih a (hm a List.mem_cons_self) b hab, ihl (fun r hr => hm r (List.mem_cons_of_mem _ hr)) bs h]
        · rw [if_pos hab] at h; exact absurd h hab
  intro h
  rw [rcmp_mk] at h
  by_cases h0 : or3 (icmp k k') (icmp lo lo') (icmp hi hi') = 0
  · rw [if_neg (by simp [h0])] at h
    obtain ⟨e1, e2, e3⟩ := (or3_zero _ _ _).1 h0
    have := key ks (fun _ h => h) ls h
    rw [(icmp_zero _ _).1 e1, this]
    have e2' := (icmp_zero _ _).1 e2
    have e3' := (icmp_zero _ _).1 e3
    congr 1 <;> omega
  · rw [if_pos h0] at h; exact absurd h h0
theorem rcmp_self (x : Rx) : rcmp x x = 0 := by have := rcmp_swap x x; omega
theorem rcmp_zero (x y : Rx) : rcmp x y = 0 ↔ x = y := ⟨rcmp_eq x y, fun h => by rw [h]; exact rcmp_self y⟩
theorem rcmp_beq (x y : Rx) : (rcmp x y == 0) = true ↔ x = y := by rw [beq_iff_eq]; exact rcmp_zero x y

theorem rcmp_trans : ∀ x y z : Rx, rcmp x y ≤ 0 → rcmp y z ≤ 0 → rcmp x z ≤ 0 ∧ (rcmp x z = 0 ↔ rcmp x y = 0 ∧ rcmp y z = 0) := by
  refine Rx.ind ?_
  intro k lo hi ks ih y z
  cases y with
  | mk k' lo' hi' ls =>
  cases z with
  | mk k'' lo'' hi'' ms =>
  have key : ∀ (l : List Rx), (∀ r ∈ l, r ∈ ks) → ∀ l' l'', rcmpL l l' ≤ 0 → rcmpL l' l'' ≤ 0 → rcmpL l l'' ≤ 0 ∧ (rcmpL l l'' = 0 ↔ rcmpL l l' = 0 ∧ rcmpL l' l'' = 0) := by
    intro l
    induction l with
    | nil => intro _ l' l'' h1 h2; cases l' <;> cases l'' <;> simp_all [rcmpL]
    | cons a as ihl =>
      intro hm l' l'' h1 h2
      cases l' with
      | nil => simp [rcmpL] at h1
      | cons b bs =>
        cases l'' with
        | nil => simp [rcmpL] at h2
        | cons c cs =>
          simp only [rcmpL] at h1 h2 ⊢
          have t1 := ih a (hm a List.mem_cons_self) b c
          have t2 := ihl (fun r hr => hm r (List.mem_cons_of_mem _ hr)) bs cs
          exact if_trans t1 t2 h1 h2
  intro h1 h2
  rw [rcmp_mk] at h1 h2
  rw [rcmp_mk, rcmp_mk, rcmp_mk]
  have t0 : or3 (icmp k k') (icmp lo lo') (icmp hi hi') ≤ 0 → or3 (icmp k' k'') (icmp lo' lo'') (icmp hi' hi'') ≤ 0 → or3 (icmp k k'') (icmp lo lo'') (icmp hi hi'') ≤ 0 ∧ (or3 (icmp k k'') (icmp lo lo'') (icmp hi hi'') = 0 ↔ or3 (icmp k k') (icmp lo lo') (icmp hi hi') = 0 ∧ or3 (icmp k' k'') (icmp lo' lo'') (icmp hi' hi'') = 0) :=
    or3_trans icmp_trans icmp_trans icmp_trans
  have t2 := key ks (fun _ h => h) ls ms
  exact if_trans t0 t2 h1 h2
end Go.Proofs.Ytbepohpppailnaa
namespace Go.Proofs.Ytbepohpppailnaa

/-- an expression put into an ascending list, unless it is there -/
def rput (l : List Rx) (r : Rx) : List Rx :=
  match l with
  | [] => [r]
  | x :: xs => if rcmp x r < 0 then x :: rput xs r else if rcmp x r = 0 then x :: xs else r :: x :: xs
def canon (l : List Rx) : List Rx := l.foldl rput []

/-- strictly ascending -/
def SAsc (l : List Rx) : Prop := l.Pairwise fun x y => rcmp x y < 0

theorem mem_rput (l : List Rx) (r x : Rx) : x ∈ rput l r ↔ x = r ∨ x ∈ l := by
  induction l with
  | nil => simp [rput]
  | cons a as ih =>
    simp only [rput]
    split
    · simp only [List.mem_cons, ih]
      constructor
      · rintro (h | h | h)
        · exact .inr (.inl h)
        · exact .inl h
        · exact .inr (.inr h)
      · rintro (h | h | h)
        · exact .inr (.inl h)
        · exact .inl h
        · exact .inr (.inr h)
    · split
      · rename_i h1 h2
        have := (rcmp_zero a r).1 h2
        subst this
        simp
      · simp
theorem lt_trans {x y z : Rx} (h : rcmp x y < 0) (h' : rcmp y z < 0) : rcmp x z < 0 := by
  have := rcmp_trans x y z (by omega) (by omega)
  have h3 : rcmp x z ≠ 0 := fun e => by have := this.2.1 e; omega
  omega
theorem sasc_rput (l : List Rx) (r : Rx) (h : SAsc l) : SAsc (rput l r) := by
  induction l with
  | nil => exact List.pairwise_singleton _ _
  | cons a as ih =>
    unfold SAsc at *
    rw [List.pairwise_cons] at h
    simp only [rput]
    split
    · rename_i hlt
      rw [List.pairwise_cons]
      refine ⟨fun y hy => ?_, ih h.2⟩
      rcases (mem_rput _ _ _).1 hy with rfl | hy
      · exact hlt
      · exact h.1 y hy
    · split
      · rw [List.pairwise_cons]; exact h
      · rename_i h1 h2
        have hra : rcmp r a < 0 := by rw [rcmp_swap]; omega
        rw [List.pairwise_cons, List.pairwise_cons]
        refine ⟨fun y hy => ?_, h⟩
        rcases List.mem_cons.1 hy with rfl | hy
        · exact hra
        · exact lt_trans hra (h.1 y hy)
theorem canon_aux (l acc : List Rx) (h : SAsc acc) : SAsc (l.foldl rput acc) ∧ ∀ x, x ∈ l.foldl rput acc ↔ x ∈ acc ∨ x ∈ l := by
  induction l generalizing acc with
  | nil => simp [h]
  | cons a as ih =>
    obtain ⟨h1, h2⟩ := ih (rput acc a) (sasc_rput acc a h)
    refine ⟨h1, fun x => ?_⟩
    simp only [List.foldl_cons]
    rw [h2 x, mem_rput]
    simp only [List.mem_cons]
    constructor
    · rintro ((h | h) | h)
      · exact .inr (.inl h)
      · exact .inl h
      · exact .inr (.inr h)
    · rintro (h | h | h)
      · exact .inl (.inr h)
      · exact .inl (.inl h)
      · exact .inr h
theorem canon_sasc (l : List Rx) : SAsc (canon l) := (canon_aux l [] List.Pairwise.nil).1
theorem canon_mem (l : List Rx) (x : Rx) : x ∈ canon l ↔ x ∈ l := by
  have := (canon_aux l [] List.Pairwise.nil).2 x
  unfold canon
  simpa using this
theorem sasc_unique {l l' : List Rx} (h : SAsc l) (h' : SAsc l') (hm : ∀ x, x ∈ l ↔ x ∈ l') : l = l' := by
  induction l generalizing l' with
  | nil =>
    cases l' with
    | nil => rfl
    | cons b bs => exact absurd ((hm b).2 List.mem_cons_self) (by simp)
  | cons a as ih =>
    cases l' with
    | nil => exact absurd ((hm a).1 List.mem_cons_self) (by simp)
    | cons b bs =>
      unfold SAsc at *
      rw [List.pairwise_cons] at h h'
      have hab : a = b := by
        rcases List.mem_cons.1 ((hm a).1 List.mem_cons_self) with e | ha
        · exact e
        · rcases List.mem_cons.1 ((hm b).2 List.mem_cons_self) with e | hb
          · exact e.symm
          · have h1 := h.1 b hb
            have h2 := h'.1 a ha
            rw [rcmp_swap] at h1
            omega
      subst hab
      congr 1
      refine ih h.2 h'.2 fun x => ?_
      have hx := hm x
      simp only [List.mem_cons] at hx
      constructor
      · intro hxa
        rcases hx.1 (.inr hxa) with e | h3
        · subst e
          have := h.1 x hxa
          rw [rcmp_self] at this
          omega
        · exact h3
      · intro hxb
        rcases hx.2 (.inr hxb) with e | h3
        · subst e
          have := h'.1 x hxb
          rw [rcmp_self] at this
          omega
        · exact h3
theorem canon_of_sasc {l l' : List Rx} (h : SAsc l') (hm : ∀ x, x ∈ l' ↔ x ∈ l) : l' = canon l :=
  sasc_unique h (canon_sasc l) (fun x => by rw [hm, canon_mem])
theorem sasc_nodup {l : List Rx} (h : SAsc l) : l.Nodup := by
  refine List.Pairwise.imp (fun {a b} hab e => ?_) h
  subst e
  rw [rcmp_self] at hab
  omega
theorem nodesL_perm {l l' : List Rx} (h : l.Perm l') : nodesL l = nodesL l' := by
  induction h with
  | nil => rfl
  | cons x _ ih => simp only [nodesL, ih]
  | swap x y l => simp only [nodesL]; omega
  | trans _ _ ih1 ih2 => rw [ih1, ih2]
theorem rput_nodes (l : List Rx) (r : Rx) : nodesL (rput l r) ≤ nodesL l + nodes r := by
  induction l with
  | nil => simp [rput, nodesL]
  | cons a as ih =>
    simp only [rput]
    split
    · simp only [nodesL]; omega
    · split
      · simp only [nodesL]; omega
      · simp only [nodesL]; omega
theorem canon_nodes (l : List Rx) : nodesL (canon l) ≤ nodesL l := by
  have : ∀ (l acc : List Rx), nodesL (l.foldl rput acc) ≤ nodesL acc + nodesL l := by
    intro l
    induction l with
    | nil => intro acc; simp [nodesL]
    | cons a as ih =>
      intro acc
      have h1 := ih (rput acc a)
      have h2 := rput_nodes acc a
      simp only [List.foldl_cons, nodesL]
      omega
  have := this l []
  simpa [nodesL, canon] using this

theorem nodesL_append (a b : List Rx) : nodesL (a ++ b) = nodesL a + nodesL b := by
  induction a with
  | nil => simp [nodesL]
  | cons x xs ih => simp only [List.cons_append, nodesL, ih]; omega
theorem nodesL_mem {ks : List Rx} {x : Rx} (h : x ∈ ks) : nodes x ≤ nodesL ks := by
  induction ks with
  | nil => cases h
  | cons b bs ih =>
    simp only [nodesL]
    cases h with
    | head => omega
    | tail _ h => have := ih h; omega
theorem nodesL_length (ks : List Rx) : ks.length ≤ nodesL ks := by
  induction ks with
  | nil => simp [nodesL]
  | cons b bs ih => simp only [nodesL, List.length_cons]; have := nodes_pos b; omega
theorem nodesL_take (ks : List Rx) (i : Nat) : nodesL (ks.take i) ≤ nodesL ks := by
  have := nodesL_append (ks.take i) (ks.drop i)
  rw [List.take_append_drop] at this
  omega
theorem nodesL_filter (p : Rx → Bool) (ks : List Rx) : nodesL (ks.filter p) ≤ nodesL ks := by
  induction ks with
  | nil => simp [nodesL]
  | cons b bs ih =>
    rw [List.filter_cons]
    split
    · simp only [nodesL]; omega
    · simp only [nodesL]; omega
theorem nodes_mk (k : Int) (lo hi : Nat) (ks : List Rx) : nodes (.mk k lo hi ks) = 1 + nodesL ks := rfl
theorem nodes_ks (x : Rx) : nodes x = 1 + nodesL x.ks := by cases x; rfl

/-- the list of kids where kids of the same kind are taken for their parents -/
def flatL (k : Int) (ks : List Rx) : List Rx := ks.flatMap fun x => if x.k = k then x.ks else [x]
theorem flatL_take (k : Int) (ks : List Rx) (i : Nat) (x : Rx) (hx : ks[i]? = some x) : flatL k (ks.take (i + 1)) = flatL k (ks.take i) ++ (if x.k = k then x.ks else [x]) := by
  unfold flatL
  rw [List.take_add_one, hx, List.flatMap_append]
  simp
theorem flatL_nodes (k : Int) (ks : List Rx) : nodesL (flatL k ks) ≤ nodesL ks := by
  induction ks with
  | nil => simp [flatL, nodesL]
  | cons x xs ih =>
    have : flatL k (x :: xs) = (if x.k = k then x.ks else [x]) ++ flatL k xs := by simp [flatL]
    rw [this, nodesL_append]
    simp only [nodesL]
    split
    · rw [nodes_ks x]; omega
    · simp only [nodesL]; omega

/-- the normal form of a kind with kids in normal form: unit, zero -/
def jkids (k : Int) (un : Rx) (ks : List Rx) : List Rx := (flatL k ks).filter fun x => !(rcmp x un == 0)
def jlist (k : Int) (l : List Rx) : List Rx := if k = 3 then l else canon l
def jpick (k : Int) (un : Rx) (l : List Rx) : Rx :=
  match l with
  | [] => un
  | [x] => x
  | x :: y :: r => .mk k 0 0 (x :: y :: r)
def jn (k : Int) (un ze : Rx) (ks : List Rx) : Rx :=
  if (jkids k un ks).any (fun x => rcmp x ze == 0) then ze else jpick k un (jlist k (jkids k un ks))
theorem jlist_nodes (k : Int) (l : List Rx) : nodesL (jlist k l) ≤ nodesL l := by
  unfold jlist
  split
  · exact Nat.le_refl _
  · exact canon_nodes l
theorem jkids_nodes (k : Int) (un : Rx) (ks : List Rx) : nodesL (jkids k un ks) ≤ nodesL ks := by
  unfold jkids
  exact Nat.le_trans (nodesL_filter _ _) (flatL_nodes k ks)
theorem jpick_nodes (k : Int) (un : Rx) (l : List Rx) : nodes (jpick k un l) ≤ max (nodes un) (1 + nodesL l) := by
  match l with
  | [] => simp only [jpick]; omega
  | [x] => simp only [jpick, nodesL]; omega
  | x :: y :: r => simp only [jpick, nodes]; omega
theorem jn_nodes (k : Int) (un ze : Rx) (ks : List Rx) : nodes (jn k un ze ks) ≤ max (max (nodes un) (nodes ze)) (1 + nodesL ks) := by
  unfold jn
  split
  · omega
  · have h1 := jpick_nodes k un (jlist k (jkids k un ks))
    have h2 := jlist_nodes k (jkids k un ks)
    have h3 := jkids_nodes k un ks
    omega
end Go.Proofs.Ytbepohpppailnaa
namespace Go.Proofs.Ytbepohpppailnaa

def everything : Rx := .mk 6 0 0 [.mk 0 0 0 []]
def emptyR : Rx := .mk 1 0 0 []
def noneR : Rx := .mk 0 0 0 []
/-- Not: of Not the kid's kid -/
def notF (ks : List Rx) : Rx := match ks with
  | x :: _ => if x.k = 6 then (match x.ks with | y :: _ => y | [] => .mk 6 0 0 ks) else .mk 6 0 0 ks
  | [] => .mk 6 0 0 ks
/-- Star -/
def starF (ks : List Rx) : Rx := match ks with
  | x :: _ => if x.k = 0 ∨ x.k = 1 then emptyR else if x.k = 7 ∨ rcmp x everything = 0 then x else .mk 7 0 0 ks
  | [] => .mk 7 0 0 ks
def unitOf (k : Int) : Rx := if k = 3 then emptyR else if k = 4 then noneR else everything
def zeroOf (k : Int) : Rx := if k = 4 then everything else noneR
/-- an expression whose kids are in normal form, brought into normal form -/
def form (r : Rx) : Rx :=
  if r.k = 3 ∨ r.k = 4 ∨ r.k = 5 then jn r.k (unitOf r.k) (zeroOf r.k) r.ks
  else if r.k = 6 then notF r.ks else if r.k = 7 then starF r.ks else r
/-- what is asked of it -/
def FormOK (r : Rx) : Prop :=
  (0 ≤ r.k ∧ r.k ≤ 7) ∧ nodes r ≤ 1000000 ∧ (r.k = 6 ∨ r.k = 7 → r.lo = 0 ∧ r.hi = 0 ∧ ∃ x, r.ks = [x] ∧ (r.k = 6 → x.k = 6 → ∃ y, x.ks = [y]))
mutual
/-- normal forms -/
def nrm : Rx → Rx
  | .mk k lo hi ks => form (.mk k lo hi (nrmL ks))
def nrmL : List Rx → List Rx
  | [] => []
  | r :: rs => nrm r :: nrmL rs
end
theorem nrmL_map (ks : List Rx) : nrmL ks = ks.map nrm := by
  induction ks with
  | nil => rfl
  | cons a as ih => simp only [nrmL, List.map_cons, ih]

theorem proper_kids {r : Rx} (h : proper r = true) : ∀ x ∈ r.ks, proper x = true := by
  cases r with
  | mk k lo hi ks =>
  simp only [Rx.ks_mk]
  simp only [proper] at h
  split at h
  · cases h
  · split at h
    · have : ks = [] := by simpa using h
      subst this; intro x hx; cases hx
    · split at h
      · have : ks = [] := by simp at h; exact h.1
        subst this; intro x hx; cases hx
      · split at h
        · exact properL_mem h
        · split at h
          · simp only [Bool.and_eq_true] at h
            exact properL_mem h.2
          · cases h
theorem properL_iff (ks : List Rx) : properL ks = true ↔ ∀ x ∈ ks, proper x = true := by
  refine ⟨properL_mem, fun h => ?_⟩
  induction ks with
  | nil => rfl
  | cons a as ih =>
    simp only [properL, Bool.and_eq_true]
    exact ⟨h a List.mem_cons_self, ih (fun x hx => h x (List.mem_cons_of_mem _ hx))⟩
theorem proper_kind {r : Rx} (h : proper r = true) : 0 ≤ r.k ∧ r.k ≤ 7 := by
  cases r with
  | mk k lo hi ks =>
  simp only [Rx.k_mk]
  simp only [proper] at h
  split at h
  · cases h
  · split at h
    · omega
    · split at h
      · omega
      · split at h
        · omega
        · split at h
          · omega
          · cases h
theorem proper_lohi {r : Rx} (h : proper r = true) (h2 : r.k ≠ 2) : r.lo = 0 ∧ r.hi = 0 := by
  cases r with
  | mk k lo hi ks =>
  simp only [Rx.k_mk, Rx.lo_mk, Rx.hi_mk] at *
  simp only [proper] at h
  split at h
  · cases h
  · rename_i hn; omega
theorem proper_one {r : Rx} (h : proper r = true) (h67 : r.k = 6 ∨ r.k = 7) : ∃ x, r.ks = [x] := by
  cases r with
  | mk k lo hi ks =>
  simp only [Rx.k_mk, Rx.ks_mk] at *
  simp only [proper] at h
  split at h
  · cases h
  · rw [if_neg (by omega), if_neg (by omega), if_neg (by omega)] at h
    simp only [h67, if_true, Bool.and_eq_true, decide_eq_true_eq] at h
    match ks, h with
    | [x], _ => exact ⟨x, rfl⟩
theorem proper_none {r : Rx} (h : proper r = true) (h2 : r.k = 0 ∨ r.k = 1 ∨ r.k = 2) : r.ks = [] := by
  cases r with
  | mk k lo hi ks =>
  simp only [Rx.k_mk, Rx.ks_mk] at *
  simp only [proper] at h
  split at h
  · cases h
  · by_cases h01 : k = 0 ∨ k = 1
    · rw [if_pos h01] at h; simpa using h
    · rw [if_neg h01, if_pos (by omega)] at h; simp at h; exact h.1
/-- kinds 3, 4, 5 -/
theorem proper_join {k : Int} {ks : List Rx} (hk : k = 3 ∨ k = 4 ∨ k = 5) (h : ∀ x ∈ ks, proper x = true) : proper (.mk k 0 0 ks) = true := by
  simp only [proper]
  rw [if_neg (by omega), if_neg (by omega), if_neg (by omega), if_pos hk]
  exact (properL_iff ks).2 h
theorem proper_sole {k : Int} {x : Rx} (hk : k = 6 ∨ k = 7) (h : proper x = true) : proper (.mk k 0 0 [x]) = true := by
  simp only [proper]
  rw [if_neg (by omega), if_neg (by omega), if_neg (by omega), if_neg (by omega), if_pos hk]
  simp [properL, h]
theorem proper_everything : proper everything = true := by decide
theorem proper_empty : proper emptyR = true := by decide
theorem proper_noneR : proper noneR = true := by decide
theorem proper_unit (k : Int) : proper (unitOf k) = true := by
  unfold unitOf; split
  · exact proper_empty
  · split
    · exact proper_noneR
    · exact proper_everything
theorem proper_zero (k : Int) : proper (zeroOf k) = true := by
  unfold zeroOf; split
  · exact proper_everything
  · exact proper_noneR

theorem mem_flatL {k : Int} {ks : List Rx} {x : Rx} (h : x ∈ flatL k ks) : ∃ y ∈ ks, (y.k = k ∧ x ∈ y.ks) ∨ (y.k ≠ k ∧ x = y) := by
  unfold flatL at h
  rw [List.mem_flatMap] at h
  obtain ⟨y, hy, hx⟩ := h
  refine ⟨y, hy, ?_⟩
  split at hx
  · rename_i e; exact .inl ⟨e, hx⟩
  · rename_i e; exact .inr ⟨e, by simpa using hx⟩
theorem mem_jlist {k : Int} {l : List Rx} {x : Rx} : x ∈ jlist k l ↔ x ∈ l := by
  unfold jlist; split
  · exact Iff.rfl
  · exact canon_mem l x
theorem mem_jkids {k : Int} {un : Rx} {ks : List Rx} {x : Rx} (h : x ∈ jkids k un ks) : x ∈ flatL k ks ∧ x ≠ un := by
  unfold jkids at h
  rw [List.mem_filter] at h
  refine ⟨h.1, fun e => ?_⟩
  subst e
  have := h.2
  rw [rcmp_self] at this
  simp at this
/-- the result of joining: unit, zero, one of the flat kids, or a list of such -/
theorem jn_cases (k : Int) (un ze : Rx) (ks : List Rx) (P : Rx → Prop) (hu : P un) (hz : P ze) (h1 : ∀ x ∈ flatL k ks, P x) (h2 : ∀ l : List Rx, (∀ x ∈ l, x ∈ jkids k un ks) → P (.mk k 0 0 l)) : P (jn k un ze ks) := by
  unfold jn
  split
  · exact hz
  · have hm : ∀ x ∈ jlist k (jkids k un ks), x ∈ jkids k un ks := fun x hx => mem_jlist.1 hx
    generalize jlist k (jkids k un ks) = l at *
    match l with
    | [] => exact hu
    | [x] => exact h1 x (mem_jkids (hm x List.mem_cons_self)).1
    | x :: y :: r => exact h2 _ hm
theorem proper_flat {k : Int} {ks : List Rx} (h : ∀ x ∈ ks, proper x = true) : ∀ x ∈ flatL k ks, proper x = true := by
  intro x hx
  obtain ⟨y, hy, h1 | h1⟩ := mem_flatL hx
  · exact proper_kids (h y hy) x h1.2
  · rw [h1.2]; exact h y hy
theorem form_proper {r : Rx} (h : proper r = true) : proper (form r) = true := by
  have hk := proper_kids h
  unfold form
  split
  · rename_i hk3
    refine jn_cases _ _ _ _ (fun x => proper x = true) (proper_unit _) (proper_zero _) (proper_flat hk) (fun l hl => ?_)
    exact proper_join hk3 fun x hx => proper_flat hk x (mem_jkids (hl x hx)).1
  · split
    · rename_i h6
      obtain ⟨x, hx⟩ := proper_one h (.inl h6)
      have hxp := hk x (by rw [hx]; exact List.mem_cons_self)
      rw [hx]
      unfold notF
      simp only
      split
      · rename_i hx6
        obtain ⟨y, hy⟩ := proper_one hxp (.inl hx6)
        rw [hy]
        exact proper_kids hxp y (by rw [hy]; exact List.mem_cons_self)
      · exact proper_sole (.inl rfl) hxp
    · split
      · rename_i h7
        obtain ⟨x, hx⟩ := proper_one h (.inr h7)
        have hxp := hk x (by rw [hx]; exact List.mem_cons_self)
        rw [hx]
        unfold starF
        simp only
        split
        · exact proper_empty
        · split
          · exact hxp
          · exact proper_sole (.inr rfl) hxp
      · exact h
theorem formOK_of_proper {r : Rx} (h : proper r = true) (hn : nodes r ≤ 1000000) : FormOK r := by
  refine ⟨proper_kind h, hn, fun h67 => ?_⟩
  obtain ⟨h1, h2⟩ := proper_lohi h (by omega)
  obtain ⟨x, hx⟩ := proper_one h h67
  refine ⟨h1, h2, x, hx, fun _ hx6 => proper_one (proper_kids h x (by rw [hx]; exact List.mem_cons_self)) (.inl hx6)⟩
theorem nodes_unit (k : Int) : nodes (unitOf k) ≤ 2 := by unfold unitOf; split; decide; split; decide; decide
theorem nodes_zero (k : Int) : nodes (zeroOf k) ≤ 2 := by unfold zeroOf; split; decide; decide
theorem form_nodes (r : Rx) : nodes (form r) ≤ max 2 (nodes r) := by
  have hr := nodes_ks r
  unfold form
  split
  · have h1 := jn_nodes r.k (unitOf r.k) (zeroOf r.k) r.ks
    have h2 := nodes_unit r.k
    have h3 := nodes_zero r.k
    omega
  · split
    · unfold notF
      split
      · rename_i x xs hx
        rw [hx] at hr
        simp only [nodesL] at hr
        have hxn := nodes_ks x
        split
        · split
          · rename_i y ys hy
            rw [hy] at hxn
            simp only [nodesL] at hxn
            omega
          · rw [hx]; simp only [nodes, nodesL]; omega
        · rw [hx]; simp only [nodes, nodesL]; omega
      · rename_i hx
        rw [hx]; simp only [nodes, nodesL]; omega
    · split
      · unfold starF
        split
        · rename_i x xs hx
          rw [hx] at hr
          simp only [nodesL] at hr
          split
          · have : nodes emptyR = 1 := by decide
            omega
          · split
            · omega
            · rw [hx]; simp only [nodes, nodesL]; omega
        · rename_i hx
          rw [hx]; simp only [nodes, nodesL]; omega
      · omega
theorem nrm_nodes : ∀ r : Rx, nodes (nrm r) ≤ 2 * nodes r := by
  refine Rx.ind ?_
  intro k lo hi ks ih
  have key : ∀ l : List Rx, (∀ x ∈ l, x ∈ ks) → nodesL (nrmL l) ≤ 2 * nodesL l := by
    intro l
    induction l with
    | nil => intro _; simp [nrmL, nodesL]
    | cons a as iha =>
      intro hm
      simp only [nrmL, nodesL]
      have h1 := ih a (hm a List.mem_cons_self)
      have h2 := iha (fun x hx => hm x (List.mem_cons_of_mem _ hx))
      omega
  have h1 := key ks (fun _ h => h)
  simp only [nrm]
  have h2 := form_nodes (.mk k lo hi (nrmL ks))
  simp only [nodes] at *
  omega
theorem proper_map {k : Int} {lo hi : Nat} {ks : List Rx} (f : Rx → Rx) (h : proper (.mk k lo hi ks) = true) (hf : ∀ x ∈ ks, proper (f x) = true) : proper (.mk k lo hi (ks.map f)) = true := by
  have hm : ∀ x ∈ ks.map f, proper x = true := by
    intro x hx
    obtain ⟨y, hy, rfl⟩ := List.mem_map.1 hx
    exact hf y hy
  simp only [proper, List.length_map] at h ⊢
  split
  · rename_i hc; rw [if_pos hc] at h; cases h
  · rename_i hc; rw [if_neg hc] at h
    split
    · rename_i h1; rw [if_pos h1] at h; exact h
    · rename_i h1; rw [if_neg h1] at h
      split
      · rename_i h2; rw [if_pos h2] at h; exact h
      · rename_i h2; rw [if_neg h2] at h
        split
        · exact (properL_iff _).2 hm
        · rename_i h3; rw [if_neg h3] at h
          split
          · rename_i h4; rw [if_pos h4] at h
            simp only [Bool.and_eq_true] at h ⊢
            exact ⟨h.1, (properL_iff _).2 hm⟩
          · rename_i h4; rw [if_neg h4] at h; cases h
theorem nrm_proper : ∀ r : Rx, proper r = true → proper (nrm r) = true := by
  refine Rx.ind ?_
  intro k lo hi ks ih h
  simp only [nrm]
  rw [nrmL_map]
  exact form_proper (proper_map nrm h fun x hx => ih x hx (proper_kids h x hx))
end Go.Proofs.Ytbepohpppailnaa
namespace Go.Proofs.Ytbepohpppailnaa

mutual
/-- the derivative of an expression in normal form -/
def drv (c : Nat) : Rx → Rx
  | .mk k lo hi ks =>
    if k = 2 then (if lo ≤ c ∧ c ≤ hi then emptyR else noneR)
    else if k = 3 then form (.mk 4 0 0 (drvCat c ks))
    else if k = 4 ∨ k = 5 ∨ k = 6 then form (.mk k 0 0 (drvL c ks))
    else if k = 7 then form (.mk 3 0 0 (drvL c ks ++ [.mk k lo hi ks]))
    else noneR
def drvL (c : Nat) : List Rx → List Rx
  | [] => []
  | r :: rs => drv c r :: drvL c rs
def drvCat (c : Nat) : List Rx → List Rx
  | [] => []
  | r :: rs => form (.mk 3 0 0 (drv c r :: rs)) :: (if nullable r then drvCat c rs else [])
end
theorem drvL_map (c : Nat) (ks : List Rx) : drvL c ks = ks.map (drv c) := by
  induction ks with
  | nil => rfl
  | cons a as ih => simp only [drvL, List.map_cons, ih]
theorem drvL_length (c : Nat) (ks : List Rx) : (drvL c ks).length = ks.length := by rw [drvL_map, List.length_map]
theorem drvL_take (c : Nat) (ks : List Rx) (i : Nat) (x : Rx) (hx : ks[i]? = some x) : (drvL c ks).take (i + 1) = (drvL c ks).take i ++ [drv c x] := by
  rw [drvL_map, List.take_add_one, List.getElem?_map, hx]
  rfl
/-- the program's loop: what the kids before i have given -/
theorem drvCat_step (c : Nat) (ks : List Rx) (i : Nat) (x : Rx) (hx : ks[i]? = some x) : drvCat c (ks.drop i) = form (.mk 3 0 0 (drv c x :: ks.drop (i + 1))) :: (if nullable x then drvCat c (ks.drop (i + 1)) else []) := by
  obtain ⟨hi, rfl⟩ := List.getElem?_eq_some_iff.1 hx
  rw [List.drop_eq_getElem_cons hi]
  simp only [drvCat]
theorem drvCat_end (c : Nat) (ks : List Rx) (i : Nat) (h : ks.length ≤ i) : drvCat c (ks.drop i) = [] := by
  rw [List.drop_eq_nil_of_le h]; rfl

theorem drvL_proper {c : Nat} {ks : List Rx} (h : ∀ x ∈ ks, proper (drv c x) = true) : ∀ y ∈ drvL c ks, proper y = true := by
  rw [drvL_map]
  intro y hy
  obtain ⟨x, hx, rfl⟩ := List.mem_map.1 hy
  exact h x hx
theorem drvCat_proper {c : Nat} {ks : List Rx} (h : ∀ x ∈ ks, proper (drv c x) = true) (h' : ∀ x ∈ ks, proper x = true) : ∀ y ∈ drvCat c ks, proper y = true := by
  induction ks with
  | nil => intro y hy; cases hy
  | cons a as ih =>
    intro y hy
    simp only [drvCat, List.mem_cons] at hy
    rcases hy with rfl | hy
    · refine form_proper (proper_join (.inl rfl) fun x hx => ?_)
      cases hx with
      | head => exact h a List.mem_cons_self
      | tail _ hx => exact h' x (List.mem_cons_of_mem _ hx)
    · split at hy
      · exact ih (fun x hx => h x (List.mem_cons_of_mem _ hx)) (fun x hx => h' x (List.mem_cons_of_mem _ hx)) y hy
      · cases hy
theorem proper_emptyR : proper emptyR = true := by decide
theorem drv_proper (c : Nat) : ∀ r : Rx, proper r = true → proper (drv c r) = true := by
  refine Rx.ind ?_
  intro k lo hi ks ih h
  have hp := proper_kids h
  simp only [Rx.ks_mk] at hp
  have hd : ∀ x ∈ ks, proper (drv c x) = true := fun x hx => ih x hx (hp x hx)
  simp only [drv]
  split
  · split
    · exact proper_emptyR
    · exact proper_noneR
  · split
    · exact form_proper (proper_join (.inr (.inl rfl)) (drvCat_proper hd hp))
    · split
      · rename_i hk
        refine form_proper ?_
        by_cases h6 : k = 6
        · obtain ⟨x, hx⟩ := proper_one h (.inl h6)
          simp only [Rx.ks_mk] at hx
          subst hx h6
          simp only [drvL]
          exact proper_sole (.inl rfl) (hd x List.mem_cons_self)
        · exact proper_join (by omega) (drvL_proper hd)
      · split
        · refine form_proper (proper_join (.inl rfl) fun y hy => ?_)
          rcases List.mem_append.1 hy with hy | hy
          · exact drvL_proper hd y hy
          · rw [List.mem_singleton] at hy; subst hy; exact h
        · exact proper_noneR

theorem drv_nodes (c M : Nat) : ∀ r : Rx, nodes r ≤ M → nodes (drv c r) + M + 1 ≤ nodes r * (M + 3) := by
  refine Rx.ind ?_
  intro k lo hi ks ih hM
  simp only [nodes] at hM
  generalize hP : M + 3 = P
  have hL : ∀ l : List Rx, (∀ x ∈ l, x ∈ ks) → nodesL (drvL c l) + (M + 1) * l.length ≤ nodesL l * P := by
    intro l
    induction l with
    | nil => intro _; simp [drvL, nodesL]
    | cons a as iha =>
      intro hm
      have h1 := iha fun x hx => hm x (List.mem_cons_of_mem _ hx)
      have hma := hm a List.mem_cons_self
      have h2 := ih a hma (by have := nodesL_mem hma; omega)
      rw [hP] at h2
      simp only [drvL, nodesL, List.length_cons, Nat.mul_add_one]
      rw [Nat.add_mul (nodes a)]
      omega
  have hC : ∀ l : List Rx, (∀ x ∈ l, x ∈ ks) → nodesL l < M → nodesL (drvCat c l) ≤ nodesL l * P := by
    intro l
    induction l with
    | nil => intro _ _; simp [drvCat, nodesL]
    | cons a as iha =>
      intro hm hl
      simp only [nodesL] at hl
      have hma := hm a List.mem_cons_self
      have h1 := iha (fun x hx => hm x (List.mem_cons_of_mem _ hx)) (by omega)
      have h2 := ih a hma (by have := nodesL_mem hma; omega)
      rw [hP] at h2
      have h3 := form_nodes (.mk 3 0 0 (drv c a :: as))
      simp only [nodes, nodesL] at h3
      have hp := nodes_pos a
      have hp' := nodes_pos (drv c a)
      simp only [drvCat, nodesL, Nat.add_mul]
      have h4 : nodesL (if nullable a = true then drvCat c as else []) ≤ nodesL as * P := by
        split
        · exact h1
        · simp [nodesL]
      omega
  have hL' := hL ks fun x hx => hx
  have hC' := hC ks (fun x hx => hx) (by omega)
  simp only [drv, nodes, Nat.add_mul, Nat.one_mul]
  have n0 : nodes noneR = 1 := rfl
  have n1 : nodes emptyR = 1 := rfl
  split
  · split <;> omega
  · split
    · have h3 := form_nodes (.mk 4 0 0 (drvCat c ks))
      simp only [nodes] at h3
      omega
    · split
      · have h3 := form_nodes (.mk k 0 0 (drvL c ks))
        simp only [nodes] at h3
        cases ks with
        | nil => simp only [drvL, nodesL] at *; omega
        | cons a as => simp only [List.length_cons, Nat.mul_add_one] at hL'; omega
      · split
        · have h3 := form_nodes (.mk 3 0 0 (drvL c ks ++ [.mk k lo hi ks]))
          simp only [nodes, nodesL_append, nodesL] at h3
          cases ks with
          | nil => simp only [drvL, nodesL] at *; omega
          | cons a as => simp only [List.length_cons, Nat.mul_add_one] at hL'; omega
        · omega
/-- what the walk asks -/
theorem drv_nodes_300 (c : Nat) (r : Rx) (h : nodes r ≤ 300) : nodes (drv c r) ≤ 90900 := by
  have h1 := drv_nodes c 300 r h
  have : nodes r * (300 + 3) ≤ 300 * (300 + 3) := Nat.mul_le_mul_right _ h
  omega
theorem drvCat_nodes_300 (c : Nat) (ks : List Rx) (h : 1 + nodesL ks ≤ 300) : nodesL (drvCat c ks) ≤ 90900 := by
  have : ∀ l : List Rx, nodesL l ≤ 300 → nodesL (drvCat c l) ≤ nodesL l * 303 := by
    intro l
    induction l with
    | nil => intro _; simp [drvCat, nodesL]
    | cons a l ihl =>
      intro hl
      simp only [nodesL] at hl
      have h1 := ihl (by omega)
      have h2 := drv_nodes c 300 a (by omega)
      have h3 := form_nodes (.mk 3 0 0 (drv c a :: l))
      simp only [nodes, nodesL] at h3
      have hp := nodes_pos a
      have h4 : nodesL (if nullable a = true then drvCat c l else []) ≤ nodesL l * 303 := by
        split
        · exact h1
        · simp [nodesL]
      simp only [drvCat, nodesL]
      omega
  have := this ks (by omega)
  omega
end Go.Proofs.Ytbepohpppailnaa
namespace Go.Proofs.Ytbepohpppailnaa

instance rxDec : DecidableEq Rx := fun x y => if h : rcmp x y = 0 then isTrue ((rcmp_zero x y).1 h) else isFalse fun e => h ((rcmp_zero x y).2 e)

section
variable {α : Type} [DecidableEq α]
/-- one row: the program stops as soon as a state would be one too many -/
def rowP (f : Nat → Option α) : Nat → Nat → List α → List Nat → Option (List α × List Nat)
  | 0, _, l, r => some (l, r)
  | m + 1, k, l, r => match f k with
    | none => none
    | some d => if d ∈ l then rowP f m (k + 1) l (r ++ [l.idxOf d]) else if l.length = 256 then none else rowP f m (k + 1) (l ++ [d]) (r ++ [l.length])
/-- one row of the reference: it goes on -/
def rowR (f : Nat → Option α) : Nat → Nat → List α → List Nat → Option (List α × List Nat)
  | 0, _, l, r => some (l, r)
  | m + 1, k, l, r => match f k with
    | none => none
    | some d => if d ∈ l then rowR f m (k + 1) l (r ++ [l.idxOf d]) else rowR f m (k + 1) (l ++ [d]) (r ++ [l.length])
theorem rowR_len (f : Nat → Option α) (m k : Nat) (l : List α) (r : List Nat) (l' : List α) (r' : List Nat) (h : rowR f m k l r = some (l', r')) :
    l.length ≤ l'.length ∧ l'.length ≤ l.length + m ∧ r'.length = r.length + m ∧ ∃ t, l' = l ++ t := by
  induction m generalizing k l r with
  | zero => simp only [rowR, Option.some.injEq, Prod.mk.injEq] at h; obtain ⟨rfl, rfl⟩ := h; exact ⟨Nat.le_refl _, by omega, by omega, [], by simp⟩
  | succ m ih =>
    simp only [rowR] at h
    split at h
    · cases h
    · split at h
      · obtain ⟨h1, h2, h3, t, h4⟩ := ih _ _ _ h; simp at h3; exact ⟨by omega, by omega, by omega, t, h4⟩
      · obtain ⟨h1, h2, h3, t, h4⟩ := ih _ _ _ h; simp at h1 h2 h3; exact ⟨by omega, by omega, by omega, _ :: t, by rw [h4, List.append_assoc]; rfl⟩
theorem rowP_eq (f : Nat → Option α) (m k : Nat) (l : List α) (r : List Nat) (hl : l.length ≤ 256) :
    rowP f m k l r = (match rowR f m k l r with | none => none | some (l', r') => if l'.length ≤ 256 then some (l', r') else none) := by
  induction m generalizing k l r with
  | zero => simp only [rowP, rowR]; rw [if_pos hl]
  | succ m ih =>
    simp only [rowP, rowR]
    cases f k with
    | none => rfl
    | some d =>
      simp only []
      by_cases hd : d ∈ l
      · rw [if_pos hd, if_pos hd]; exact ih _ _ _ hl
      · rw [if_neg hd, if_neg hd]
        by_cases h256 : l.length = 256
        · rw [if_pos h256]
          cases hr : rowR f m (k + 1) (l ++ [d]) (r ++ [l.length]) with
          | none => rfl
          | some p =>
            obtain ⟨l', r'⟩ := p
            have := (rowR_len _ _ _ _ _ _ _ hr).1
            simp at this
            simp only []
            rw [if_neg (by omega)]
        · rw [if_neg h256]; exact ih _ _ _ (by simp; omega)
/-- all rows -/
def loopP (f : α → Nat → Option α) (cl : Nat) : Nat → Nat → List α → List (List Nat) → Option (List α × List (List Nat))
  | 0, _, _, _ => none
  | fu + 1, i, l, t => match l[i]? with
    | none => some (l, t)
    | some s => match rowP (f s) cl 0 l [] with
      | none => none
      | some (l', r) => loopP f cl fu (i + 1) l' (t ++ [r])
def loopR (f : α → Nat → Option α) (cl : Nat) : Nat → Nat → List α → List (List Nat) → Option (List α × List (List Nat))
  | 0, _, _, _ => none
  | fu + 1, i, l, t => match l[i]? with
    | none => some (l, t)
    | some s => match rowR (f s) cl 0 l [] with
      | none => none
      | some (l', r) => if l'.length ≤ 256 then loopR f cl fu (i + 1) l' (t ++ [r]) else none
theorem loop_eq (f : α → Nat → Option α) (cl fu i : Nat) (l : List α) (t : List (List Nat)) (hl : l.length ≤ 256) : loopP f cl fu i l t = loopR f cl fu i l t := by
  induction fu generalizing i l t with
  | zero => rfl
  | succ fu ih =>
    simp only [loopP, loopR]
    cases hi : l[i]? with
    | none => rfl
    | some s =>
      simp only []
      rw [rowP_eq _ _ _ _ _ hl]
      cases hr : rowR (f s) cl 0 l [] with
      | none => rfl
      | some p =>
        obtain ⟨l', r⟩ := p
        simp only []
        by_cases h : l'.length ≤ 256
        · rw [if_pos h, if_pos h]; exact ih _ _ _ h
        · rw [if_neg h, if_neg h]
def numP (f : α → Nat → Option α) (cl : Nat) (s : α) : Option (List α × List (List Nat)) := loopP f cl 257 0 [s] []
def numR (f : α → Nat → Option α) (cl : Nat) (s : α) : Option (List α × List (List Nat)) := loopR f cl 257 0 [s] []
theorem num_eq (f : α → Nat → Option α) (cl : Nat) (s : α) : numP f cl s = numR f cl s := loop_eq _ _ _ _ _ _ (by simp)

/-- a state that is new: the row's next step -/
theorem rowP_none (f : Nat → Option α) (m k : Nat) (l : List α) (r : List Nat) (h : f k = none) : rowP f (m + 1) k l r = none := by simp only [rowP, h]
theorem rowP_old (f : Nat → Option α) (m k : Nat) (l : List α) (r : List Nat) (d : α) (h : f k = some d) (hd : d ∈ l) : rowP f (m + 1) k l r = rowP f m (k + 1) l (r ++ [l.idxOf d]) := by simp only [rowP, h, if_pos hd]
theorem rowP_full (f : Nat → Option α) (m k : Nat) (l : List α) (r : List Nat) (d : α) (h : f k = some d) (hd : d ∉ l) (h256 : l.length = 256) : rowP f (m + 1) k l r = none := by simp only [rowP, h, if_neg hd, if_pos h256]
theorem rowP_new (f : Nat → Option α) (m k : Nat) (l : List α) (r : List Nat) (d : α) (h : f k = some d) (hd : d ∉ l) (h256 : l.length ≠ 256) : rowP f (m + 1) k l r = rowP f m (k + 1) (l ++ [d]) (r ++ [l.length]) := by simp only [rowP, h, if_neg hd, if_neg h256]
end
end Go.Proofs.Ytbepohpppailnaa
namespace Go.Proofs.Ytbepohpppailnaa

def iput : List Int → Int → List Int
  | [], n => [n]
  | a :: as, n => if a < n then a :: iput as n else if a = n then a :: as else n :: a :: as
def icanon (l : List Int) : List Int := l.foldl iput []
def IAsc (l : List Int) : Prop := l.Pairwise (· < ·)
theorem mem_iput (l : List Int) (n x : Int) : x ∈ iput l n ↔ x = n ∨ x ∈ l := by
  induction l with
  | nil => simp [iput]
  | cons a as ih =>
    simp only [iput]
    split
    · simp only [List.mem_cons, ih]; constructor
      · rintro (h | h | h); exact .inr (.inl h); exact .inl h; exact .inr (.inr h)
      · rintro (h | h | h); exact .inr (.inl h); exact .inl h; exact .inr (.inr h)
    · split
      · rename_i h1 h2; subst h2; simp
      · simp
theorem iasc_iput (l : List Int) (n : Int) (h : IAsc l) : IAsc (iput l n) := by
  induction l with
  | nil => exact List.pairwise_singleton _ _
  | cons a as ih =>
    unfold IAsc at *
    rw [List.pairwise_cons] at h
    simp only [iput]
    split
    · rename_i hlt
      rw [List.pairwise_cons]
      refine ⟨fun y hy => ?_, ih h.2⟩
      rcases (mem_iput _ _ _).1 hy with rfl | hy
      · exact hlt
      · exact h.1 y hy
    · split
      · rw [List.pairwise_cons]; exact h
      · rename_i h1 h2
        rw [List.pairwise_cons, List.pairwise_cons]
        refine ⟨fun y hy => ?_, h⟩
        rcases List.mem_cons.1 hy with rfl | hy
        · omega
        · have := h.1 y hy; omega
theorem iput_fold (l acc : List Int) (h : IAsc acc) : IAsc (l.foldl iput acc) ∧ ∀ x, x ∈ l.foldl iput acc ↔ x ∈ acc ∨ x ∈ l := by
  induction l generalizing acc with
  | nil => simp [h]
  | cons a as ih =>
    obtain ⟨h1, h2⟩ := ih (iput acc a) (iasc_iput acc a h)
    refine ⟨h1, fun x => ?_⟩
    simp only [List.foldl_cons]
    rw [h2 x, mem_iput]
    simp only [List.mem_cons]
    constructor
    · rintro ((h | h) | h); exact .inr (.inl h); exact .inl h; exact .inr (.inr h)
    · rintro (h | h | h); exact .inl (.inr h); exact .inl (.inl h); exact .inr h
theorem icanon_asc (l : List Int) : IAsc (icanon l) := (iput_fold l [] List.Pairwise.nil).1
theorem icanon_mem (l : List Int) (x : Int) : x ∈ icanon l ↔ x ∈ l := by
  have := (iput_fold l [] List.Pairwise.nil).2 x
  unfold icanon
  simpa using this
theorem iasc_unique {l l' : List Int} (h : IAsc l) (h' : IAsc l') (hm : ∀ x, x ∈ l ↔ x ∈ l') : l = l' := by
  induction l generalizing l' with
  | nil =>
    cases l' with
    | nil => rfl
    | cons b bs => exact absurd ((hm b).2 List.mem_cons_self) (by simp)
  | cons a as ih =>
    cases l' with
    | nil => exact absurd ((hm a).1 List.mem_cons_self) (by simp)
    | cons b bs =>
      unfold IAsc at *
      rw [List.pairwise_cons] at h h'
      have hab : a = b := by
        rcases List.mem_cons.1 ((hm a).1 List.mem_cons_self) with e | ha
        · exact e
        · rcases List.mem_cons.1 ((hm b).2 List.mem_cons_self) with e | hb
          · exact e.symm
          · have h1 := h.1 b hb
            have h2 := h'.1 a ha
            omega
      subst hab
      congr 1
      refine ih h.2 h'.2 fun x => ?_
      have hx := hm x
      simp only [List.mem_cons] at hx
      constructor
      · intro hxa
        rcases hx.1 (.inr hxa) with e | h3
        · have := h.1 x hxa; omega
        · exact h3
      · intro hxb
        rcases hx.2 (.inr hxb) with e | h3
        · have := h'.1 x hxb; omega
        · exact h3
theorem icanon_of_asc {l l' : List Int} (h : IAsc l') (hm : ∀ x, x ∈ l' ↔ x ∈ l) : l' = icanon l := iasc_unique h (icanon_asc l) (fun x => by rw [hm, icanon_mem])
theorem icanon_eq {l l' : List Int} (hm : ∀ x, x ∈ l ↔ x ∈ l') : icanon l = icanon l' := iasc_unique (icanon_asc l) (icanon_asc l') (fun x => by rw [icanon_mem, icanon_mem, hm])

/-- what the library's sorting and compacting give -/
theorem compact_sorted (zs : List Int) (hs : zs.Pairwise (· ≤ ·)) : Lib.compact zs = icanon zs := by
  have key : ∀ m, m ≤ zs.length → IAsc (Lib.compactUpTo zs.toArray m) ∧ (∀ x, x ∈ Lib.compactUpTo zs.toArray m ↔ ∃ j, j < m ∧ zs[j]? = some x) := by
    intro m
    induction m with
    | zero => intro _; simp [Lib.compactUpTo, IAsc]
    | succ m ih =>
      intro hm
      obtain ⟨h1, h2⟩ := ih (by omega)
      have hlt : m < zs.length := by omega
      have hget : zs.toArray[m]! = zs[m] := by simp [hlt]
      have hget' : zs[m]? = some zs[m] := List.getElem?_eq_getElem hlt
      rw [Lib.compactUpTo_succ]
      by_cases hk : Lib.keeps zs.toArray m = true
      · rw [if_pos hk, hget]
        refine ⟨?_, fun x => ?_⟩
        · unfold IAsc at *
          rw [List.pairwise_append]
          refine ⟨h1, List.pairwise_singleton _ _, fun a ha b hb => ?_⟩
          rw [List.mem_singleton] at hb
          subst hb
          obtain ⟨j, hj, hjx⟩ := (h2 a).1 ha
          have hm0 : 0 < m := by omega
          have hne : zs[m - 1] ≠ zs[m] := by
            intro e
            simp only [Lib.keeps] at hk
            have hp : zs[m - 1]? = some zs[m - 1] := List.getElem?_eq_getElem (by omega)
            simp [hlt, hp, e, show m ≠ 0 by omega] at hk
          have hle := List.pairwise_iff_getElem.1 hs
          have h3 : zs[m - 1] ≤ zs[m] := hle (m - 1) m (by omega) hlt (by omega)
          obtain ⟨hjl, hje⟩ := List.getElem?_eq_some_iff.1 hjx
          have h4 : a ≤ zs[m - 1] := by
            rw [← hje]
            by_cases e : j = m - 1
            · subst e; exact Int.le_refl _
            · exact hle j (m - 1) hjl (by omega) (by omega)
          omega
        · rw [List.mem_append, List.mem_singleton, h2]
          constructor
          · rintro (⟨j, hj, h⟩ | rfl)
            · exact ⟨j, by omega, h⟩
            · exact ⟨m, by omega, hget'⟩
          · rintro ⟨j, hj, h⟩
            by_cases e : j = m
            · subst e; rw [hget'] at h; exact .inr (Option.some.inj h).symm
            · exact .inl ⟨j, by omega, h⟩
      · rw [if_neg hk, List.append_nil]
        refine ⟨h1, fun x => ?_⟩
        rw [h2]
        constructor
        · rintro ⟨j, hj, h⟩; exact ⟨j, by omega, h⟩
        · rintro ⟨j, hj, h⟩
          by_cases e : j = m
          · subst e
            have hm0 : j ≠ 0 := by rintro rfl; simp [Lib.keeps] at hk
            have hp : zs[j - 1]? = some zs[j - 1] := List.getElem?_eq_getElem (by omega)
            have he : zs[j - 1] = zs[j] := by
              simp only [Lib.keeps] at hk
              simp [hlt, hp, hm0] at hk
              exact hk.symm
            rw [hget'] at h
            exact ⟨j - 1, by omega, by rw [hp, he]; exact h⟩
          · exact ⟨j, by omega, h⟩
  obtain ⟨h1, h2⟩ := key zs.length (Nat.le_refl _)
  refine icanon_of_asc h1 fun x => ?_
  unfold Lib.compact
  rw [h2]
  constructor
  · rintro ⟨j, _, h⟩; exact List.mem_of_getElem? h
  · intro h
    obtain ⟨j, hj⟩ := List.getElem?_of_mem h
    exact ⟨j, (List.getElem?_eq_some_iff.1 hj).1, hj⟩
theorem compact_mergeSort (zs : List Int) : Lib.compact (zs.mergeSort fun x y => decide (x ≤ y)) = icanon zs := by
  rw [compact_sorted]
  · exact icanon_eq fun x => List.mem_mergeSort
  · have := List.pairwise_mergeSort (le := fun (x y : Int) => decide (x ≤ y)) (fun a b c h1 h2 => by simp at *; omega) (fun a b => by simp; omega) zs
    exact this.imp fun h => by simpa using h
end Go.Proofs.Ytbepohpppailnaa
namespace Go.Proofs.Ytbepohpppailnaa

/-- automata -/
structure Au where
  cuts : List Int
  next : List (List Int)
  accept : List Bool
deriving DecidableEq
def CutsOK (l : List Int) : Prop := ∀ i, i < l.length → 0 < i → l.getD (i - 1) 0 < l.getD i 0 ∧ l.getD i 0 ≤ 255
instance (l : List Int) : Decidable (CutsOK l) := by unfold CutsOK; infer_instance
def RowOK (u : Au) (r : List Int) : Prop := r.length = u.cuts.length ∧ ∀ s ∈ r, 0 ≤ s ∧ s < (u.next.length : Int)
instance (u : Au) (r : List Int) : Decidable (RowOK u r) := by unfold RowOK; infer_instance
def RowsOK (u : Au) : Prop := ∀ r ∈ u.next, RowOK u r
instance (u : Au) : Decidable (RowsOK u) := by unfold RowsOK; infer_instance
/-- the error of an automaton -/
def avalid (u : Au) : Int :=
  if 256 < u.next.length ∨ 256 < u.accept.length then 4
  else if u.next.length = 0 ∨ u.accept.length ≠ u.next.length ∨ u.cuts.length = 0 ∨ u.cuts.getD 0 0 ≠ 0 then 1
  else if CutsOK u.cuts ∧ RowsOK u then 0 else 1
structure AGood (u : Au) : Prop where
  states : 0 < u.next.length ∧ u.next.length ≤ 256
  acc : u.accept.length = u.next.length
  classes : 0 < u.cuts.length
  first : u.cuts.getD 0 0 = 0
  cuts : CutsOK u.cuts
  rows : RowsOK u
theorem avalid_zero (u : Au) : avalid u = 0 ↔ AGood u := by
  unfold avalid
  constructor
  · intro h
    split at h
    · cases h
    · split at h
      · cases h
      · split at h
        · rename_i h1 h2 h3
          have h2' : u.next.length ≠ 0 ∧ u.accept.length = u.next.length ∧ u.cuts.length ≠ 0 ∧ u.cuts.getD 0 0 = 0 := by
            refine ⟨fun e => h2 (.inl e), ?_, fun e => h2 (.inr (.inr (.inl e))), ?_⟩
            · by_cases e : u.accept.length = u.next.length
              · exact e
              · exact absurd (.inr (.inl e)) h2
            · by_cases e : u.cuts.getD 0 0 = 0
              · exact e
              · exact absurd (.inr (.inr (.inr e))) h2
          exact ⟨by omega, h2'.2.1, by omega, h2'.2.2.2, h3.1, h3.2⟩
        · cases h
  · intro h
    obtain ⟨h1, h2, h3, h4, h5, h6⟩ := h
    rw [if_neg (by omega), if_neg (by rw [h4]; omega), if_pos ⟨h5, h6⟩]
theorem avalid_range (u : Au) : avalid u = 0 ∨ avalid u = 1 ∨ avalid u = 4 := by
  unfold avalid; split
  · exact .inr (.inr rfl)
  · split
    · exact .inr (.inl rfl)
    · split
      · exact .inl rfl
      · exact .inr (.inl rfl)
end Go.Proofs.Ytbepohpppailnaa
namespace Go.Proofs.Ytbepohpppailnaa

def bget (b : List Bool) (i : Nat) : Bool := b.getD i false
def iget (l : List Int) (i : Nat) : Int := l.getD i 0
def rget (l : List (List Int)) (i : Nat) : List Int := l.getD i []
theorem getD_get {α : Type} {l : List α} {i : Nat} (d : α) (h : i < l.length) : l[i]? = some (l.getD i d) := by simp [List.getD, List.getElem?_eq_getElem h]
theorem iget_get {l : List Int} {i : Nat} (h : i < l.length) : l[i]? = some (iget l i) := getD_get 0 h
theorem bget_get {l : List Bool} {i : Nat} (h : i < l.length) : l[i]? = some (bget l i) := getD_get false h
theorem rget_get {l : List (List Int)} {i : Nat} (h : i < l.length) : l[i]? = some (rget l i) := getD_get [] h
theorem bget_eq {l : List Bool} {i : Nat} {x : Bool} (h : l[i]? = some x) : bget l i = x := by simp [bget, List.getD, h]
theorem iget_eq {l : List Int} {i : Nat} {x : Int} (h : l[i]? = some x) : iget l i = x := by simp [iget, List.getD, h]
theorem rget_eq {l : List (List Int)} {i : Nat} {x : List Int} (h : l[i]? = some x) : rget l i = x := by simp [rget, List.getD, h]
/-- from which states one byte more leads to a marked one -/
def stepB (u : Au) (b : List Bool) : List Bool := u.next.map fun row => row.any fun t => bget b t.toNat
def nowB (u : Au) : Nat → List Bool
  | 0 => u.accept
  | k + 1 => stepB u (nowB u k)
def leftP (u : Au) (s m : Nat) : List Bool := (List.range (m + 1)).map fun i => bget (nowB u i) s
def leftE (u : Au) (s m : Int) : Int := if avalid u = 0 then (if 0 ≤ s ∧ s < u.next.length then (if 0 ≤ m ∧ m ≤ 64 then 0 else 5) else 7) else avalid u
def leftV (u : Au) (s m : Int) : List Bool := if leftE u s m = 0 then leftP u s.toNat m.toNat else []
theorem nowB_length {u : Au} (h : AGood u) (k : Nat) : (nowB u k).length = u.next.length := by
  cases k with
  | zero => exact h.acc
  | succ k => simp [nowB, stepB]
theorem leftP_succ (u : Au) (s k : Nat) : leftP u s (k + 1) = leftP u s k ++ [bget (nowB u (k + 1)) s] := by
  unfold leftP
  rw [List.range_succ, List.map_append]
  rfl
/-- a state's row -/
theorem AGood.row {u : Au} (h : AGood u) {s : Nat} (hs : s < u.next.length) : (rget u.next s).length = u.cuts.length ∧ ∀ t ∈ rget u.next s, 0 ≤ t ∧ t < (u.next.length : Int) := by
  have := List.mem_of_getElem? (rget_get hs)
  exact h.rows _ this

/-- the least string: what one state adds to the queue -/
def lstRow (cuts : List Int) (by_ : List Nat) : Nat → List Int → List (Int × List Nat) → List (Int × List Nat)
  | _, [], q => q
  | k, t :: ts, q => lstRow cuts by_ (k + 1) ts (if t ∈ q.map Prod.fst then q else q ++ [(t, by_ ++ [(iget cuts k).toNat])])
def lstLoop (u : Au) : Nat → Nat → List (Int × List Nat) → Option (List Nat)
  | 0, _, _ => none
  | fu + 1, i, q => match q[i]? with
    | none => none
    | some (s, by_) => if bget u.accept s.toNat then some by_ else lstLoop u fu (i + 1) (lstRow u.cuts by_ 0 (rget u.next s.toNat) q)
def leastP (u : Au) : Option (List Nat) := lstLoop u 257 0 [(0, [])]
/-- the states of the queue: each once, all of them states -/
def QOK (n : Nat) (q : List (Int × List Nat)) : Prop := (q.map Prod.fst).Nodup ∧ ∀ p ∈ q, 0 ≤ p.1 ∧ p.1 < (n : Int)
theorem nodup_bound (n : Nat) : ∀ l : List Int, l.Nodup → (∀ x ∈ l, 0 ≤ x ∧ x < (n : Int)) → l.length ≤ n := by
  induction n with
  | zero => intro l _ h; cases l with | nil => simp | cons a b => have := h a List.mem_cons_self; omega
  | succ n ih =>
    intro l hd h
    have h1 := ih (l.erase (n : Int)) (hd.erase _) (fun x hx => by
      have hm := List.mem_of_mem_erase hx
      have hne : x ≠ (n : Int) := by
        rintro rfl
        exact (List.Nodup.not_mem_erase hd) hx
      have := h x hm
      omega)
    by_cases hmem : (n : Int) ∈ l
    · rw [List.length_erase_of_mem hmem] at h1; omega
    · rw [List.erase_of_not_mem hmem] at h1; omega
theorem QOK.len {n : Nat} {q : List (Int × List Nat)} (h : QOK n q) : q.length ≤ n := by
  have := nodup_bound n (q.map Prod.fst) h.1 (fun x hx => by
    obtain ⟨p, hp, rfl⟩ := List.mem_map.1 hx
    exact h.2 p hp)
  simpa using this
theorem QOK.add {n : Nat} {q : List (Int × List Nat)} (h : QOK n q) {t : Int} (b : List Nat) (ht : 0 ≤ t ∧ t < (n : Int)) (hn : t ∉ q.map Prod.fst) : QOK n (q ++ [(t, b)]) := by
  refine ⟨?_, fun p hp => ?_⟩
  · rw [List.map_append, List.nodup_append]
    refine ⟨h.1, by simp, fun a ha b hb => ?_⟩
    simp at hb
    subst hb
    rintro rfl
    exact hn ha
  · rcases List.mem_append.1 hp with hp | hp
    · exact h.2 p hp
    · rw [List.mem_singleton] at hp; subst hp; exact ht
theorem lstRow_ok {n : Nat} (cuts : List Int) (b : List Nat) (k : Nat) (l : List Int) (q : List (Int × List Nat)) (hl : ∀ t ∈ l, 0 ≤ t ∧ t < (n : Int)) (h : QOK n q) : QOK n (lstRow cuts b k l q) := by
  induction l generalizing k q with
  | nil => exact h
  | cons t ts ih =>
    simp only [lstRow]
    refine ih _ _ (fun x hx => hl x (List.mem_cons_of_mem _ hx)) ?_
    split
    · exact h
    · exact h.add _ (hl t List.mem_cons_self) (by assumption)

/-- the class of a byte: how many cuts are not above it, less one -/
def classP (l : List Int) (c : Int) : Nat := (l.filter fun x => decide (x ≤ c)).length - 1
def runP (u : Au) : Nat → List Nat → Nat
  | s, [] => s
  | s, c :: cs => runP u (iget (rget u.next s) (classP u.cuts c)).toNat cs
def accP (u : Au) (w : List Nat) : Bool := bget u.accept (runP u 0 w)
end Go.Proofs.Ytbepohpppailnaa
namespace Go.Proofs.Ytbepohpppailnaa

def around (n m : Int) : Int := (if n < 0 then -(n + 1) else n) % m
def pickP (l : List Int) (i n : Int) : Int := if 0 ≤ i ∧ i < l.length then around (iget l i.toNat) n else 0
def I64 (x : Int) : Prop := -9223372036854775808 ≤ x ∧ x ≤ 9223372036854775807
theorem around_range (n m : Int) (hm : 0 < m) : 0 ≤ around n m ∧ around n m < m := by
  unfold around
  exact ⟨Int.emod_nonneg _ (by omega), Int.emod_lt_of_pos _ hm⟩
theorem pickP_range (l : List Int) (i n : Int) (hn : 0 < n) : 0 ≤ pickP l i n ∧ pickP l i n < n := by
  unfold pickP
  split
  · exact around_range _ _ hn
  · omega
def cutTab : List Int := [1, 97, 98, 99, 255, 40]
def madeCuts (l : List Int) : Nat → List Int
  | 0 => [0]
  | k + 1 => iput (madeCuts l k) (iget cutTab (pickP l (2 + k) 6).toNat)
def nk (n : Int) : Nat → Int
  | 0 => n
  | k + 1 => nk n k / 7
def madeMany (l : List Int) : Nat := (1 + pickP l 0 6).toNat
def madeCls (l : List Int) : Nat := (pickP l 1 4).toNat
def madeC (l : List Int) : List Int := madeCuts l (madeCls l)
def madeRow (l : List Int) (s : Nat) : List Int := (List.range (madeC l).length).map fun j => nk (pickP l (5 + s) 1048576) j % (madeMany l : Int)
def madeAcc (l : List Int) (s : Nat) : Bool := decide (nk (pickP l (5 + s) 1048576) (madeC l).length % 3 = 0)
def madeP (l : List Int) : Au := ⟨madeC l, (List.range (madeMany l)).map (madeRow l), (List.range (madeMany l)).map (madeAcc l)⟩
theorem nk_range (n : Int) (h : 0 ≤ n ∧ n < 1048576) (k : Nat) : 0 ≤ nk n k ∧ nk n k < 1048576 := by
  induction k with
  | zero => exact h
  | succ k ih => simp only [nk]; omega
theorem cutTab_range (i : Nat) (h : i < 6) : 1 ≤ iget cutTab i ∧ iget cutTab i ≤ 255 := by
  match i, h with
  | 0, _ => decide
  | 1, _ => decide
  | 2, _ => decide
  | 3, _ => decide
  | 4, _ => decide
  | 5, _ => decide
theorem iput_len (l : List Int) (n : Int) : (iput l n).length ≤ l.length + 1 ∧ l.length ≤ (iput l n).length := by
  induction l with
  | nil => simp [iput]
  | cons a l ih =>
    simp only [iput]
    split
    · simp; omega
    · split <;> simp
theorem madeCuts_ok (l : List Int) (k : Nat) : IAsc (madeCuts l k) ∧ (∀ x ∈ madeCuts l k, 0 ≤ x ∧ x ≤ 255) ∧ (madeCuts l k).head? = some 0 ∧ (madeCuts l k).length ≤ k + 1 := by
  induction k with
  | zero => refine ⟨List.pairwise_singleton _ _, by simp [madeCuts], rfl, by simp [madeCuts]⟩
  | succ k ih =>
    obtain ⟨h1, h2, h3, h4⟩ := ih
    have hp := pickP_range l (2 + k) 6 (by omega)
    have hc := cutTab_range (pickP l (2 + k) 6).toNat (by omega)
    simp only [madeCuts]
    refine ⟨iasc_iput _ _ h1, fun x hx => ?_, ?_, ?_⟩
    · rcases (mem_iput _ _ _).1 hx with rfl | hx
      · omega
      · exact h2 x hx
    · cases hm : madeCuts l k with
      | nil => rw [hm] at h3; cases h3
      | cons a as =>
        rw [hm] at h3
        simp at h3
        subst h3
        simp only [iput]
        rw [if_pos (by omega)]
        rfl
    · have := (iput_len (madeCuts l k) (iget cutTab (pickP l (2 + k) 6).toNat)).1
      omega
theorem madeMany_range (l : List Int) : 1 ≤ madeMany l ∧ madeMany l ≤ 6 := by
  have := pickP_range l 0 6 (by omega)
  unfold madeMany; omega
theorem madeC_len (l : List Int) : 1 ≤ (madeC l).length ∧ (madeC l).length ≤ 4 := by
  have h := madeCuts_ok l (madeCls l)
  have := pickP_range l 1 4 (by omega)
  have h3 := h.2.2.1
  unfold madeC
  refine ⟨?_, ?_⟩
  · cases hm : madeCuts l (madeCls l) with
    | nil => rw [hm] at h3; cases h3
    | cons a b => simp
  · have := h.2.2.2; unfold madeCls at *; omega
theorem madeP_good (l : List Int) : AGood (madeP l) := by
  have hm := madeMany_range l
  have hc := madeC_len l
  have h := madeCuts_ok l (madeCls l)
  refine ⟨by simp [madeP]; omega, by simp [madeP], by simp only [madeP]; omega, ?_, ?_, ?_⟩
  · have h3 := h.2.2.1
    show (madeCuts l (madeCls l)).getD 0 0 = 0
    cases hm : madeCuts l (madeCls l) with
    | nil => rw [hm] at h3; cases h3
    | cons a b => rw [hm] at h3; simpa using h3
  · intro i hi h0
    simp only [madeP] at hi ⊢
    have hi' : i < (madeCuts l (madeCls l)).length := hi
    have e1 : (madeC l).getD i 0 = (madeCuts l (madeCls l))[i] := by simp [madeC, List.getD, List.getElem?_eq_getElem hi']
    have e2 : (madeC l).getD (i - 1) 0 = (madeCuts l (madeCls l))[i - 1]'(by omega) := by simp [madeC, List.getD, List.getElem?_eq_getElem (show i - 1 < (madeCuts l (madeCls l)).length by omega)]
    rw [e1, e2]
    refine ⟨List.pairwise_iff_getElem.1 h.1 (i - 1) i (by omega) hi' (by omega), (h.2.1 _ (List.getElem_mem hi')).2⟩
  · intro r hr
    simp only [madeP, List.mem_map] at hr
    obtain ⟨s, _, rfl⟩ := hr
    refine ⟨by simp [madeRow, madeP], fun x hx => ?_⟩
    simp only [madeRow, List.mem_map] at hx
    obtain ⟨j, _, rfl⟩ := hx
    have e : ((madeP l).next.length : Int) = (madeMany l : Int) := by simp [madeP]
    rw [e]
    exact ⟨Int.emod_nonneg _ (by omega), Int.emod_lt_of_pos _ (by omega)⟩
end Go.Proofs.Ytbepohpppailnaa
namespace Go.Proofs.Ytbepohpppailnaa

/-- along classes -/
def goC (u : Au) : Nat → List Nat → Nat
  | s, [] => s
  | s, k :: ks => goC u (iget (rget u.next s) k).toNat ks
def CK (u : Au) (ks : List Nat) : Prop := ∀ k ∈ ks, k < u.cuts.length
theorem goC_snoc (u : Au) (s : Nat) (ks : List Nat) (k : Nat) : goC u s (ks ++ [k]) = (iget (rget u.next (goC u s ks)) k).toNat := by
  induction ks generalizing s with
  | nil => rfl
  | cons a ks ih => simp only [List.cons_append, goC, ih]
theorem AGood.to {u : Au} (hu : AGood u) {s k : Nat} (hs : s < u.next.length) (hk : k < u.cuts.length) : 0 ≤ iget (rget u.next s) k ∧ iget (rget u.next s) k < (u.next.length : Int) := by
  have h := hu.row hs
  exact h.2 _ (List.mem_of_getElem? (iget_get (by rw [h.1]; exact hk)))
theorem goC_lt {u : Au} (hu : AGood u) (s : Nat) (hs : s < u.next.length) (ks : List Nat) (hk : CK u ks) : goC u s ks < u.next.length := by
  induction ks generalizing s with
  | nil => exact hs
  | cons a ks ih =>
    have := hu.to hs (hk a List.mem_cons_self)
    exact ih _ (by omega) (fun k h => hk k (List.mem_cons_of_mem _ h))
theorem stepB_at {u : Au} (b : List Bool) {s : Nat} (hs : s < u.next.length) : bget (stepB u b) s = (rget u.next s).any fun t => bget b t.toNat := by
  refine bget_eq ?_
  unfold stepB
  rw [List.getElem?_map, rget_get hs]
  rfl
theorem nowB_spec {u : Au} (hu : AGood u) (n s : Nat) (hs : s < u.next.length) : bget (nowB u n) s = true ↔ ∃ ks, ks.length = n ∧ CK u ks ∧ bget u.accept (goC u s ks) = true := by
  induction n generalizing s with
  | zero =>
    simp only [nowB]
    constructor
    · intro h; exact ⟨[], rfl, fun k h => (by cases h), h⟩
    · rintro ⟨ks, h1, _, h3⟩
      have := List.length_eq_zero_iff.1 h1
      subst this
      exact h3
  | succ n ih =>
    simp only [nowB]
    rw [stepB_at _ hs, List.any_eq_true]
    have hrow := hu.row hs
    constructor
    · rintro ⟨t, ht, h⟩
      obtain ⟨k, hk, he⟩ := List.mem_iff_getElem.1 ht
      have hg : iget (rget u.next s) k = t := iget_eq (by rw [List.getElem?_eq_getElem hk, he])
      have hb := hrow.2 t ht
      obtain ⟨ks, h1, h2, h3⟩ := (ih t.toNat (by omega)).1 h
      refine ⟨k :: ks, by simp [h1], ?_, by simp only [goC, hg]; exact h3⟩
      intro j hj
      rcases List.mem_cons.1 hj with rfl | hj
      · rw [← hrow.1]; exact hk
      · exact h2 j hj
    · rintro ⟨ks, h1, h2, h3⟩
      cases ks with
      | nil => simp at h1
      | cons k ks =>
        have hk := h2 k List.mem_cons_self
        have hr := hu.to hs hk
        refine ⟨iget (rget u.next s) k, List.mem_of_getElem? (iget_get (by rw [hrow.1]; exact hk)), ?_⟩
        exact (ih _ (by omega)).2 ⟨ks, by simpa using h1, fun j hj => h2 j (List.mem_cons_of_mem _ hj), h3⟩
/-- what one row adds -/
theorem lstRow_spec (cuts : List Int) (by_ : List Nat) (k : Nat) (ts : List Int) (q : List (Int × List Nat)) :
    ∃ new, lstRow cuts by_ k ts q = q ++ new ∧ (∀ p ∈ new, ∃ j, ts[j]? = some p.1 ∧ p.2 = by_ ++ [(iget cuts (k + j)).toNat]) ∧ ∀ t ∈ ts, t ∈ (q ++ new).map Prod.fst := by
  induction ts generalizing k q with
  | nil => exact ⟨[], by simp [lstRow], by simp, by simp⟩
  | cons t ts ih =>
    simp only [lstRow]
    split
    · rename_i hin
      obtain ⟨new, h1, h2, h3⟩ := ih (k + 1) q
      refine ⟨new, h1, fun p hp => ?_, fun x hx => ?_⟩
      · obtain ⟨j, hj, he⟩ := h2 p hp
        exact ⟨j + 1, by simpa using hj, by rw [he]; congr 4; omega⟩
      · rcases List.mem_cons.1 hx with rfl | hx
        · rw [List.map_append]; exact List.mem_append_left _ hin
        · exact h3 x hx
    · obtain ⟨new, h1, h2, h3⟩ := ih (k + 1) (q ++ [(t, by_ ++ [(iget cuts k).toNat])])
      refine ⟨(t, by_ ++ [(iget cuts k).toNat]) :: new, by rw [h1]; simp, fun p hp => ?_, fun x hx => ?_⟩
      · rcases List.mem_cons.1 hp with rfl | hp
        · exact ⟨0, rfl, rfl⟩
        · obtain ⟨j, hj, he⟩ := h2 p hp
          exact ⟨j + 1, by simpa using hj, by rw [he]; congr 4; omega⟩
      · rcases List.mem_cons.1 hx with rfl | hx
        · simp
        · have := h3 x hx
          simpa using this
structure LInv (u : Au) (i : Nat) (q : List (Int × List Nat)) : Prop where
  ok : QOK u.next.length q
  path : ∀ p ∈ q, ∃ ks, CK u ks ∧ p.2 = ks.map (fun k => (iget u.cuts k).toNat) ∧ goC u 0 ks = p.1.toNat
  mono : ∀ (a b : Nat) (p p' : Int × List Nat), a ≤ b → q[a]? = some p → q[b]? = some p' → p.2.length ≤ p'.2.length
  zero : q[0]? = some (0, [])
  len : ∀ (b : Nat) (p : Int × List Nat), q[b]? = some p → p.2.length ≤ b
  near : ∀ (p' : Int × List Nat), q[i]? = some p' → ∀ p ∈ q, p.2.length ≤ p'.2.length + 1
  clos : ∀ (a : Nat) (p : Int × List Nat), a < i → q[a]? = some p → bget u.accept p.1.toNat = false ∧ ∀ k, k < u.cuts.length → ∃ (b : Nat) (p' : Int × List Nat), q[b]? = some p' ∧ p'.1 = iget (rget u.next p.1.toNat) k ∧ p'.2.length ≤ p.2.length + 1
theorem LInv.start {u : Au} (hu : AGood u) : LInv u 0 [(0, [])] := by
  have hn := hu.states.1
  refine ⟨⟨by simp, fun p hp => by simp at hp; subst hp; simp; omega⟩, fun p hp => ?_, fun a b p p' h1 h2 h3 => ?_, rfl, fun b p hb => ?_, fun p' h p hp => ?_, fun a p h => by omega⟩
  · simp at hp; subst hp; exact ⟨[], fun k h => (by cases h), rfl, rfl⟩
  · have := List.mem_of_getElem? h2; simp at this; subst this; simp
  · have := List.mem_of_getElem? hb; simp at this; subst this; simp
  · simp at hp; subst hp; simp
theorem LInv.next {u : Au} (hu : AGood u) {i : Nat} {q : List (Int × List Nat)} (h : LInv u i q) {s : Int} {by_ : List Nat} (hi : q[i]? = some (s, by_)) (ha : bget u.accept s.toNat = false) :
    LInv u (i + 1) (lstRow u.cuts by_ 0 (rget u.next s.toNat) q) := by
  have hmem := List.mem_of_getElem? hi
  have hil : i < q.length := (List.getElem?_eq_some_iff.1 hi).1
  have hs : 0 ≤ s ∧ s < (u.next.length : Int) := h.ok.2 _ hmem
  have hs' : s.toNat < u.next.length := by omega
  have hrow := hu.row hs'
  have hok := lstRow_ok (n := u.next.length) u.cuts by_ 0 (rget u.next s.toNat) q hrow.2 h.ok
  obtain ⟨new, e, h2, h3⟩ := lstRow_spec u.cuts by_ 0 (rget u.next s.toNat) q
  rw [e] at hok ⊢
  have hnl : ∀ p ∈ new, p.2.length = by_.length + 1 := fun p hp => by
    obtain ⟨j, _, he⟩ := h2 p hp
    rw [he]; simp
  have hql : ∀ p ∈ q, p.2.length ≤ by_.length + 1 := fun p hp => h.near _ hi p hp
  have hall : ∀ p ∈ q ++ new, p.2.length ≤ by_.length + 1 := fun p hp => by
    rcases List.mem_append.1 hp with hp | hp
    · exact hql p hp
    · exact Nat.le_of_eq (hnl p hp)
  have hmono : ∀ (a b : Nat) (p p' : Int × List Nat), a ≤ b → (q ++ new)[a]? = some p → (q ++ new)[b]? = some p' → p.2.length ≤ p'.2.length := fun a b p p' hab h4 h5 => by
    by_cases hb : b < q.length
    · rw [List.getElem?_append_left hb] at h5
      rw [List.getElem?_append_left (by omega)] at h4
      exact h.mono a b p p' hab h4 h5
    · rw [List.getElem?_append_right (by omega)] at h5
      rw [hnl p' (List.mem_of_getElem? h5)]
      exact hall p (List.mem_of_getElem? h4)
  have hi' : (q ++ new)[i]? = some (s, by_) := by rw [List.getElem?_append_left hil]; exact hi
  refine ⟨hok, fun p hp => ?_, hmono, by rw [List.getElem?_append_left (by omega)]; exact h.zero, fun b p h4 => ?_, fun p' h4 p hp => ?_, fun a p hai h4 => ?_⟩
  · rcases List.mem_append.1 hp with hp | hp
    · exact h.path p hp
    · obtain ⟨j, hj, he⟩ := h2 p hp
      obtain ⟨ks, k1, k2, k3⟩ := h.path _ hmem
      have hjl : j < u.cuts.length := by rw [← hrow.1]; exact (List.getElem?_eq_some_iff.1 hj).1
      refine ⟨ks ++ [j], fun k hk => ?_, ?_, ?_⟩
      · rcases List.mem_append.1 hk with hk | hk
        · exact k1 k hk
        · rw [List.mem_singleton] at hk; subst hk; exact hjl
      · rw [he]; simp only at k2; rw [k2]; simp
      · rw [goC_snoc, k3]
        simp only
        rw [iget_eq hj]
  · by_cases hb : b < q.length
    · rw [List.getElem?_append_left hb] at h4
      exact h.len b p h4
    · have h5 := hall p (List.mem_of_getElem? h4)
      have h6 := h.len i _ hi
      simp only at h6
      omega
  · have := hmono i (i + 1) _ _ (by omega) hi' h4
    have h5 := hall p hp
    simp only at this
    omega
  · by_cases hai' : a = i
    · subst hai'
      rw [hi'] at h4
      cases h4
      refine ⟨ha, fun k hk => ?_⟩
      have ht := List.mem_of_getElem? (iget_get (l := rget u.next s.toNat) (i := k) (by rw [hrow.1]; exact hk))
      obtain ⟨p', hp', he'⟩ := List.mem_map.1 (h3 _ ht)
      obtain ⟨b, hb, hbe⟩ := List.mem_iff_getElem.1 hp'
      exact ⟨b, p', by rw [List.getElem?_eq_getElem hb, hbe], he', hall p' hp'⟩
    · rw [List.getElem?_append_left (by omega)] at h4
      obtain ⟨c1, c2⟩ := h.clos a p (by omega) h4
      refine ⟨c1, fun k hk => ?_⟩
      obtain ⟨b, p', h5, h6, h7⟩ := c2 k hk
      have hbl : b < q.length := (List.getElem?_eq_some_iff.1 h5).1
      exact ⟨b, p', by rw [List.getElem?_append_left hbl]; exact h5, h6, h7⟩
/-- what is reached with few steps is in the queue -/
theorem LInv.reach {u : Au} {i : Nat} {q : List (Int × List Nat)} (h : LInv u i q) (L : Nat) (hL : ∀ (b : Nat) (p : Int × List Nat), q[b]? = some p → p.2.length < L → b < i) (ks : List Nat) (hk : CK u ks) (hl : ks.length ≤ L) :
    ∃ (b : Nat) (p : Int × List Nat), q[b]? = some p ∧ p.1.toNat = goC u 0 ks ∧ p.2.length ≤ ks.length := by
  induction hn : ks.length generalizing ks with
  | zero =>
    have := List.length_eq_zero_iff.1 hn
    subst this
    exact ⟨0, _, h.zero, rfl, Nat.le_refl _⟩
  | succ n ih =>
    obtain ⟨js, k, rfl⟩ : ∃ js k, ks = js ++ [k] := ⟨ks.dropLast, ks.getLast (by intro e; subst e; simp at hn), (List.dropLast_concat_getLast _).symm⟩
    rw [List.length_append, List.length_singleton] at hn hl
    obtain ⟨b, p, h1, h2, h3⟩ := ih js (fun j hj => hk j (List.mem_append_left _ hj)) (by omega) (by omega)
    have hb := hL b p h1 (by omega)
    obtain ⟨_, hc⟩ := h.clos b p hb h1
    obtain ⟨b', p', h4, h5, h6⟩ := hc k (hk k (by simp))
    exact ⟨b', p', h4, by rw [goC_snoc, h5, h2], by omega⟩
def LSaid (u : Au) : Option (List Nat) → Prop
  | some l => (∃ ks, CK u ks ∧ l = ks.map (fun k => (iget u.cuts k).toNat) ∧ bget u.accept (goC u 0 ks) = true) ∧ l.length ≤ 256 ∧ ∀ n, n < l.length → bget (nowB u n) 0 = false
  | none => ∀ n, bget (nowB u n) 0 = false
theorem lstLoop_said {u : Au} (hu : AGood u) : ∀ (fu i : Nat) (q : List (Int × List Nat)), LInv u i q → i ≤ q.length → 257 ≤ i + fu → LSaid u (lstLoop u fu i q)
  | 0, i, q, h, hi, hf => by have := h.ok.len; have := hu.states.2; omega
  | fu + 1, i, q, h, hi, hf => by
    simp only [lstLoop]
    cases hq : q[i]? with
    | none =>
      have hil : q.length ≤ i := List.getElem?_eq_none_iff.1 hq
      intro n
      cases hb : bget (nowB u n) 0 with
      | false => rfl
      | true =>
        obtain ⟨ks, h1, h2, h3⟩ := (nowB_spec hu n 0 hu.states.1).1 hb
        obtain ⟨b, p, h4, h5, _⟩ := h.reach ks.length (fun b p h4 _ => by have := (List.getElem?_eq_some_iff.1 h4).1; omega) ks h2 (Nat.le_refl _)
        have := (h.clos b p (by have := (List.getElem?_eq_some_iff.1 h4).1; omega) h4).1
        rw [h5, h3] at this
        cases this
    | some x =>
      obtain ⟨s, by_⟩ := x
      simp only
      split
      · rename_i hacc
        obtain ⟨ks, k1, k2, k3⟩ := h.path _ (List.mem_of_getElem? hq)
        refine ⟨⟨ks, k1, k2, by rw [k3]; exact hacc⟩, by have h1 := h.len i _ hq; have h2 := (List.getElem?_eq_some_iff.1 hq).1; have h3 := h.ok.len; have h4 := hu.states.2; simp only at h1; omega, fun n hn => ?_⟩
        cases hb : bget (nowB u n) 0 with
        | false => rfl
        | true =>
          obtain ⟨js, h1, h2, h3⟩ := (nowB_spec hu n 0 hu.states.1).1 hb
          have hbelow : ∀ (b : Nat) (p : Int × List Nat), q[b]? = some p → p.2.length < by_.length → b < i := fun b p h4 h5 => by
            apply Classical.byContradiction
            intro hbi
            have := h.mono i b _ _ (by omega) hq h4
            simp only at this
            omega
          obtain ⟨b, p, h4, h5, h6⟩ := h.reach by_.length hbelow js h2 (by omega)
          have := (h.clos b p (hbelow b p h4 (by omega)) h4).1
          rw [h5, h3] at this
          cases this
      · rename_i hacc
        have hil : i < q.length := (List.getElem?_eq_some_iff.1 hq).1
        refine lstLoop_said hu fu (i + 1) _ (h.next hu hq (by simpa using hacc)) ?_ (by omega)
        obtain ⟨new, e, _, _⟩ := lstRow_spec u.cuts by_ 0 (rget u.next s.toNat) q
        rw [e, List.length_append]; omega
theorem leastP_said {u : Au} (hu : AGood u) : LSaid u (leastP u) := lstLoop_said hu 257 0 _ (LInv.start hu) (by simp) (by omega)
/-- the class of the byte that a class begins with -/
theorem classP_cut (l : List Int) (h : IAsc l) (k : Nat) (hk : k < l.length) : classP l (iget l k) = k := by
  have key : ∀ (l : List Int), l.Pairwise (· < ·) → ∀ k, ∀ hk : k < l.length, (l.filter fun x => decide (x ≤ l[k])).length = k + 1 := by
    intro l
    induction l with
    | nil => intro _ k hk; simp at hk
    | cons a l ih =>
      intro hp k hk
      rw [List.pairwise_cons] at hp
      cases k with
      | zero =>
        simp only [List.getElem_cons_zero]
        rw [List.filter_cons, if_pos (by simp)]
        have : l.filter (fun x => decide (x ≤ a)) = [] := by
          rw [List.filter_eq_nil_iff]
          intro x hx
          have := hp.1 x hx
          simp; omega
        rw [this]; rfl
      | succ k =>
        simp only [List.getElem_cons_succ]
        have hkl : k < l.length := by simpa using hk
        have := hp.1 _ (List.getElem_mem hkl)
        rw [List.filter_cons, if_pos (by simp; omega), List.length_cons, ih hp.2 k hkl]
  have hg : iget l k = l[k] := by simp [iget, List.getD, List.getElem?_eq_getElem hk]
  unfold classP
  rw [hg, key l h k hk]
  omega
theorem cutsAscP {u : Au} (hu : AGood u) : IAsc u.cuts := by
  unfold IAsc
  rw [List.pairwise_iff_getElem]
  have key : ∀ d i, ∀ (h : i + d + 1 < u.cuts.length), u.cuts[i] < u.cuts[i + d + 1] := by
    intro d
    induction d with
    | zero =>
      intro i h
      have := (hu.cuts (i + 1) h (by omega)).1
      simpa [List.getD, List.getElem?_eq_getElem h, List.getElem?_eq_getElem (show i < u.cuts.length by omega)] using this
    | succ d ih =>
      intro i h
      have h1 := ih i (by omega)
      have h2 := (hu.cuts (i + (d + 1) + 1) h (by omega)).1
      have h3 : u.cuts[i + (d + 1)] < u.cuts[i + (d + 1) + 1] := by
        simpa [List.getD, List.getElem?_eq_getElem h, List.getElem?_eq_getElem (show i + (d + 1) < u.cuts.length by omega)] using h2
      have e : i + d + 1 = i + (d + 1) := by omega
      simp only [e] at h1
      omega
  intro i j hi hj hij
  have := key (j - i - 1) i (by omega)
  have e : i + (j - i - 1) + 1 = j := by omega
  simp only [e] at this
  exact this
theorem cut_range {u : Au} (hu : AGood u) {k : Nat} (hk : k < u.cuts.length) : 0 ≤ iget u.cuts k ∧ iget u.cuts k ≤ 255 := by
  have ha := cutsAscP hu
  have e0 : iget u.cuts k = u.cuts[k] := by simp [iget, List.getD, List.getElem?_eq_getElem hk]
  have hc := hu.classes
  have e1 : u.cuts[0] = 0 := by have := hu.first; simpa [List.getD, List.getElem?_eq_getElem hc] using this
  by_cases h0 : k = 0
  · subst h0; rw [e0, e1]; omega
  · have h1 := List.pairwise_iff_getElem.1 ha 0 k hc hk (by omega)
    have h2 := (hu.cuts k hk (by omega)).2
    have e2 : u.cuts.getD k 0 = u.cuts[k] := by simp [List.getD, List.getElem?_eq_getElem hk]
    rw [e2] at h2
    rw [e0]; omega
theorem runP_goC {u : Au} (hu : AGood u) (s : Nat) (ks : List Nat) (hk : CK u ks) : runP u s (ks.map fun k => (iget u.cuts k).toNat) = goC u s ks := by
  induction ks generalizing s with
  | nil => rfl
  | cons k ks ih =>
    have hkl := hk k List.mem_cons_self
    have hr := cut_range hu hkl
    simp only [List.map_cons, runP, goC]
    have e : (((iget u.cuts k).toNat : Nat) : Int) = iget u.cuts k := by omega
    rw [e, classP_cut _ (cutsAscP hu) k hkl]
    exact ih _ fun j hj => hk j (List.mem_cons_of_mem _ hj)
def lw (u : Au) : List Nat := (leastP u).getD []
/-- the law's first three demands -/
theorem least_law {u : Au} (hu : AGood u) : accP u (lw u) = (leastP u).isSome ∧ (∀ n, n < (lw u).length → bget (nowB u n) 0 = false) ∧ bget (nowB u (lw u).length) 0 = (leastP u).isSome ∧ ((leastP u).isSome = false → ∀ n, bget (nowB u n) 0 = false) ∧ (∀ c ∈ lw u, c < 256) ∧ (lw u).length ≤ 256 := by
  have h := leastP_said hu
  unfold lw
  cases hl : leastP u with
  | none =>
    rw [hl] at h
    refine ⟨?_, fun n hn => h n, h _, fun _ => h, by simp, by simp⟩
    exact h 0
  | some l =>
    rw [hl] at h
    obtain ⟨⟨ks, k1, rfl, k3⟩, h1, h2⟩ := h
    refine ⟨?_, h2, ?_, fun h => by simp at h, ?_, h1⟩
    · simp only [Option.getD_some, accP, Option.isSome_some]
      rw [runP_goC hu 0 ks k1]; exact k3
    · simp only [Option.getD_some, List.length_map, Option.isSome_some]
      exact (nowB_spec hu ks.length 0 hu.states.1).2 ⟨ks, rfl, k1, k3⟩
    · intro c hc
      simp only [Option.getD_some, List.mem_map] at hc
      obtain ⟨k, hk, rfl⟩ := hc
      have := cut_range hu (k1 k hk)
      omega
end Go.Proofs.Ytbepohpppailnaa
