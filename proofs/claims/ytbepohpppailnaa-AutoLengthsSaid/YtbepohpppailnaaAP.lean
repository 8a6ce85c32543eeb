/- The base of package auto's walks: own rows of one-cell elements; cuts and keys of expressions. A map that numbers keys in the order in which they came. Slices of one-cell elements, rows of them, automata: how they lie in memory. -/
import Derived.Test.YtbepohpppailnaaProg
import Derived.Test.YtbepohpppailnaaBP
import Derived.Test.YtbepohpppailnaaMP
import Derived.StillTailTactics
import Derived.Deep.DrawnRows
import Derived.Deep.QuietTactic
import Derived.BigQuiet
import Derived.Maps.AppendAt
import Derived.Maps.Own
import Derived.Laws.MakeOwn
import Derived.Laws.BytesArg
set_option linter.unusedSimpArgs false
set_option linter.unusedVariables false
namespace Go.Proofs.Ytbepohpppailnaa
open Go.RowKit
attribute [local go_sem ↓] Go.wp_at_zero Go.wp_at_succ

theorem below_drewN {B : Nat} {a w : World} (h : Below B a w) (n : Nat) : Below B a (w.drewN n) := ⟨h.os, h.tape, h.output, h.size, h.block⟩
/-- a slice of one-cell elements in memory of the call's own -/
def OwnC (w : World) (base : Nat) (e : TypeId) (v : Value) (cs : List Value) : Prop := w.ownsRow base e 1 v cs.length cs
theorem OwnC.nil (w : World) (base : Nat) (e : TypeId) : OwnC w base e (.slice none 0 0) [] := World.ownsRow_nil _ _ _ _
theorem OwnC.lt {w : World} {base : Nat} {e : TypeId} {v : Value} {cs : List Value} (h : OwnC w base e v cs) {b : Nat} (hb : v.ownBlock = some b) : base ≤ b ∧ b < w.heap.size := World.ownsRow.lt h b hb
theorem OwnC.keep {w w' : World} {base : Nat} {e : TypeId} {v : Value} {cs : List Value} (h : OwnC w base e v cs) (hk : ∀ b, v.ownBlock = some b → w'.heap[b]? = w.heap[b]?) : OwnC w' base e v cs := by
  obtain ⟨h1, h2⟩ := h
  refine ⟨h1, h2.imp id ?_⟩
  rintro ⟨g, cap, cur, rfl, h3, h4, h5⟩
  exact ⟨g, cap, cur, rfl, h3, (hk g rfl).trans h4, h5⟩
theorem OwnC.ext {w w' : World} {base : Nat} {e : TypeId} {v : Value} {cs : List Value} (h : OwnC w base e v cs) (hb : Below w.heap.size w w') : OwnC w' base e v cs :=
  h.keep fun b hv => hb.block b (h.lt hv).2
theorem OwnC.lower {w : World} {base base' : Nat} {e : TypeId} {v : Value} {cs : List Value} (h : OwnC w base e v cs) (hb : base' ≤ base) : OwnC w base' e v cs := by
  obtain ⟨h1, h2⟩ := h
  refine ⟨h1, h2.imp id ?_⟩
  rintro ⟨g, cap, cur, rfl, h3, h4, h5⟩
  exact ⟨g, cap, cur, rfl, by omega, h4, h5⟩
def Tab1 (P : Program) (t e : TypeId) (z : Value) (bytes : Nat) : Prop := P.underlying t = some (.slice e) ∧ (P.info? e).map (fun i => (i.zero, i.size, i.bytes)) = some (some z, 1, bytes)
theorem tab1_info {P : Program} {t e : TypeId} {z : Value} {bytes : Nat} (h : Tab1 P t e z bytes) : ∃ i, P.info? e = some i ∧ i.zero = some z ∧ i.size = 1 ∧ i.bytes = bytes := by
  obtain ⟨_, h⟩ := h
  cases hi : P.info? e with
  | none => rw [hi] at h; cases h
  | some i => rw [hi] at h; simp at h; exact ⟨i, rfl, h.1, h.2.1, h.2.2⟩
theorem tabI : Tab1 Try.prog 22 3 (.int .i64 0) 8 := ⟨Try.underlying22, by kernel_rfl⟩
theorem tabB : Tab1 Try.prog 47 5 (.int .u8 0) 1 := ⟨Try.underlying47, by kernel_rfl⟩

theorem run_append_c {P : Program} {w : World} (t ty e : TypeId) {z : Value} {bytes : Nat} (T : Tab1 P t e z bytes) (hz : z.cells.size = 1) (hby : bytes ≤ 64) (base : Nat) (v : Value) (cs : List Value) (hown : OwnC w base e v cs) (hbase : base ≤ w.heap.size)
    (ad : Addr) (c : Nat) (news : List Value) (hn : ∀ j u, news[j]? = some u → w.cell? (ad.add j) = some u) (h1 : ∀ u ∈ news, u.oneCell' = true) (hlen : cs.length + news.length ≤ 1000000000) :
    ∃ v' w', (Builtin.append_ #[t, t] ty #[v, .slice (some ad) news.length c]).run P w = .ok v' w' ∧ OwnC w' base e v' (cs ++ news) ∧ Below base w w' ∧ (∀ b, b < w.heap.size → v.ownBlock ≠ some b → w'.heap[b]? = w.heap[b]?) ∧ (v'.ownBlock = v.ownBlock ∨ v'.ownBlock = some w.heap.size) := by
  obtain ⟨i, hi, hiz, his, hib⟩ := tab1_info T
  have hbb : (cs.length + news.length) * bytes ≤ 140737488355328 := Nat.le_trans (Nat.mul_le_mul hlen hby) (by omega)
  obtain ⟨v', w', hr, h2, h3, _, h5⟩ := run_append_own_at (P := P) w base t ty e i z 1 bytes T.1 hi hiz his hib hz (by omega) v cs.length cs hown ad news.length c news (by omega) hn h1 (by unfold maxLen; omega) hbb hbase
  exact ⟨v', w', hr, by unfold OwnC; rw [List.length_append]; exact h2, (Below.refl _ _).grown h3 hbase (fun k hk => (hown.lt hk).1), fun b hb hn => h3.block b hb (fun e => hn e.symm), h5⟩
theorem wpList_append_c {P : Program} {w : World} {ops : Array Oper} {rest : List Oper} {o : Oper} {ac : Act} {Q : Exit → Act → World → Prop} (hgd : o.guard = none) (s x : Operand) (t e : TypeId) (ho : o.op = .call { callee := .builtin .append, args := #[s, x], argTypes := #[t, t] })
    {z : Value} {bytes : Nat} (T : Tab1 P t e z bytes) (hz : z.cells.size = 1) (hby : bytes ≤ 64) (base : Nat) (v : Value) (cs : List Value) (hs : ac.eval s = v) (hown : OwnC w base e v cs) (hbase : base ≤ w.heap.size)
    (ad : Addr) (c : Nat) (news : List Value) (hx : ac.eval x = .slice (some ad) news.length c) (hn : ∀ j u, news[j]? = some u → w.cell? (ad.add j) = some u) (h1 : ∀ u ∈ news, u.oneCell' = true) (hlen : cs.length + news.length ≤ 1000000000)
    (h : ∀ v' w', OwnC w' base e v' (cs ++ news) → Below base w w' → (∀ b, b < w.heap.size → v.ownBlock ≠ some b → w'.heap[b]? = w.heap[b]?) → wpList P ops Q rest (ac.put o.dst v') w') : wpList P ops Q (o :: rest) ac w := by
  refine wpList_plain hgd fun _ hK => ?_
  obtain ⟨v', w', hr, h2, h3, h4, _⟩ := run_append_c t o.type e T hz hby base v cs hown hbase ad c news hn h1 hlen
  unfold Oper.wp execOp
  simp only [ho, resolve, invoke, builtin, Sem.run_bind, Sem.run_pure, Result.andThen_ok, List.map_toArray, List.map_cons, List.map_nil, hs, hx, hr]
  exact hK _ _ (h v' w' h2 h3 h4)
theorem cells_one (w : World) (x : Value) (t : TypeId) : ∀ j u, [x][j]? = some u → (w.alloc (.cells #[x] t)).cell? ((⟨w.heap.size, 0, none⟩ : Addr).add j) = some u := by
  intro j u hj
  match j, hj with
  | 0, hj => simp at hj; subst hj; rw [Addr.add_lit]; go_side
/-- one element more: what that leaves -/
structure Grew (w w' : World) (base : Nat) (v v' : Value) (e : TypeId) (cs : List Value) : Prop where
  own : OwnC w' base e v' cs
  below : Below base w w'
  rest : ∀ b, b < w.heap.size → v.ownBlock ≠ some b → w'.heap[b]? = w.heap[b]?
  place : v'.ownBlock = v.ownBlock ∨ ∃ g, v'.ownBlock = some g ∧ w.heap.size ≤ g
theorem Grew.cell {w w' : World} {base : Nat} {v v' : Value} {e : TypeId} {cs : List Value} (h : Grew w w' base v v' e cs) {b : Nat} (o : Nat) (hb : b < w.heap.size) (hn : v.ownBlock ≠ some b) {u : Value} (hc : w.cell? ⟨b, o, none⟩ = some u) : w'.cell? ⟨b, o, none⟩ = some u := by
  rw [World.cell?_of_block (w := w) (w' := w') (a := ⟨b, o, none⟩) (h.rest b hb hn)]; exact hc
theorem Grew.free {w w' : World} {base : Nat} {v v' : Value} {e : TypeId} {cs : List Value} (h : Grew w w' base v v' e cs) {b : Nat} (o : Nat) (hb : b < w.heap.size) (hn : v.ownBlock ≠ some b) (hc : w.frozen? ⟨b, o, none⟩ = false) : w'.frozen? ⟨b, o, none⟩ = false := by
  have := h.rest b hb hn
  simp only [World.frozen?] at hc ⊢
  rw [this]; exact hc
theorem Grew.apart {w w' : World} {base : Nat} {v v' : Value} {e : TypeId} {cs : List Value} (h : Grew w w' base v v' e cs) {b : Nat} (hb : b < w.heap.size) (hn : v.ownBlock ≠ some b) : v'.ownBlock ≠ some b := by
  rcases h.place with e | ⟨g, e, hg⟩
  · rw [e]; exact hn
  · rw [e]; intro h; cases h; omega
theorem OwnC.apart {w : World} {base : Nat} {e : TypeId} {v : Value} {cs : List Value} (h : OwnC w base e v cs) {b : Nat} (hb : w.heap.size ≤ b ∨ b < base) : v.ownBlock ≠ some b := fun e => by have := h.lt e; omega
theorem run_append_c1 {P : Program} {w : World} (t ty e : TypeId) {z : Value} {bytes : Nat} (T : Tab1 P t e z bytes) (hz : z.cells.size = 1) (hby : bytes ≤ 64) (base : Nat) (v : Value) (cs : List Value) (hown : OwnC w base e v cs) (hbase : base ≤ w.heap.size) (u : Value) (t' : TypeId) (hu : u.oneCell' = true) (hlen : cs.length + 1 ≤ 1000000000) :
    ∃ v' w', (Builtin.append_ #[t, t] ty #[v, .slice (some ⟨w.heap.size, 0, none⟩) 1 1]).run P (w.alloc (.cells #[u] t')) = .ok v' w' ∧ Grew w w' base v v' e (cs ++ [u]) := by
  obtain ⟨v', w', h1, h2, h3, h4, h5⟩ := run_append_c (w := w.alloc (.cells #[u] t')) t ty e T hz hby base v cs (hown.ext (Ext.alloc w _).1) (by simp; omega) ⟨w.heap.size, 0, none⟩ 1 [u] (cells_one w u t') (by simpa using hu) (by simpa using hlen)
  refine ⟨v', w', h1, h2, ((Below.refl _ _).alloc hbase _).trans h3, fun b hb hn => (h4 b (by simp; omega) hn).trans (Below.heap_alloc w _ b hb), h5.imp id fun h => ⟨_, h, by simp⟩⟩
theorem wpList_append_c1 {P : Program} {w : World} {ops : Array Oper} {rest : List Oper} {o : Oper} {ac : Act} {Q : Exit → Act → World → Prop} (hgd : o.guard = none) (s x : Operand) (t e : TypeId) (ho : o.op = .call { callee := .builtin .append, args := #[s, x], argTypes := #[t, t] })
    {z : Value} {bytes : Nat} (T : Tab1 P t e z bytes) (hz : z.cells.size = 1) (hby : bytes ≤ 64) (base : Nat) (v : Value) (cs : List Value) (hs : ac.eval s = v) (hown : OwnC w base e v cs) (hbase : base ≤ w.heap.size)
    (u : Value) (t' : TypeId) (B : Nat) (hx : ac.eval x = .slice (some ⟨B, 0, none⟩) 1 1) (hB : w.heap.size = B) (hu : u.oneCell' = true) (hlen : cs.length + 1 ≤ 1000000000)
    (h : ∀ v' w', Grew w w' base v v' e (cs ++ [u]) → wpList P ops Q rest (ac.put o.dst v') w') : wpList P ops Q (o :: rest) ac (w.alloc (.cells #[u] t')) := by
  subst hB
  refine wpList_plain hgd fun _ hK => ?_
  obtain ⟨v', w', hr, h2⟩ := run_append_c1 t o.type e T hz hby base v cs hown hbase u t' hu hlen
  unfold Oper.wp execOp
  simp only [ho, resolve, invoke, builtin, Sem.run_bind, Sem.run_pure, Result.andThen_ok, List.map_toArray, List.map_cons, List.map_nil, hs, hx, hr]
  exact hK _ _ (h v' w' h2)
theorem step_append_c1 {P : Program} {w : World} {ops : Array Oper} {o : Oper} {ac : Act} {K : Act → World → Prop} {Q : Exit → Act → World → Prop} {E : Prop} (hgd : o.guard = none) (s x : Operand) (t e : TypeId) (ho : o.op = .call { callee := .builtin .append, args := #[s, x], argTypes := #[t, t] })
    {z : Value} {bytes : Nat} (T : Tab1 P t e z bytes) (hz : z.cells.size = 1) (hby : bytes ≤ 64) (base : Nat) (v : Value) (cs : List Value) (hs : ac.eval s = v) (hown : OwnC w base e v cs) (hbase : base ≤ w.heap.size)
    (u : Value) (t' : TypeId) (B : Nat) (hx : ac.eval x = .slice (some ⟨B, 0, none⟩) 1 1) (hB : w.heap.size = B) (hu : u.oneCell' = true) (hlen : cs.length + 1 ≤ 1000000000)
    (h : ∀ v' w', Grew w w' base v v' e (cs ++ [u]) → K (ac.put o.dst v') w') : if Region.wanted o (yielded ops ac.tmps) = true then Oper.wp P o ac (w.alloc (.cells #[u] t')) K Q else E := by
  subst hB
  have hw : Region.wanted o (yielded ops ac.tmps) = true := by simp [Region.wanted, hgd]
  rw [if_pos hw]
  obtain ⟨v', w', hr, h2⟩ := run_append_c1 t o.type e T hz hby base v cs hown hbase u t' hu hlen
  unfold Oper.wp execOp
  simp only [ho, resolve, invoke, builtin, Sem.run_bind, Sem.run_pure, Result.andThen_ok, List.map_toArray, List.map_cons, List.map_nil, hs, hx, hr]
  exact h v' w' h2

/-- several elements more, out of a literal -/
theorem cells_all (w : World) (us : Array Value) (t : TypeId) : ∀ j u, us.toList[j]? = some u → (w.alloc (.cells us t)).cell? ((⟨w.heap.size, 0, none⟩ : Addr).add j) = some u := by
  intro j u hj
  rw [Addr.add_lit]
  have := heap_alloc_new w (.cells us t)
  rw [cell_of_row _ _ _ _ _ _ this]
  simpa using hj
theorem run_append_cs {P : Program} {w : World} (t ty e : TypeId) {z : Value} {bytes : Nat} (T : Tab1 P t e z bytes) (hz : z.cells.size = 1) (hby : bytes ≤ 64) (base : Nat) (v : Value) (cs : List Value) (hown : OwnC w base e v cs) (hbase : base ≤ w.heap.size) (us : Array Value) (n : Nat) (hn : us.toList.length = n) (t' : TypeId) (hu : ∀ u ∈ us.toList, u.oneCell' = true) (hlen : cs.length + n ≤ 1000000000) :
    ∃ v' w', (Builtin.append_ #[t, t] ty #[v, .slice (some ⟨w.heap.size, 0, none⟩) n n]).run P (w.alloc (.cells us t')) = .ok v' w' ∧ Grew w w' base v v' e (cs ++ us.toList) := by
  subst hn
  obtain ⟨v', w', h1, h2, h3, h4, h5⟩ := run_append_c (w := w.alloc (.cells us t')) t ty e T hz hby base v cs (hown.ext (Ext.alloc w _).1) (by simp; omega) ⟨w.heap.size, 0, none⟩ us.toList.length us.toList (cells_all w us t') hu hlen
  exact ⟨v', w', h1, h2, ((Below.refl _ _).alloc hbase _).trans h3, fun b hb hn => (h4 b (by simp; omega) hn).trans (Below.heap_alloc w _ b hb), h5.imp id fun h => ⟨_, h, by simp⟩⟩
theorem wpList_append_cs {P : Program} {w : World} {ops : Array Oper} {rest : List Oper} {o : Oper} {ac : Act} {Q : Exit → Act → World → Prop} (hgd : o.guard = none) (s x : Operand) (t e : TypeId) (ho : o.op = .call { callee := .builtin .append, args := #[s, x], argTypes := #[t, t] })
    {z : Value} {bytes : Nat} (T : Tab1 P t e z bytes) (hz : z.cells.size = 1) (hby : bytes ≤ 64) (base : Nat) (v : Value) (cs : List Value) (hs : ac.eval s = v) (hown : OwnC w base e v cs) (hbase : base ≤ w.heap.size)
    (us : Array Value) (n : Nat) (hn : us.toList.length = n) (t' : TypeId) (B : Nat) (hx : ac.eval x = .slice (some ⟨B, 0, none⟩) n n) (hB : w.heap.size = B) (hu : ∀ u ∈ us.toList, u.oneCell' = true) (hlen : cs.length + n ≤ 1000000000)
    (h : ∀ v' w', Grew w w' base v v' e (cs ++ us.toList) → wpList P ops Q rest (ac.put o.dst v') w') : wpList P ops Q (o :: rest) ac (w.alloc (.cells us t')) := by
  subst hB
  refine wpList_plain hgd fun _ hK => ?_
  obtain ⟨v', w', hr, h2⟩ := run_append_cs t o.type e T hz hby base v cs hown hbase us n hn t' hu hlen
  unfold Oper.wp execOp
  simp only [ho, resolve, invoke, builtin, Sem.run_bind, Sem.run_pure, Result.andThen_ok, List.map_toArray, List.map_cons, List.map_nil, hs, hx, hr]
  exact hK _ _ (h v' w' h2)
theorem step_append_cs {P : Program} {w : World} {ops : Array Oper} {o : Oper} {ac : Act} {K : Act → World → Prop} {Q : Exit → Act → World → Prop} {E : Prop} (hgd : o.guard = none) (s x : Operand) (t e : TypeId) (ho : o.op = .call { callee := .builtin .append, args := #[s, x], argTypes := #[t, t] })
    {z : Value} {bytes : Nat} (T : Tab1 P t e z bytes) (hz : z.cells.size = 1) (hby : bytes ≤ 64) (base : Nat) (v : Value) (cs : List Value) (hs : ac.eval s = v) (hown : OwnC w base e v cs) (hbase : base ≤ w.heap.size)
    (us : Array Value) (n : Nat) (hn : us.toList.length = n) (t' : TypeId) (B : Nat) (hx : ac.eval x = .slice (some ⟨B, 0, none⟩) n n) (hB : w.heap.size = B) (hu : ∀ u ∈ us.toList, u.oneCell' = true) (hlen : cs.length + n ≤ 1000000000)
    (h : ∀ v' w', Grew w w' base v v' e (cs ++ us.toList) → K (ac.put o.dst v') w') : if Region.wanted o (yielded ops ac.tmps) = true then Oper.wp P o ac (w.alloc (.cells us t')) K Q else E := by
  subst hB
  have hw : Region.wanted o (yielded ops ac.tmps) = true := by simp [Region.wanted, hgd]
  rw [if_pos hw]
  obtain ⟨v', w', hr, h2⟩ := run_append_cs t o.type e T hz hby base v cs hown hbase us n hn t' hu hlen
  unfold Oper.wp execOp
  simp only [ho, resolve, invoke, builtin, Sem.run_bind, Sem.run_pure, Result.andThen_ok, List.map_toArray, List.map_cons, List.map_nil, hs, hx, hr]
  exact h v' w' h2

mutual
/-- the cuts of the ranges of an expression -/
def cutsA : Rx → List Int
  | .mk k lo hi ks => (if k = 2 then (lo : Int) :: (if hi < 255 then [(hi : Int) + 1] else []) else []) ++ cutsAL ks
def cutsAL : List Rx → List Int
  | [] => []
  | r :: rs => cutsA r ++ cutsAL rs
end
mutual
/-- the key of an expression -/
def keyA : Rx → List Nat
  | .mk k lo hi ks => [k.toNat, lo, hi, ks.length] ++ keyAL ks
def keyAL : List Rx → List Nat
  | [] => []
  | r :: rs => keyA r ++ keyAL rs
end
theorem cutsAL_take (ks : List Rx) (i : Nat) (x : Rx) (hx : ks[i]? = some x) : cutsAL (ks.take (i + 1)) = cutsAL (ks.take i) ++ cutsA x := by
  have app : ∀ l m : List Rx, cutsAL (l ++ m) = cutsAL l ++ cutsAL m := by
    intro l m
    induction l with
    | nil => rfl
    | cons a l ih => simp only [List.cons_append, cutsAL, ih, List.append_assoc]
  rw [List.take_add_one, hx, app]
  simp [cutsAL]
theorem keyAL_take (ks : List Rx) (i : Nat) (x : Rx) (hx : ks[i]? = some x) : keyAL (ks.take (i + 1)) = keyAL (ks.take i) ++ keyA x := by
  have app : ∀ l m : List Rx, keyAL (l ++ m) = keyAL l ++ keyAL m := by
    intro l m
    induction l with
    | nil => rfl
    | cons a l ih => simp only [List.cons_append, keyAL, ih, List.append_assoc]
  rw [List.take_add_one, hx, app]
  simp [keyAL]
theorem cutsA_length : ∀ r : Rx, (cutsA r).length ≤ 2 * nodes r := by
  refine Rx.ind ?_
  intro k lo hi ks ih
  have key : ∀ l : List Rx, (∀ x ∈ l, x ∈ ks) → (cutsAL l).length ≤ 2 * nodesL l := by
    intro l
    induction l with
    | nil => intro _; simp [cutsAL, nodesL]
    | cons b l ihl =>
      intro hm
      have h1 := ihl fun x hx => hm x (List.mem_cons_of_mem _ hx)
      have h2 := ih b (hm b List.mem_cons_self)
      simp only [cutsAL, nodesL, List.length_append]
      omega
  have := key ks fun x hx => hx
  simp only [cutsA, nodes, List.length_append]
  split
  · split <;> simp <;> omega
  · simp; omega
theorem keyA_length : ∀ r : Rx, (keyA r).length = 4 * nodes r := by
  refine Rx.ind ?_
  intro k lo hi ks ih
  have key : ∀ l : List Rx, (∀ x ∈ l, x ∈ ks) → (keyAL l).length = 4 * nodesL l := by
    intro l
    induction l with
    | nil => intro _; simp [keyAL, nodesL]
    | cons b l ihl =>
      intro hm
      have h1 := ihl fun x hx => hm x (List.mem_cons_of_mem _ hx)
      have h2 := ih b (hm b List.mem_cons_self)
      simp only [keyAL, nodesL, List.length_append]
      omega
  have := key ks fun x hx => hx
  simp only [keyA, nodes, List.length_append]
  simp
  omega
end Go.Proofs.Ytbepohpppailnaa
namespace Go.Proofs.Ytbepohpppailnaa
open Go.RowKit Go.Maps

/-- block mb is a map from the keys ks to their places -/
def NumMap (w : World) (mb : Nat) (ks : List Value) : Prop :=
  ∃ es clock, w.heap[mb]? = some (.map es clock) ∧ es.toList.map (fun (e : MapEntry) => e.key) = ks ∧ ∀ (i : Nat) (e : MapEntry), es.toList[i]? = some e → e.val = .int .i64 i
theorem NumMap.lt {w : World} {mb : Nat} {ks : List Value} (h : NumMap w mb ks) : mb < w.heap.size := by
  obtain ⟨es, clock, h1, _⟩ := h
  rcases Nat.lt_or_ge mb w.heap.size with hlt | hge
  · exact hlt
  · rw [Array.getElem?_eq_none hge] at h1; cases h1
theorem NumMap.keep {w w' : World} {mb : Nat} {ks : List Value} (h : NumMap w mb ks) (hk : w'.heap[mb]? = w.heap[mb]?) : NumMap w' mb ks := by
  obtain ⟨es, clock, h1, h2⟩ := h
  exact ⟨es, clock, hk.trans h1, h2⟩
theorem NumMap.ext {w w' : World} {mb : Nat} {ks : List Value} (h : NumMap w mb ks) (hb : Below w.heap.size w w') : NumMap w' mb ks := h.keep (hb.block mb h.lt)
theorem NumMap.made (w : World) : NumMap (w.alloc (.map #[] 0)) w.heap.size [] := ⟨#[], 0, heap_alloc_new w _, rfl, by simp⟩

section
variable {P : Program} {t k e : TypeId} {α : Type} {kv : α → Value}
theorem NumMap.keys {es : List MapEntry} {l : List α} (hk : es.map (fun (e : MapEntry) => e.key) = l.map kv) (hkv : ∀ a ∈ l, ∃ x, keyOf P k (kv a) = some x) : ∀ e ∈ es, ∃ x, keyOf P k e.key = some x := by
  intro e he
  have : e.key ∈ es.map fun (e : MapEntry) => e.key := List.mem_map.2 ⟨e, he, rfl⟩
  rw [hk] at this
  obtain ⟨a, ha, h⟩ := List.mem_map.1 this
  rw [← h]
  exact hkv a ha
theorem NumMap.hit (K : Keyed P k) (ht : P.underlying t = some (.map k e)) {w : World} {mb : Nat} {l : List α} (h : NumMap w mb (l.map kv)) (hinj : ∀ a b, a ∈ l → b ∈ l → kv a = kv b → a = b) (hkv : ∀ a ∈ l, ∃ x, keyOf P k (kv a) = some x) (hnd : l.Nodup) (i : Nat) (a : α) (hi : l[i]? = some a) :
    (Instr.lookup t (.map (some mb)) (kv a) true).run P w = .ok (.tuple #[.int .i64 i, .bool true]) w := by
  obtain ⟨es, clock, hb, hks, hv⟩ := h
  have hal := List.mem_of_getElem? hi
  obtain ⟨lx, hx⟩ := hkv a hal
  have hck := K.check w es.isEmpty hx
  have hgo : (getObj mb).run P w = .ok (.map es clock) w := MapKept.run_getObj_map hb
  have hik : ∀ j : Nat, (es.toList[j]?).map (fun (e : MapEntry) => e.key) = (l[j]?).map kv := fun j => by rw [← List.getElem?_map, ← List.getElem?_map, hks]
  rcases K.find w hx es.toList (NumMap.keys hks hkv) with ⟨_, hne⟩ | ⟨j, e0, hf, hj, hje⟩
  · exfalso
    have := hik i
    rw [hi] at this
    cases he : es.toList[i]? with
    | none => rw [he] at this; cases this
    | some e0 => rw [he] at this; exact hne e0 (List.mem_of_getElem? he) (by simpa using this)
  · have h1 := hik j
    rw [hj] at h1
    cases hlj : l[j]? with
    | none => rw [hlj] at h1; cases h1
    | some b =>
      rw [hlj] at h1
      have hb2 : b = a := hinj b a (List.mem_of_getElem? hlj) hal (by simp at h1; rw [← h1, hje])
      have hji : j = i := (List.getElem?_inj (List.getElem?_eq_some_iff.1 hlj).1 hnd).1 (by rw [hlj, hi, hb2])
      have hval := hv j e0 hj
      subst hji
      simp only [Instr.lookup, Sem.run_bind, run_underlying ht, Result.andThen_ok, hgo, Sem.run_pure, hck, hf, hval, if_true]
theorem NumMap.miss (K : Keyed P k) (ht : P.underlying t = some (.map k e)) (hz : ∀ w, (zeroValue e).run P w = .ok (.int .i64 0) w) {w : World} {mb : Nat} {l : List α} (h : NumMap w mb (l.map kv)) (hkv : ∀ a ∈ l, ∃ x, keyOf P k (kv a) = some x) (a : α) (lx : Lit) (hx : keyOf P k (kv a) = some lx) (hinj : ∀ b ∈ l, kv b = kv a → b = a) (hi : a ∉ l) :
    (Instr.lookup t (.map (some mb)) (kv a) true).run P w = .ok (.tuple #[.int .i64 0, .bool false]) w := by
  obtain ⟨es, clock, hb, hks, hv⟩ := h
  have hck := K.check w es.isEmpty hx
  have hgo : (getObj mb).run P w = .ok (.map es clock) w := MapKept.run_getObj_map hb
  rcases K.find w hx es.toList (NumMap.keys hks hkv) with ⟨hf, hne⟩ | ⟨j, e0, hf, hj, hje⟩
  · simp only [Instr.lookup, Sem.run_bind, run_underlying ht, Result.andThen_ok, hgo, Sem.run_pure, hck, hf, hz, if_true]
  · exfalso
    have : e0.key ∈ es.toList.map fun (e : MapEntry) => e.key := List.mem_map.2 ⟨e0, List.mem_of_getElem? hj, rfl⟩
    rw [hks] at this
    obtain ⟨b, hb2, h⟩ := List.mem_map.1 this
    exact hi (hinj b hb2 (by rw [h, hje]) ▸ hb2)
theorem NumMap.put (K : Keyed P k) (ht : P.underlying t = some (.map k e)) {w : World} {mb : Nat} {l : List α} (h : NumMap w mb (l.map kv)) (hkv : ∀ a ∈ l, ∃ x, keyOf P k (kv a) = some x) (a : α) (lx : Lit) (hx : keyOf P k (kv a) = some lx) (hinj : ∀ b ∈ l, kv b = kv a → b = a) (hi : a ∉ l) :
    ∃ w', (Instr.mapUpdate t (.map (some mb)) (kv a) (.int .i64 l.length)).run P w = .ok () w' ∧ NumMap w' mb ((l ++ [a]).map kv) ∧ w.grownBy w' (some mb) := by
  obtain ⟨es, clock, hb, hks, hv⟩ := h
  have hck := K.check w false hx
  have hgo : (getObj mb).run P w = .ok (.map es clock) w := MapKept.run_getObj_map hb
  have hlen : es.toList.length = l.length := by have := congrArg List.length hks; simpa using this
  rcases K.find w hx es.toList (NumMap.keys hks hkv) with ⟨hf, hne⟩ | ⟨j, e0, hf, hj, hje⟩
  · refine ⟨_, by simp only [Instr.mapUpdate, Sem.run_bind, run_underlying ht, Result.andThen_ok, hgo, Sem.run_pure, hck, hf, MapKept.run_setObj_map _ hb]; rfl, ?_, ?_⟩
    · refine ⟨es.push { key := kv a, val := .int .i64 l.length, born := clock }, clock + 1, ?_, ?_, ?_⟩
      · have hlt : mb < w.heap.size := (Array.getElem?_eq_some_iff.1 hb).1
        simp [hlt]
      · simp [hks]
      · intro i e1 he
        rw [Array.toList_push] at he
        by_cases hil : i < es.toList.length
        · rw [List.getElem?_append_left hil] at he; exact hv i e1 he
        · rw [List.getElem?_append_right (by omega)] at he
          have h0 : i - es.toList.length = 0 := by
            rcases Nat.eq_zero_or_pos (i - es.toList.length) with h0 | h0
            · exact h0
            · rw [List.getElem?_eq_none (by rw [List.length_singleton]; exact h0)] at he; cases he
          rw [h0] at he
          simp at he
          subst he
          have : i = l.length := by omega
          simp [this]
    · exact ⟨rfl, rfl, rfl, by simp, fun i _ hi => by simp [Array.getElem?_setIfInBounds]; intro h; exact absurd (by rw [h]) hi⟩
  · exfalso
    have : e0.key ∈ es.toList.map fun (e : MapEntry) => e.key := List.mem_map.2 ⟨e0, List.mem_of_getElem? hj, rfl⟩
    rw [hks] at this
    obtain ⟨b, hb2, h⟩ := List.mem_map.1 this
    exact hi (hinj b hb2 (by rw [h, hje]) ▸ hb2)
end
end Go.Proofs.Ytbepohpppailnaa
namespace Go.Proofs.Ytbepohpppailnaa
open Go.RowKit

abbrev ints (l : List Int) : List Value := l.map (Value.int .i64)
abbrev byts (l : List Nat) : List Value := l.map fun (b : Nat) => Value.int .u8 b
abbrev boos (l : List Bool) : List Value := l.map Value.bool
/-- a slice of one-cell elements, in no block of A -/
structure SlRep (w : World) (A : Nat → Prop) (cs : List Value) (a : Option Addr) (c : Nat) : Prop where
  bd : cs.length ≤ c ∧ c ≤ 9223372036854775807
  nil : a = none → c = 0
  ho : 0 < cs.length → ∃ b o, a = some ⟨b, o, none⟩ ∧ ¬ A b ∧ b < w.heap.size ∧ ∀ i v, cs[i]? = some v → w.cell? ⟨b, o + i, none⟩ = some v
theorem SlRep.keep {w w' : World} {A : Nat → Prop} {cs : List Value} {a : Option Addr} {c : Nat} (h : SlRep w A cs a c) (hz : w.heap.size ≤ w'.heap.size) (hs : ∀ b, b < w.heap.size → ¬ A b → w'.heap[b]? = w.heap[b]?) : SlRep w' A cs a c := by
  refine ⟨h.bd, h.nil, fun hp => ?_⟩
  obtain ⟨b, o, h1, h2, h3, h4⟩ := h.ho hp
  refine ⟨b, o, h1, h2, by omega, fun i v hi => ?_⟩
  rw [World.cell?_of_block (w := w) (w' := w') (a := ⟨b, _, none⟩) (hs b h3 h2)]
  exact h4 i v hi
theorem SlRep.ext {w w' : World} {A : Nat → Prop} {cs : List Value} {a : Option Addr} {c : Nat} (h : SlRep w A cs a c) (hb : Below w.heap.size w w') : SlRep w' A cs a c :=
  h.keep hb.size (fun b hb' _ => hb.block b hb')
theorem SlRep.below {w w' : World} {B : Nat} {A : Nat → Prop} {cs : List Value} {a : Option Addr} {c : Nat} (h : SlRep w A cs a c) (hb : Below B w w') (hA : ∀ b, B ≤ b → A b) : SlRep w' A cs a c :=
  h.keep hb.size (fun b hb' hn => hb.block b (by rcases Nat.lt_or_ge b B with h | h; exact h; exact absurd (hA b h) hn))
theorem SlRep.avoid {w : World} {A A' : Nat → Prop} {cs : List Value} {a : Option Addr} {c : Nat} (h : SlRep w A cs a c) (hs : ∀ b, b < w.heap.size → A' b → A b) : SlRep w A' cs a c := by
  refine ⟨h.bd, h.nil, fun hp => ?_⟩
  obtain ⟨b, o, h1, h2, h3, h4⟩ := h.ho hp
  exact ⟨b, o, h1, fun ha => h2 (hs b h3 ha), h3, h4⟩
theorem SlRep.at {w : World} {A : Nat → Prop} {cs : List Value} {a : Option Addr} {c : Nat} (h : SlRep w A cs a c) {i : Nat} (hi : i < cs.length) : ∃ b o, a = some ⟨b, o, none⟩ ∧ ¬ A b ∧ b < w.heap.size ∧ w.cell? ⟨b, o + i, none⟩ = some (cs[i]) := by
  obtain ⟨b, o, h1, h2, h3, h4⟩ := h.ho (by omega)
  exact ⟨b, o, h1, h2, h3, h4 i _ (List.getElem?_eq_getElem hi)⟩
theorem SlRep.none (w : World) (A : Nat → Prop) : SlRep w A [] none 0 := ⟨⟨by simp, by omega⟩, fun _ => rfl, fun h => by simp at h⟩
theorem OwnC.form {w : World} {base : Nat} {e : TypeId} {v : Value} {cs : List Value} (h : OwnC w base e v cs) : ∃ a c, v = .slice a cs.length c := by
  rcases h.2 with ⟨rfl, h0⟩ | ⟨g, cap, cur, rfl, _⟩
  · exact ⟨_, 0, by rw [h0]⟩
  · exact ⟨_, _, rfl⟩
theorem OwnC.rep {w : World} {A : Nat → Prop} {base : Nat} {e : TypeId} {a : Option Addr} {n c : Nat} {cs : List Value} (h : OwnC w base e (.slice a n c) cs) (hA : ∀ b, base ≤ b → ¬ A b) : SlRep w A cs a c := by
  rcases h.2 with ⟨hv, h0⟩ | ⟨g, cap, cur, hv, hg, hh, hnc, hcm, hcs, htake⟩
  · cases hv
    have hl : cs = [] := List.length_eq_zero_iff.1 h0
    subst hl
    exact SlRep.none w A
  · cases hv
    refine ⟨⟨by simpa using hnc, by simpa [maxLen] using hcm⟩, fun h => by simp at h, fun hp => ⟨g, 0, rfl, hA g hg, (Array.getElem?_eq_some_iff.1 hh).1, fun i v hi => ?_⟩⟩
    have hil := (List.getElem?_eq_some_iff.1 hi).1
    rw [← htake, List.getElem?_take, if_pos (by omega)] at hi
    rw [← hi]
    simp only [World.cell?, hh, Option.isSome_none, Bool.false_eq_true, if_false, Nat.zero_add, Array.getElem?_toList]

/-- rows of one-cell elements -/
def RowsRep (w : World) (A : Nat → Prop) (rows : List (List Value)) (a : Option Addr) (c : Nat) : Prop :=
  ∃ (fa : Nat → Option Addr) (fc : Nat → Nat), SlRep w A (rows.mapIdx fun i r => .slice (fa i) r.length (fc i)) a c ∧ ∀ i r, rows[i]? = some r → SlRep w A r (fa i) (fc i)
theorem RowsRep.keep {w w' : World} {A : Nat → Prop} {rows : List (List Value)} {a : Option Addr} {c : Nat} (h : RowsRep w A rows a c) (hz : w.heap.size ≤ w'.heap.size) (hs : ∀ b, b < w.heap.size → ¬ A b → w'.heap[b]? = w.heap[b]?) : RowsRep w' A rows a c := by
  obtain ⟨fa, fc, h1, h2⟩ := h
  exact ⟨fa, fc, h1.keep hz hs, fun i r hi => (h2 i r hi).keep hz hs⟩
theorem RowsRep.ext {w w' : World} {A : Nat → Prop} {rows : List (List Value)} {a : Option Addr} {c : Nat} (h : RowsRep w A rows a c) (hb : Below w.heap.size w w') : RowsRep w' A rows a c :=
  h.keep hb.size (fun b hb' _ => hb.block b hb')
theorem RowsRep.below {w w' : World} {B : Nat} {A : Nat → Prop} {rows : List (List Value)} {a : Option Addr} {c : Nat} (h : RowsRep w A rows a c) (hb : Below B w w') (hA : ∀ b, B ≤ b → A b) : RowsRep w' A rows a c :=
  h.keep hb.size (fun b hb' hn => hb.block b (by rcases Nat.lt_or_ge b B with h | h; exact h; exact absurd (hA b h) hn))
theorem RowsRep.avoid {w : World} {A A' : Nat → Prop} {rows : List (List Value)} {a : Option Addr} {c : Nat} (h : RowsRep w A rows a c) (hs : ∀ b, b < w.heap.size → A' b → A b) : RowsRep w A' rows a c := by
  obtain ⟨fa, fc, h1, h2⟩ := h
  exact ⟨fa, fc, h1.avoid hs, fun i r hi => (h2 i r hi).avoid hs⟩
theorem RowsRep.bd {w : World} {A : Nat → Prop} {rows : List (List Value)} {a : Option Addr} {c : Nat} (h : RowsRep w A rows a c) : rows.length ≤ c ∧ c ≤ 9223372036854775807 := by
  obtain ⟨fa, fc, h1, h2⟩ := h
  simpa using h1.bd
/-- one row: where its head lies, itself -/
theorem RowsRep.at {w : World} {A : Nat → Prop} {rows : List (List Value)} {a : Option Addr} {c : Nat} (h : RowsRep w A rows a c) {i : Nat} (hi : i < rows.length) :
    ∃ b o ra rc, a = some ⟨b, o, none⟩ ∧ ¬ A b ∧ b < w.heap.size ∧ w.cell? ⟨b, o + i, none⟩ = some (.slice ra (rows[i]).length rc) ∧ SlRep w A (rows[i]) ra rc := by
  obtain ⟨fa, fc, h1, h2⟩ := h
  obtain ⟨b, o, e, hA, hb, hc⟩ := h1.at (i := i) (by simpa using hi)
  refine ⟨b, o, fa i, fc i, e, hA, hb, ?_, h2 i _ (List.getElem?_eq_getElem hi)⟩
  rw [hc]
  simp
theorem RowsRep.none (w : World) (A : Nat → Prop) : RowsRep w A [] none 0 := ⟨fun _ => .none, fun _ => 0, SlRep.none w A, fun i r hi => by simp at hi⟩

/-- where an automaton's slices lie -/
structure APl where
  ca : Option Addr
  cc : Nat
  na : Option Addr
  nc : Nat
  aa : Option Addr
  ac : Nat
def auv (u : Au) (p : APl) : Value := .agg #[.slice p.ca u.cuts.length p.cc, .slice p.na u.next.length p.nc, .slice p.aa u.accept.length p.ac]
structure AuRep (w : World) (A : Nat → Prop) (u : Au) (p : APl) : Prop where
  cuts : SlRep w A (ints u.cuts) p.ca p.cc
  next : RowsRep w A (u.next.map ints) p.na p.nc
  accept : SlRep w A (boos u.accept) p.aa p.ac
theorem AuRep.keep {w w' : World} {A : Nat → Prop} {u : Au} {p : APl} (h : AuRep w A u p) (hz : w.heap.size ≤ w'.heap.size) (hs : ∀ b, b < w.heap.size → ¬ A b → w'.heap[b]? = w.heap[b]?) : AuRep w' A u p :=
  ⟨h.cuts.keep hz hs, h.next.keep hz hs, h.accept.keep hz hs⟩
theorem AuRep.ext {w w' : World} {A : Nat → Prop} {u : Au} {p : APl} (h : AuRep w A u p) (hb : Below w.heap.size w w') : AuRep w' A u p := h.keep hb.size (fun b hb' _ => hb.block b hb')
theorem AuRep.below {w w' : World} {B : Nat} {A : Nat → Prop} {u : Au} {p : APl} (h : AuRep w A u p) (hb : Below B w w') (hA : ∀ b, B ≤ b → A b) : AuRep w' A u p :=
  ⟨h.cuts.below hb hA, h.next.below hb hA, h.accept.below hb hA⟩
theorem AuRep.avoid {w : World} {A A' : Nat → Prop} {u : Au} {p : APl} (h : AuRep w A u p) (hs : ∀ b, b < w.heap.size → A' b → A b) : AuRep w A' u p :=
  ⟨h.cuts.avoid hs, h.next.avoid hs, h.accept.avoid hs⟩

/-- a slice made: zeros in a new block -/
theorem run_make_c {P : Program} (t e : TypeId) {z : Value} {bytes : Nat} (T : Tab1 P t e z bytes) (hz : z.cells = #[z]) (hby : bytes ≤ 64) (n : Nat) (hn : n ≤ 1000000000) (w : World) :
    (Instr.makeSlice t (.int .i64 n) (.int .i64 n)).run P w = .ok (.slice (some ⟨w.heap.size, 0, none⟩) n n) (w.alloc (.cells (List.replicate n z).toArray e)) := by
  obtain ⟨i, hi, hiz, his, hib⟩ := tab1_info T
  have hb : (i.bytes : Int) * (n : Int) ≤ 281474976710656 := by
    have h : ((i.bytes * n : Nat) : Int) ≤ 281474976710656 := by
      have := Nat.mul_le_mul (show i.bytes ≤ 64 by omega) hn
      omega
    rwa [Int.natCast_mul] at h
  have hr := run_make (P := P) w t e i z T.1 hi hiz .i64 .i64 n n (by omega) (by omega) hb (by omega)
  simp only [Int.toNat_natCast] at hr
  rw [hr, his, hz]
  congr 3
  apply Array.ext
  · simp [size_madeCells]
  · intro j h1 h2
    simp [madeCells, Nat.mod_one]
/-- a block that is known whole -/
def Blk (w : World) (g : Nat) (t : TypeId) (cs : List Value) : Prop := w.heap[g]? = some (.cells cs.toArray t (0, 0))
theorem Blk.lt {w : World} {g : Nat} {t : TypeId} {cs : List Value} (h : Blk w g t cs) : g < w.heap.size := (Array.getElem?_eq_some_iff.1 h).1
theorem Blk.new (w : World) (t : TypeId) (cs : List Value) : Blk (w.alloc (.cells cs.toArray t)) w.heap.size t cs := heap_alloc_new w _
theorem Blk.cell {w : World} {g : Nat} {t : TypeId} {cs : List Value} (h : Blk w g t cs) {i : Nat} {v : Value} (hi : cs[i]? = some v) : w.cell? ⟨g, i, none⟩ = some v := by
  rw [cell_of_row w g i cs.toArray t (0, 0) h]; simpa using hi
theorem Blk.free {w : World} {g : Nat} {t : TypeId} {cs : List Value} (h : Blk w g t cs) (i : Nat) : w.frozen? ⟨g, i, none⟩ = false := by
  unfold Blk at h
  simp [World.frozen?, h]
theorem Blk.keep {w w' : World} {g : Nat} {t : TypeId} {cs : List Value} (h : Blk w g t cs) (hk : w'.heap[g]? = w.heap[g]?) : Blk w' g t cs := hk.trans h
theorem Blk.ext {w w' : World} {g : Nat} {t : TypeId} {cs : List Value} (h : Blk w g t cs) (hb : Below w.heap.size w w') : Blk w' g t cs := h.keep (hb.block g h.lt)
theorem Blk.set {w : World} {g : Nat} {t : TypeId} {cs : List Value} (h : Blk w g t cs) (i : Nat) (u : Value) : Blk (w.setCell ⟨g, i, none⟩ u) g t (cs.set i u) := by
  unfold Blk at h ⊢
  simp [World.setCell, Array.getElem?_modify, h]
theorem Blk.rep {w : World} {g : Nat} {t : TypeId} {cs : List Value} (h : Blk w g t cs) (A : Nat → Prop) (hA : ¬ A g) (hl : cs.length ≤ 1000000000) : SlRep w A cs (some ⟨g, 0, none⟩) cs.length :=
  ⟨⟨Nat.le_refl _, by omega⟩, fun h => by simp at h, fun hp => ⟨g, 0, rfl, hA, h.lt, fun i v hi => by rw [Nat.zero_add]; exact h.cell hi⟩⟩
/-- a row's block is no block of another kind -/
theorem own_ne {w : World} {base : Nat} {e : TypeId} {size n : Nat} {v : Value} {xs : List Value} (h : w.ownsRow base e size v n xs) {b : Nat} {o : Obj} (hb : w.heap[b]? = some o) (hne : ∀ cs fr, o ≠ .cells cs e fr) : v.ownBlock ≠ some b := by
  rcases h.2 with ⟨rfl, _⟩ | ⟨g', cap, cur, rfl, _, hh, _⟩
  · simp [Value.ownBlock]
  · intro he
    have : g' = b := by simpa [Value.ownBlock] using he
    subst this
    rw [hh] at hb
    exact hne _ _ (Option.some.inj hb).symm
theorem own_ne2 {w : World} {base base' : Nat} {e e' : TypeId} {size size' n n' : Nat} {v v' : Value} {xs xs' : List Value} (h : w.ownsRow base e size v n xs) (h' : w.ownsRow base' e' size' v' n' xs') (hne : e ≠ e') {b : Nat} (hb : v'.ownBlock = some b) : v.ownBlock ≠ some b := by
  rcases h'.2 with ⟨rfl, _⟩ | ⟨g', cap, cur, rfl, _, hh, _⟩
  · simp [Value.ownBlock] at hb
  · have : g' = b := by simpa [Value.ownBlock] using hb
    subst this
    exact own_ne h hh (fun cs fr e0 => by injection e0 with _ e1; exact hne e1.symm)
def AuPost (w0 : World) (n : Int) (u : Au) (e : Ending) (w' : World) : Prop :=
  ∃ p, e = .returned (.tuple #[auv u p, .int .i64 n]) ∧ AuRep w' (fun b => b < w0.heap.size) u p ∧ Below w0.heap.size w0 w'
theorem AuRep.no (w : World) (A : Nat → Prop) : AuRep w A ⟨[], [], []⟩ ⟨none, 0, none, 0, none, 0⟩ := ⟨SlRep.none w A, RowsRep.none w A, SlRep.none w A⟩
/-- three cells of a block written -/
def set3 (w : World) (b : Nat) (v0 v1 v2 : Value) : World := ((w.setCell ⟨b, 0, none⟩ v0).setCell ⟨b, 1, none⟩ v1).setCell ⟨b, 2, none⟩ v2
theorem set3_other (w : World) (b : Nat) (v0 v1 v2 : Value) (k : Nat) (h : k ≠ b) : (set3 w b v0 v1 v2).heap[k]? = w.heap[k]? := by
  unfold set3
  rw [Below.heap_setCell _ _ _ _ h, Below.heap_setCell _ _ _ _ h, Below.heap_setCell _ _ _ _ h]
theorem set3_below {B : Nat} {a w : World} (h : Below B a w) {b : Nat} (hb : B ≤ b) (v0 v1 v2 : Value) : Below B a (set3 w b v0 v1 v2) :=
  ((h.setCell hb _).setCell hb _).setCell hb _
theorem set3_size (w : World) (b : Nat) (v0 v1 v2 : Value) : (set3 w b v0 v1 v2).heap.size = w.heap.size := by simp [set3, World.setCell]
theorem set3_cells {w : World} {b : Nat} {u0 u1 u2 : Value} (c0 : w.cell? ⟨b, 0, none⟩ = some u0) (c1 : w.cell? ⟨b, 1, none⟩ = some u1) (c2 : w.cell? ⟨b, 2, none⟩ = some u2) (v0 v1 v2 : Value) :
    (set3 w b v0 v1 v2).cell? ⟨b, 0, none⟩ = some v0 ∧ (set3 w b v0 v1 v2).cell? ⟨b, 1, none⟩ = some v1 ∧ (set3 w b v0 v1 v2).cell? ⟨b, 2, none⟩ = some v2 := by
  unfold set3
  refine ⟨?_, ?_, ?_⟩ <;> simp [c0, c1, c2, go_sem]
theorem set3_cells_alloc {w : World} {b : Nat} {u0 u1 u2 : Value} (c0 : w.cell? ⟨b, 0, none⟩ = some u0) (c1 : w.cell? ⟨b, 1, none⟩ = some u1) (c2 : w.cell? ⟨b, 2, none⟩ = some u2) (v0 v1 v2 : Value) (o : Obj) :
    ((((w.setCell ⟨b, 0, none⟩ v0).setCell ⟨b, 1, none⟩ v1).setCell ⟨b, 2, none⟩ v2).alloc o).cell? ⟨b, 0, none⟩ = some v0 ∧ ((((w.setCell ⟨b, 0, none⟩ v0).setCell ⟨b, 1, none⟩ v1).setCell ⟨b, 2, none⟩ v2).alloc o).cell? ⟨b, 1, none⟩ = some v1 ∧ ((((w.setCell ⟨b, 0, none⟩ v0).setCell ⟨b, 1, none⟩ v1).setCell ⟨b, 2, none⟩ v2).alloc o).cell? ⟨b, 2, none⟩ = some v2 := by
  obtain ⟨h0, h1, h2⟩ := set3_cells c0 c1 c2 v0 v1 v2
  have hb : b < (set3 w b v0 v1 v2).heap.size := World.block_lt_of_cell? _ _ h0
  exact ⟨(World.cell?_alloc_lt _ o ⟨b, 0, none⟩ hb).trans h0, (World.cell?_alloc_lt _ o ⟨b, 1, none⟩ hb).trans h1, (World.cell?_alloc_lt _ o ⟨b, 2, none⟩ hb).trans h2⟩
/-- the result's box, laid second -/
theorem below_res3 {w w' : World} {v0 v1 v2 : Value} {t : TypeId} {o : Obj} {B : Nat} (h : Below B ((w.alloc o).alloc (.cells #[v0, v1, v2] t)) w') (hB : w.heap.size + 1 < B) :
    (w'.cell? ⟨w.heap.size + 1, 0, none⟩ = some v0 ∧ w'.cell? ⟨w.heap.size + 1, 1, none⟩ = some v1 ∧ w'.cell? ⟨w.heap.size + 1, 2, none⟩ = some v2) ∧
    w'.frozen? ⟨w.heap.size + 1, 0, none⟩ = false ∧ w'.frozen? ⟨w.heap.size + 1, 1, none⟩ = false ∧ w'.frozen? ⟨w.heap.size + 1, 2, none⟩ = false :=
  ⟨⟨below_cell h hB (by go_side), below_cell h hB (by go_side), below_cell h hB (by go_side)⟩, below_free h hB (by go_side), below_free h hB (by go_side), below_free h hB (by go_side)⟩

theorem tabBo : Tab1 Try.prog 24 4 (.bool false) 1 := ⟨Try.underlying24, by kernel_rfl⟩
theorem tabL : Tab1 Try.prog 23 22 (.slice none 0 0) 24 := ⟨Try.underlying23, by kernel_rfl⟩
theorem grew_form {w w' : World} {base : Nat} {v v' : Value} {e : TypeId} {cs : List Value} (h : Grew w w' base v v' e cs) : ∃ a c, v' = .slice a cs.length c := h.own.form

def nats (l : List Nat) : List Int := l.map fun (n : Nat) => (n : Int)
theorem conv_str (w : World) (A : Nat → Prop) (l : List Nat) (a : Option Addr) (c : Nat) (h : SlRep w A (byts l) a c) :
    (convert 47 9 (.slice a l.length c)).run Try.prog w = .ok (.string (strOfNums (nats l))) w := by
  cases l with
  | nil =>
    cases a with
    | none => exact run_convert_bytes_nil w _ _ Try.underlying47 Try.underlying5 0 c _ Try.underlying9
    | some ad =>
      rw [run_convert_bytes_string w _ _ _ _ _ _ Try.underlying47 Try.underlying5 Try.underlying9]
      exact (run_bytesToString w ad 0 c [] (by simp [loadCells, loadCellsFrom])).trans (by simp [strOfNums, nats]; rfl)
  | cons x l0 =>
    generalize hl : x :: l0 = l at *
    have hpos : 0 < l.length := by rw [← hl]; simp
    obtain ⟨b, o, rfl, _, _, hc⟩ := h.ho (by simpa using hpos)
    refine run_convert_bytes_arg w _ _ Try.underlying47 Try.underlying5 b o l.length c (nats l) (by simp [nats]) (fun i hi => ?_) _ Try.underlying9
    rw [hc i (.int .u8 l[i]) (by simp [List.getElem?_eq_getElem hi])]
    simp [nats, List.getD, List.getElem?_eq_getElem hi]

/-! ### own rows of elements of several cells -/
def OwnF (w : World) (base : Nat) (e : TypeId) (size : Nat) (v : Value) (ls : List (List Value)) : Prop := w.ownsRow base e size v ls.length ls.flatten ∧ ∀ l ∈ ls, l.length = size
theorem flatten_len (size : Nat) (ls : List (List Value)) (h : ∀ l ∈ ls, l.length = size) : ls.flatten.length = ls.length * size := by
  induction ls with
  | nil => simp
  | cons a bs ih =>
    simp only [List.flatten_cons, List.length_append, List.length_cons, ih fun l hl => h l (List.mem_cons_of_mem _ hl), h a List.mem_cons_self]
    rw [Nat.add_mul]; omega
theorem flatten_get (size : Nat) (ls : List (List Value)) (h : ∀ l ∈ ls, l.length = size) (i : Nat) (l : List Value) (hi : ls[i]? = some l) (j : Nat) (hj : j < size) : ls.flatten[i * size + j]? = l[j]? := by
  induction ls generalizing i with
  | nil => cases hi
  | cons a bs ih =>
    have ha := h a List.mem_cons_self
    simp only [List.flatten_cons]
    cases i with
    | zero =>
      simp at hi; subst hi
      rw [List.getElem?_append_left (by omega)]
      simp
    | succ i =>
      rw [List.getElem?_append_right (by rw [ha, Nat.add_mul]; omega)]
      have : (i + 1) * size + j - a.length = i * size + j := by rw [ha, Nat.add_mul]; omega
      rw [this]
      exact ih (fun l hl => h l (List.mem_cons_of_mem _ hl)) i (by simpa using hi)
theorem OwnF.lt {w : World} {base : Nat} {e : TypeId} {size : Nat} {v : Value} {ls : List (List Value)} (h : OwnF w base e size v ls) {b : Nat} (hb : v.ownBlock = some b) : base ≤ b ∧ b < w.heap.size := World.ownsRow.lt h.1 b hb
theorem OwnF.keep {w w' : World} {base : Nat} {e : TypeId} {size : Nat} {v : Value} {ls : List (List Value)} (h : OwnF w base e size v ls) (hk : ∀ b, v.ownBlock = some b → w'.heap[b]? = w.heap[b]?) : OwnF w' base e size v ls := by
  obtain ⟨⟨h1, h2⟩, h6⟩ := h
  refine ⟨⟨h1, h2.imp id ?_⟩, h6⟩
  rintro ⟨g, cap, cur, rfl, h3, h4, h5⟩
  exact ⟨g, cap, cur, rfl, h3, (hk g rfl).trans h4, h5⟩
theorem OwnF.ext {w w' : World} {base : Nat} {e : TypeId} {size : Nat} {v : Value} {ls : List (List Value)} (h : OwnF w base e size v ls) (hb : Below w.heap.size w w') : OwnF w' base e size v ls :=
  h.keep fun b hv => hb.block b (h.lt hv).2
theorem OwnF.form {w : World} {base : Nat} {e : TypeId} {size : Nat} {v : Value} {ls : List (List Value)} (h : OwnF w base e size v ls) : ∃ a c, v = .slice a ls.length c := by
  rcases h.1.2 with ⟨rfl, h0⟩ | ⟨g, cap, cur, rfl, _⟩
  · exact ⟨_, 0, by rw [h0]⟩
  · exact ⟨_, _, rfl⟩
theorem OwnF.get {w : World} {base : Nat} {e : TypeId} {size : Nat} {a : Option Addr} {n c : Nat} {ls : List (List Value)} (h : OwnF w base e size (.slice a n c) ls) {i : Nat} {l : List Value} (hi : ls[i]? = some l) :
    ∃ g, a = some ⟨g, 0, none⟩ ∧ base ≤ g ∧ g < w.heap.size ∧ n ≤ c ∧ c ≤ maxLen ∧ ∀ j u, j < size → l[j]? = some u → w.cell? ⟨g, i * size + j, none⟩ = some u := by
  have hil := (List.getElem?_eq_some_iff.1 hi).1
  rcases h.1.2 with ⟨hv, h0⟩ | ⟨g, cap, cur, hv, hg, hh, hnc, hcm, hcs, htake⟩
  · omega
  · cases hv
    refine ⟨g, rfl, hg, (Array.getElem?_eq_some_iff.1 hh).1, hnc, hcm, fun j u hj hu => ?_⟩
    have h1 := flatten_get size ls h.2 i l hi j hj
    rw [hu, ← htake, List.getElem?_take] at h1
    split at h1
    · simp only [World.cell?, hh, Option.isSome_none, Bool.false_eq_true, if_false]
      simpa using h1
    · cases h1
structure GrewF (w w' : World) (base : Nat) (v v' : Value) (e : TypeId) (size : Nat) (ls : List (List Value)) : Prop where
  own : OwnF w' base e size v' ls
  below : Below base w w'
  rest : ∀ b, b < w.heap.size → v.ownBlock ≠ some b → w'.heap[b]? = w.heap[b]?
  place : v'.ownBlock = v.ownBlock ∨ ∃ g, v'.ownBlock = some g ∧ w.heap.size ≤ g
def TabF (P : Program) (t e : TypeId) (z : Value) (size bytes : Nat) : Prop := P.underlying t = some (.slice e) ∧ (P.info? e).map (fun i => (i.zero, i.size, i.bytes)) = some (some z, size, bytes)
theorem run_append_f1 {P : Program} {w : World} (t ty e : TypeId) {z : Value} {size bytes : Nat} (T : TabF P t e z size bytes) (hz : z.cells.size = size) (hsz : 0 < size) (hby : bytes ≤ 64) (base : Nat) (v : Value) (ls : List (List Value)) (hown : OwnF w base e size v ls) (hbase : base ≤ w.heap.size)
    (us : Array Value) (hus : us.size = size) (t' : TypeId) (hu : ∀ u ∈ us.toList, u.oneCell' = true) (hlen : ls.length + 1 ≤ 1000000000) :
    ∃ v' w', (Builtin.append_ #[t, t] ty #[v, .slice (some ⟨w.heap.size, 0, none⟩) 1 1]).run P (w.alloc (.cells us t')) = .ok v' w' ∧ GrewF w w' base v v' e size (ls ++ [us.toList]) := by
  obtain ⟨hT, hi0⟩ := T
  obtain ⟨i, hi, hiz, his, hib⟩ := info_parts hi0
  have hbb : (ls.length + 1) * bytes ≤ 140737488355328 := Nat.le_trans (Nat.mul_le_mul hlen hby) (by omega)
  obtain ⟨v', w', hr, h2, h3, _, h5⟩ := run_append_own_at (P := P) (w.alloc (.cells us t')) base t ty e i z size bytes hT hi hiz his hib hz hsz v ls.length ls.flatten (hown.ext (Ext.alloc w _).1).1 ⟨w.heap.size, 0, none⟩ 1 1 us.toList (by simp [hus]) (cells_all w us t') hu (by unfold maxLen; omega) hbb (by simp; omega)
  refine ⟨v', w', hr, ⟨⟨by simpa using h2, fun l hl => ?_⟩, ?_, fun b hb hn => ?_, h5.imp id fun h => ⟨_, h, by simp⟩⟩⟩
  · rcases List.mem_append.1 hl with hl | hl
    · exact hown.2 l hl
    · rw [List.mem_singleton] at hl; subst hl; simpa using hus
  · exact ((Below.refl _ _).alloc hbase _).grown h3 (by simp; omega) (fun k hk => (hown.lt hk).1)
  · exact (h3.block b (by simp; omega) (fun e => hn e.symm)).trans (Below.heap_alloc w _ b hb)
theorem wpList_append_f1 {P : Program} {w : World} {ops : Array Oper} {rest : List Oper} {o : Oper} {ac : Act} {Q : Exit → Act → World → Prop} (hgd : o.guard = none) (s x : Operand) (t e : TypeId) (ho : o.op = .call { callee := .builtin .append, args := #[s, x], argTypes := #[t, t] })
    {z : Value} {size bytes : Nat} (T : TabF P t e z size bytes) (hz : z.cells.size = size) (hsz : 0 < size) (hby : bytes ≤ 64) (base : Nat) (v : Value) (ls : List (List Value)) (hs : ac.eval s = v) (hown : OwnF w base e size v ls) (hbase : base ≤ w.heap.size)
    (us : Array Value) (hus : us.size = size) (t' : TypeId) (B : Nat) (hx : ac.eval x = .slice (some ⟨B, 0, none⟩) 1 1) (hB : w.heap.size = B) (hu : ∀ u ∈ us.toList, u.oneCell' = true) (hlen : ls.length + 1 ≤ 1000000000)
    (h : ∀ v' w', GrewF w w' base v v' e size (ls ++ [us.toList]) → wpList P ops Q rest (ac.put o.dst v') w') : wpList P ops Q (o :: rest) ac (w.alloc (.cells us t')) := by
  subst hB
  refine wpList_plain hgd fun _ hK => ?_
  obtain ⟨v', w', hr, h2⟩ := run_append_f1 t o.type e T hz hsz hby base v ls hown hbase us hus t' hu hlen
  unfold Oper.wp execOp
  simp only [ho, resolve, invoke, builtin, Sem.run_bind, Sem.run_pure, Result.andThen_ok, List.map_toArray, List.map_cons, List.map_nil, hs, hx, hr]
  exact hK _ _ (h v' w' h2)
end Go.Proofs.Ytbepohpppailnaa
