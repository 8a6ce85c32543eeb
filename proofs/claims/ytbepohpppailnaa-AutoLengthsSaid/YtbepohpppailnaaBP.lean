/- The base of all walks of this claim: expressions as trees, how they lie in memory, and what stays when new blocks come. Own rows of expressions: what append leaves. Own rows of expressions: what is written in place. -/
import Derived.Test.YtbepohpppailnaaMP
import Derived.WalkKit
import Derived.Outline
import Derived.Lib.Hide
import Derived.Deep.LoopGhost
import Derived.Handy
import Derived.Maps.AppendAt
import Derived.Laws.AppendOwnNone
import Derived.Lib.SliceRun
set_option linter.unusedSimpArgs false
set_option linter.unusedVariables false
namespace Go.Proofs.Ytbepohpppailnaa
open Go.RowKit

/-- the value of an expression: four cells -/
def rxv (r : Rx) (a : Option Addr) (c : Nat) : Value := .agg #[.int .i64 r.k, .int .u8 r.lo, .int .u8 r.hi, .slice a r.ks.length c]

/-- the four cells from an address on hold an expression -/
def rxAt (w : World) (b o : Nat) (r : Rx) (a : Option Addr) (c : Nat) : Prop :=
  w.cell? ⟨b, o, none⟩ = some (.int .i64 r.k) ∧ w.cell? ⟨b, o + 1, none⟩ = some (.int .u8 r.lo) ∧ w.cell? ⟨b, o + 2, none⟩ = some (.int .u8 r.hi) ∧ w.cell? ⟨b, o + 3, none⟩ = some (.slice a r.ks.length c)

/-- an expression lies in memory, in no block of A -/
inductive RxRep (w : World) (A : Nat → Prop) : Rx → Option Addr → Nat → Prop
  | mk {k : Int} {lo hi : Nat} {ks : List Rx} {a : Option Addr} {c : Nat} (fa : Nat → Option Addr) (fc : Nat → Nat)
      (hk : -9223372036854775808 ≤ k ∧ k ≤ 9223372036854775807) (hlo : lo < 256) (hhi : hi < 256)
      (hlen : ks.length ≤ c) (hcap : c ≤ 9223372036854775807) (hn : a = none → c = 0)
      (ho : 0 < ks.length → ∃ b o, a = some ⟨b, o, none⟩ ∧ ¬ A b ∧ ∀ i r, ks[i]? = some r → rxAt w b (o + i * 4) r (fa i) (fc i))
      (hks : ∀ i r, ks[i]? = some r → RxRep w A r (fa i) (fc i)) : RxRep w A (.mk k lo hi ks) a c

/-- a list of expressions behind a slice -/
structure RxsRep (w : World) (A : Nat → Prop) (ks : List Rx) (a : Option Addr) (c : Nat) (fa : Nat → Option Addr) (fc : Nat → Nat) : Prop where
  bd : ks.length ≤ c ∧ c ≤ 9223372036854775807
  nil : a = none → c = 0
  ho : 0 < ks.length → ∃ b o, a = some ⟨b, o, none⟩ ∧ ¬ A b ∧ ∀ i r, ks[i]? = some r → rxAt w b (o + i * 4) r (fa i) (fc i)
  hks : ∀ i r, ks[i]? = some r → RxRep w A r (fa i) (fc i)

theorem RxRep.kids {w : World} {A : Nat → Prop} {r : Rx} {a : Option Addr} {c : Nat} (h : RxRep w A r a c) :
    (-9223372036854775808 ≤ r.k ∧ r.k ≤ 9223372036854775807) ∧ r.lo < 256 ∧ r.hi < 256 ∧ ∃ fa fc, RxsRep w A r.ks a c fa fc := by
  cases h with
  | mk fa fc hk hlo hhi hlen hcap hn ho hks => exact ⟨hk, hlo, hhi, fa, fc, ⟨hlen, hcap⟩, hn, ho, hks⟩

theorem RxsRep.rx {w : World} {A : Nat → Prop} {k : Int} {lo hi : Nat} {ks : List Rx} {a : Option Addr} {c : Nat} {fa : Nat → Option Addr} {fc : Nat → Nat} (h : RxsRep w A ks a c fa fc)
    (hk : -9223372036854775808 ≤ k ∧ k ≤ 9223372036854775807) (hlo : lo < 256) (hhi : hi < 256) : RxRep w A (.mk k lo hi ks) a c :=
  .mk fa fc hk hlo hhi h.bd.1 h.bd.2 h.nil h.ho h.hks

/-- below an own new block -/
theorem ext_alloc {w wr : World} {o : Obj} (h : Below (w.heap.size + 1) (w.alloc o) wr) : Below w.heap.size w wr :=
  ((Below.refl _ _).alloc (Nat.le_refl _) o).trans (h.mono (by omega))
theorem ext_trans {w w1 w2 : World} (h : Below w.heap.size w w1) (h' : Below w1.heap.size w1 w2) : Below w.heap.size w w2 :=
  h.trans (h'.mono h.size)

theorem rxAt_keep {w w' : World} {b o : Nat} {r : Rx} {a : Option Addr} {c : Nat} (h : rxAt w b o r a c) (hs : w'.heap[b]? = w.heap[b]?) : rxAt w' b o r a c := by
  unfold rxAt at *
  simp only [World.cell?_of_block (w := w) (w' := w') (a := ⟨b, _, none⟩) hs]
  exact h
theorem rxAt_lt {w : World} {b o : Nat} {r : Rx} {a : Option Addr} {c : Nat} (h : rxAt w b o r a c) : b < w.heap.size := World.block_lt_of_cell? w _ h.1

theorem RxRep.keep {w w' : World} {A : Nat → Prop} {r : Rx} {a : Option Addr} {c : Nat} (h : RxRep w A r a c) (hs : ∀ b, b < w.heap.size → ¬ A b → w'.heap[b]? = w.heap[b]?) : RxRep w' A r a c := by
  induction h with
  | mk fa fc hk hlo hhi hlen hcap hn ho hks ih =>
    refine .mk fa fc hk hlo hhi hlen hcap hn (fun hp => ?_) (fun i r h => ih i r h)
    obtain ⟨b, o, h1, h2, h3⟩ := ho hp
    refine ⟨b, o, h1, h2, fun i r hi => ?_⟩
    have := h3 i r hi
    exact rxAt_keep this (hs b (rxAt_lt this) h2)
theorem RxRep.ext {w w' : World} {A : Nat → Prop} {r : Rx} {a : Option Addr} {c : Nat} (h : RxRep w A r a c) (hb : Below w.heap.size w w') : RxRep w' A r a c :=
  h.keep (fun b hb' _ => hb.block b hb')
/-- another set of blocks that it does not lie in -/
theorem RxRep.avoid {w : World} {A A' : Nat → Prop} {r : Rx} {a : Option Addr} {c : Nat} (h : RxRep w A r a c) (hs : ∀ b, b < w.heap.size → A' b → A b) : RxRep w A' r a c := by
  induction h with
  | mk fa fc hk hlo hhi hlen hcap hn ho hks ih =>
    refine .mk fa fc hk hlo hhi hlen hcap hn (fun hp => ?_) (fun i r h => ih i r h)
    obtain ⟨b, o, h1, h2, h3⟩ := ho hp
    refine ⟨b, o, h1, fun ha => ?_, h3⟩
    have hlt : b < w.heap.size := rxAt_lt (h3 0 _ (List.getElem?_eq_getElem hp))
    exact h2 (hs b hlt ha)
theorem RxsRep.keep {w w' : World} {A : Nat → Prop} {ks : List Rx} {a : Option Addr} {c : Nat} {fa : Nat → Option Addr} {fc : Nat → Nat} (h : RxsRep w A ks a c fa fc) (hs : ∀ b, b < w.heap.size → ¬ A b → w'.heap[b]? = w.heap[b]?) : RxsRep w' A ks a c fa fc := by
  refine ⟨h.bd, h.nil, fun hp => ?_, fun i r hi => (h.hks i r hi).keep hs⟩
  obtain ⟨b, o, h1, h2, h3⟩ := h.ho hp
  exact ⟨b, o, h1, h2, fun i r hi => rxAt_keep (h3 i r hi) (hs b (rxAt_lt (h3 i r hi)) h2)⟩
theorem RxsRep.ext {w w' : World} {A : Nat → Prop} {ks : List Rx} {a : Option Addr} {c : Nat} {fa : Nat → Option Addr} {fc : Nat → Nat} (h : RxsRep w A ks a c fa fc) (hb : Below w.heap.size w w') : RxsRep w' A ks a c fa fc :=
  h.keep (fun b hb' _ => hb.block b hb')
theorem RxsRep.avoid {w : World} {A A' : Nat → Prop} {ks : List Rx} {a : Option Addr} {c : Nat} {fa : Nat → Option Addr} {fc : Nat → Nat} (h : RxsRep w A ks a c fa fc) (hs : ∀ b, b < w.heap.size → A' b → A b) : RxsRep w A' ks a c fa fc := by
  refine ⟨h.bd, h.nil, fun hp => ?_, fun i r hi => (h.hks i r hi).avoid hs⟩
  obtain ⟨b, o, h1, h2, h3⟩ := h.ho hp
  refine ⟨b, o, h1, fun ha => h2 (hs b (rxAt_lt (h3 0 _ (List.getElem?_eq_getElem hp))) ha), h3⟩
/-- one element: its place, its cells, itself -/
theorem RxsRep.at {w : World} {A : Nat → Prop} {ks : List Rx} {a : Option Addr} {c : Nat} {fa : Nat → Option Addr} {fc : Nat → Nat} (h : RxsRep w A ks a c fa fc) {i : Nat} (hi : i < ks.length) :
    ∃ b o x, a = some ⟨b, o, none⟩ ∧ ¬ A b ∧ b < w.heap.size ∧ ks[i]? = some x ∧ rxAt w b (o + i * 4) x (fa i) (fc i) ∧ RxRep w A x (fa i) (fc i) := by
  obtain ⟨b, o, h1, h2, h3⟩ := h.ho (by omega)
  have hx : ks[i]? = some ks[i] := List.getElem?_eq_getElem hi
  exact ⟨b, o, ks[i], h1, h2, rxAt_lt (h3 i _ hx), hx, h3 i _ hx, h.hks i _ hx⟩

/-- below, and no draw is given back -/
def Ext (w w' : World) : Prop := Below w.heap.size w w' ∧ w.drawn ≤ w'.drawn
theorem Ext.refl (w : World) : Ext w w := ⟨Below.refl _ _, Nat.le_refl _⟩
theorem Ext.trans {w w1 w2 : World} (h : Ext w w1) (h' : Ext w1 w2) : Ext w w2 := ⟨ext_trans h.1 h'.1, Nat.le_trans h.2 h'.2⟩
theorem Ext.below {w w' : World} (h : Ext w w') : Below w.heap.size w w' := h.1
theorem Ext.alloc (w : World) (o : Obj) : Ext w (w.alloc o) := ⟨(Below.refl _ _).alloc (Nat.le_refl _) o, Nat.le_refl _⟩
theorem Ext.drew (w : World) : Ext w w.drew := ⟨(Below.refl _ _).drew, by show w.drawn ≤ w.drawn + 1; omega⟩

theorem Ext.cell {w w' : World} (h : Ext w w') {p : Addr} {v : Value} (hc : w.cell? p = some v) : w'.cell? p = some v := by
  rw [h.1.cell (World.block_lt_of_cell? w _ hc)]; exact hc
/-- the cells of an own box of four, later -/
theorem Ext.box4 {w w' : World} {v0 v1 v2 v3 : Value} {t : TypeId} (h : Ext (w.alloc (.cells #[v0, v1, v2, v3] t)) w') :
    w'.cell? ⟨w.heap.size, 0, none⟩ = some v0 ∧ w'.cell? ⟨w.heap.size, 1, none⟩ = some v1 ∧ w'.cell? ⟨w.heap.size, 2, none⟩ = some v2 ∧ w'.cell? ⟨w.heap.size, 3, none⟩ = some v3 :=
  ⟨h.cell (by go_side), h.cell (by go_side), h.cell (by go_side), h.cell (by go_side)⟩

theorem below_cell {B : Nat} {W w' : World} (h : Below B W w') {p : Addr} (hp : p.block < B) {v : Value} (hc : W.cell? p = some v) : w'.cell? p = some v := by rw [h.cell hp]; exact hc
theorem below_free {B : Nat} {W w' : World} (h : Below B W w') {p : Addr} (hp : p.block < B) (hc : W.frozen? p = false) : w'.frozen? p = false := by rw [h.frozen hp]; exact hc
/-- a box of four that was laid first, then another, later -/
theorem below_box4 {w w' : World} {v0 v1 v2 v3 : Value} {t : TypeId} {o : Obj} {B : Nat} (h : Below B ((w.alloc (.cells #[v0, v1, v2, v3] t)).alloc o) w') (hB : w.heap.size < B) :
    w'.cell? ⟨w.heap.size, 0, none⟩ = some v0 ∧ w'.cell? ⟨w.heap.size, 1, none⟩ = some v1 ∧ w'.cell? ⟨w.heap.size, 2, none⟩ = some v2 ∧ w'.cell? ⟨w.heap.size, 3, none⟩ = some v3 :=
  ⟨below_cell h hB (by go_side), below_cell h hB (by go_side), below_cell h hB (by go_side), below_cell h hB (by go_side)⟩
theorem below_box4' {w w' : World} {v0 v1 v2 v3 : Value} {t : TypeId} {o : Obj} {B : Nat} (h : Below B ((w.alloc o).alloc (.cells #[v0, v1, v2, v3] t)) w') (hB : w.heap.size + 1 < B) :
    (w'.cell? ⟨w.heap.size + 1, 0, none⟩ = some v0 ∧ w'.cell? ⟨w.heap.size + 1, 1, none⟩ = some v1 ∧ w'.cell? ⟨w.heap.size + 1, 2, none⟩ = some v2 ∧ w'.cell? ⟨w.heap.size + 1, 3, none⟩ = some v3) ∧
    w'.frozen? ⟨w.heap.size + 1, 0, none⟩ = false ∧ w'.frozen? ⟨w.heap.size + 1, 1, none⟩ = false ∧ w'.frozen? ⟨w.heap.size + 1, 2, none⟩ = false ∧ w'.frozen? ⟨w.heap.size + 1, 3, none⟩ = false :=
  ⟨⟨below_cell h hB (by go_side), below_cell h hB (by go_side), below_cell h hB (by go_side), below_cell h hB (by go_side)⟩,
    below_free h hB (by go_side), below_free h hB (by go_side), below_free h hB (by go_side), below_free h hB (by go_side)⟩

/-- the second and third of three boxes, later -/
theorem ext_box3 {w w' : World} {o1 o3 : Obj} {v0 v1 v2 v3 : Value} {t : TypeId} (h : Ext (((w.alloc o1).alloc (.cells #[v0, v1, v2, v3] t)).alloc o3) w') :
    (w'.cell? ⟨w.heap.size + 1, 0, none⟩ = some v0 ∧ w'.cell? ⟨w.heap.size + 1, 1, none⟩ = some v1 ∧ w'.cell? ⟨w.heap.size + 1, 2, none⟩ = some v2 ∧ w'.cell? ⟨w.heap.size + 1, 3, none⟩ = some v3) ∧
    w'.frozen? ⟨w.heap.size + 1, 0, none⟩ = false ∧ w'.frozen? ⟨w.heap.size + 1, 1, none⟩ = false ∧ w'.frozen? ⟨w.heap.size + 1, 2, none⟩ = false ∧ w'.frozen? ⟨w.heap.size + 1, 3, none⟩ = false :=
  have hB : w.heap.size + 1 < (((w.alloc o1).alloc (.cells #[v0, v1, v2, v3] t)).alloc o3).heap.size := by simp only [World.size_alloc]; omega
  ⟨⟨below_cell h.1 hB (by go_side), below_cell h.1 hB (by go_side), below_cell h.1 hB (by go_side), below_cell h.1 hB (by go_side)⟩,
    below_free h.1 hB (by go_side), below_free h.1 hB (by go_side), below_free h.1 hB (by go_side), below_free h.1 hB (by go_side)⟩
theorem ext_box3a {w w' : World} {o2 o3 : Obj} {v0 v1 v2 v3 : Value} {t : TypeId} (h : Ext (((w.alloc (.cells #[v0, v1, v2, v3] t)).alloc o2).alloc o3) w') :
    w'.cell? ⟨w.heap.size, 0, none⟩ = some v0 ∧ w'.cell? ⟨w.heap.size, 1, none⟩ = some v1 ∧ w'.cell? ⟨w.heap.size, 2, none⟩ = some v2 ∧ w'.cell? ⟨w.heap.size, 3, none⟩ = some v3 :=
  have hB : w.heap.size < (((w.alloc (.cells #[v0, v1, v2, v3] t)).alloc o2).alloc o3).heap.size := by simp only [World.size_alloc]; omega
  ⟨below_cell h.1 hB (by go_side), below_cell h.1 hB (by go_side), below_cell h.1 hB (by go_side), below_cell h.1 hB (by go_side)⟩
theorem ext_box3c {w w' : World} {o1 o2 : Obj} {v0 v1 v2 v3 : Value} {t : TypeId} (h : Ext (((w.alloc o1).alloc o2).alloc (.cells #[v0, v1, v2, v3] t)) w') :
    w'.cell? ⟨w.heap.size + 1 + 1, 0, none⟩ = some v0 ∧ w'.cell? ⟨w.heap.size + 1 + 1, 1, none⟩ = some v1 ∧ w'.cell? ⟨w.heap.size + 1 + 1, 2, none⟩ = some v2 ∧ w'.cell? ⟨w.heap.size + 1 + 1, 3, none⟩ = some v3 :=
  have hB : w.heap.size + 1 + 1 < (((w.alloc o1).alloc o2).alloc (.cells #[v0, v1, v2, v3] t)).heap.size := by simp only [World.size_alloc]; omega
  ⟨below_cell h.1 hB (by go_side), below_cell h.1 hB (by go_side), below_cell h.1 hB (by go_side), below_cell h.1 hB (by go_side)⟩

/-- four cells of a block written -/
def set4 (w : World) (b : Nat) (v0 v1 v2 v3 : Value) : World := (((w.setCell ⟨b, 0, none⟩ v0).setCell ⟨b, 1, none⟩ v1).setCell ⟨b, 2, none⟩ v2).setCell ⟨b, 3, none⟩ v3
theorem set4_other (w : World) (b : Nat) (v0 v1 v2 v3 : Value) (k : Nat) (h : k ≠ b) : (set4 w b v0 v1 v2 v3).heap[k]? = w.heap[k]? := by
  unfold set4
  rw [Below.heap_setCell _ _ _ _ h, Below.heap_setCell _ _ _ _ h, Below.heap_setCell _ _ _ _ h, Below.heap_setCell _ _ _ _ h]
theorem set4_below {B : Nat} {a w : World} (h : Below B a w) {b : Nat} (hb : B ≤ b) (v0 v1 v2 v3 : Value) : Below B a (set4 w b v0 v1 v2 v3) :=
  (((h.setCell hb _).setCell hb _).setCell hb _).setCell hb _

theorem ret_i64 {a b : Int} (h : a = b) : Ending.returned (.int .i64 a) = .returned (.int .i64 b) := by rw [h]
theorem ret_bool {a b : Bool} (h : a = b) : Ending.returned (.bool a) = .returned (.bool b) := by rw [h]
end Go.Proofs.Ytbepohpppailnaa
namespace Go.Proofs.Ytbepohpppailnaa
open Go.RowKit

/-- an expression with the place of its kids -/
structure Pl where
  r : Rx
  a : Option Addr
  c : Nat
def pcells (p : Pl) : List Value := [.int .i64 p.r.k, .int .u8 p.r.lo, .int .u8 p.r.hi, .slice p.a p.r.ks.length p.c]
/-- the slice value v owns a row (from block 'base' on) that holds the placed expressions; they lie in no block of A, nor in that row -/
def OwnRx (w : World) (A : Nat → Prop) (base : Nat) (e : TypeId) (v : Value) (l : List Pl) : Prop :=
  w.ownsRow base e 4 v l.length (l.flatMap pcells) ∧ ∀ p ∈ l, RxRep w (fun b => A b ∨ v.ownBlock = some b) p.r p.a p.c

theorem below_grown {w w' : World} (h : Below w.heap.size w w') : w.grownBy w' none := ⟨h.os, h.tape, h.output, h.size, fun k hk _ => h.block k hk⟩
theorem flatMap_pcells_length (l : List Pl) : (l.flatMap pcells).length = l.length * 4 := by
  induction l with
  | nil => rfl
  | cons a l ih => simp only [List.flatMap_cons, List.length_append, ih, pcells, List.length_cons, List.length_nil]; omega
theorem flatMap_pcells_get (l : List Pl) (i : Nat) (p : Pl) (h : l[i]? = some p) (j : Nat) (hj : j < 4) : (l.flatMap pcells)[i * 4 + j]? = (pcells p)[j]? := by
  induction l generalizing i with
  | nil => cases h
  | cons a l ih =>
    simp only [List.flatMap_cons]
    cases i with
    | zero =>
      simp at h; subst h
      rw [List.getElem?_append_left (by simp [pcells]; omega)]
      simp
    | succ i =>
      rw [List.getElem?_append_right (by simp [pcells]; omega)]
      have : (i + 1) * 4 + j - (pcells a).length = i * 4 + j := by simp [pcells]; omega
      rw [this]
      exact ih i (by simpa using h)

theorem OwnRx.nil (w : World) (A : Nat → Prop) (base : Nat) (e : TypeId) : OwnRx w A base e (.slice none 0 0) [] := ⟨World.ownsRow_nil _ _ _ _, by intro p hp; cases hp⟩
theorem OwnRx.ext {w w' : World} {A : Nat → Prop} {base : Nat} {e : TypeId} {v : Value} {l : List Pl} (h : OwnRx w A base e v l) (hb : Below w.heap.size w w') : OwnRx w' A base e v l :=
  ⟨h.1.kept (below_grown hb) (by cases v.ownBlock <;> simp), fun p hp => (h.2 p hp).ext hb⟩
theorem OwnRx.form {w : World} {A : Nat → Prop} {base : Nat} {e : TypeId} {v : Value} {l : List Pl} (h : OwnRx w A base e v l) : ∃ a c, v = .slice a l.length c := by
  rcases h.1.2 with ⟨rfl, h0⟩ | ⟨g, cap, cur, rfl, _⟩
  · exact ⟨none, 0, by rw [h0]⟩
  · exact ⟨_, _, rfl⟩
/-- what is owned, read as a list behind a slice -/
theorem OwnRx.rep {w : World} {A : Nat → Prop} {base : Nat} {e : TypeId} {a : Option Addr} {n c : Nat} {l : List Pl} (h : OwnRx w A base e (.slice a n c) l) (hA : ∀ b, base ≤ b → ¬ A b) :
    RxsRep w A (l.map Pl.r) a c (fun i => (l[i]?).elim none Pl.a) (fun i => (l[i]?).elim 0 Pl.c) := by
  have hel : ∀ (i : Nat) (r : Rx), (l.map Pl.r)[i]? = some r → ∃ p : Pl, l[i]? = some p ∧ p.r = r := by
    intro i r hi
    rw [List.getElem?_map] at hi
    cases hp : l[i]? with
    | none => rw [hp] at hi; cases hi
    | some p => rw [hp] at hi; exact ⟨p, rfl, by simpa using hi⟩
  have hks : ∀ (i : Nat) (r : Rx), (l.map Pl.r)[i]? = some r → RxRep w A r ((l[i]?).elim none Pl.a) ((l[i]?).elim 0 Pl.c) := by
    intro i r hi
    obtain ⟨p, hp, rfl⟩ := hel i r hi
    rw [hp]
    exact (h.2 p (List.mem_of_getElem? hp)).avoid fun b _ hb => .inl hb
  rcases h.1.2 with ⟨hv, h0⟩ | ⟨g, cap, cur, hv, hg, hh, hnc, hcm, hcs, htake⟩
  · cases hv
    have hl : l = [] := List.length_eq_zero_iff.1 h0
    subst hl
    exact ⟨⟨by simp, by simp⟩, fun _ => rfl, fun hp => absurd hp (by simp), hks⟩
  · cases hv
    refine ⟨⟨by simpa using hnc, by simpa [maxLen] using hcm⟩, fun h => by simp at h, fun hp => ⟨g, 0, rfl, hA g hg, fun i r hi => ?_⟩, hks⟩
    obtain ⟨p, hp, rfl⟩ := hel i r hi
    rw [hp]
    have hcell : ∀ j, j < 4 → w.cell? ⟨g, 0 + i * 4 + j, none⟩ = (pcells p)[j]? := by
      intro j hj
      have h1 := flatMap_pcells_get l i p hp j hj
      rw [← htake, List.getElem?_take, if_pos (by have := (List.getElem?_eq_some_iff.1 hp).1; omega)] at h1
      rw [← h1]
      simp only [World.cell?, hh, Option.isSome_none, Bool.false_eq_true, if_false, Nat.zero_add, Array.getElem?_toList]
    exact ⟨hcell 0 (by omega), hcell 1 (by omega), hcell 2 (by omega), hcell 3 (by omega)⟩

/-- the placed expressions behind a slice -/
def pls (ks : List Rx) (fa : Nat → Option Addr) (fc : Nat → Nat) : List Pl := ks.mapIdx fun i r => ⟨r, fa i, fc i⟩
theorem pls_length (ks : List Rx) (fa : Nat → Option Addr) (fc : Nat → Nat) : (pls ks fa fc).length = ks.length := by simp [pls]
theorem pls_get (ks : List Rx) (fa : Nat → Option Addr) (fc : Nat → Nat) (i : Nat) : (pls ks fa fc)[i]? = (ks[i]?).map fun r => ⟨r, fa i, fc i⟩ := by simp [pls]
theorem pls_map (ks : List Rx) (fa : Nat → Option Addr) (fc : Nat → Nat) : (pls ks fa fc).map Pl.r = ks := by
  apply List.ext_getElem?
  intro i
  rw [List.getElem?_map, pls_get]
  cases ks[i]? <;> simp

/-- what is asked of the program's tables at the expressions' slice -/
def Tab (P : Program) (t e : TypeId) : Prop := P.underlying t = some (.slice e) ∧
  (P.info? e).map (fun i => (i.zero, i.size, i.bytes)) = some (some (.agg #[.int .i64 0, .int .u8 0, .int .u8 0, .slice none 0 0]), 4, 40)

theorem run_append_rx2 {P : Program} {w : World} (t ty e : TypeId) (T : Tab P t e) (A : Nat → Prop) (base : Nat) (v : Value) (l : List Pl) (hown : OwnRx w A base e v l) (hbase : base ≤ w.heap.size)
    (ks : List Rx) (a : Option Addr) (c : Nat) (fa : Nat → Option Addr) (fc : Nat → Nat) (hs : RxsRep w (fun b => A b ∨ v.ownBlock = some b) ks a c fa fc) (hlen : l.length + ks.length ≤ 1000000000) (hA : ∀ b, A b → b < w.heap.size) :
    ∃ g cap w', (Builtin.append_ #[t, t] ty #[v, .slice a ks.length c]).run P w = .ok (.slice g (l.length + ks.length) cap) w' ∧ OwnRx w' A base e (.slice g (l.length + ks.length) cap) (l ++ pls ks fa fc) ∧ Below base w w' ∧ ∀ b, b < w.heap.size → v.ownBlock ≠ some b → w'.heap[b]? = w.heap[b]? := by
  obtain ⟨i, hi, hz, hsz, hby⟩ := info_parts T.2
  have fin : ∀ v' w', w'.ownsRow base e 4 v' (l.length + ks.length) (l.flatMap pcells ++ (pls ks fa fc).flatMap pcells) → w.grownBy w' v.ownBlock → (v'.ownBlock = v.ownBlock ∨ v'.ownBlock = some w.heap.size) →
      ∃ g cap, v' = .slice g (l.length + ks.length) cap ∧ OwnRx w' A base e (.slice g (l.length + ks.length) cap) (l ++ pls ks fa fc) ∧ Below base w w' ∧ ∀ b, b < w.heap.size → v.ownBlock ≠ some b → w'.heap[b]? = w.heap[b]? := by
    intro v' w' h1 h2 h3
    have hf : ∃ g cap, v' = .slice g (l.length + ks.length) cap := by
      rcases h1.2 with ⟨rfl, h0⟩ | ⟨g, cap, cur, rfl, _⟩
      · exact ⟨none, 0, by rw [h0]⟩
      · exact ⟨_, _, rfl⟩
    obtain ⟨g, cap, rfl⟩ := hf
    have hbel : Below base w w' := (Below.refl _ _).grown h2 hbase (fun k hk => (hown.1.lt k hk).1)
    refine ⟨g, cap, rfl, ⟨by simpa [pls_length] using h1, fun p hp => ?_⟩, hbel, fun b hb hn => h2.block b hb (fun e => hn e.symm)⟩
    have hpw : RxRep w (fun b => A b ∨ v.ownBlock = some b) p.r p.a p.c := by
      rcases List.mem_append.1 hp with hp | hp
      · exact hown.2 p hp
      · obtain ⟨j, hj⟩ := List.getElem?_of_mem hp
        rw [pls_get] at hj
        cases hk : ks[j]? with
        | none => rw [hk] at hj; cases hj
        | some r =>
          rw [hk] at hj
          simp at hj
          subst hj
          exact hs.hks j r hk
    have hp2 : RxRep w (fun b => (A b ∨ Value.ownBlock (.slice g (l.length + ks.length) cap) = some b) ∨ v.ownBlock = some b) p.r p.a p.c := hpw.avoid (fun b hb hh => by
      rcases hh with (hh | hh) | hh
      · exact .inl hh
      · rcases h3 with h3 | h3
        · rw [h3] at hh; exact .inr hh
        · rw [h3] at hh; cases hh; omega
      · exact .inr hh)
    exact (hp2.keep (fun b hb hn => h2.block b hb (fun e => hn (.inr e.symm)))).avoid (fun b _ hh => .inl hh)
  have hnews : ∀ (ad : Addr), a = some ad → ∀ j u, ((pls ks fa fc).flatMap pcells)[j]? = some u → w.cell? (ad.add j) = some u := by
    intro ad ha j u hj
    have hjl := (List.getElem?_eq_some_iff.1 hj).1
    rw [flatMap_pcells_length, pls_length] at hjl
    obtain ⟨b, o, h1, _, h3⟩ := hs.ho (by omega)
    rw [ha] at h1
    cases h1
    have hjj : j = (j / 4) * 4 + j % 4 := by omega
    have hlt : j / 4 < ks.length := by omega
    have hr : ks[j / 4]? = some ks[j / 4] := List.getElem?_eq_getElem hlt
    have hp : (pls ks fa fc)[j / 4]? = some ⟨ks[j / 4], fa (j / 4), fc (j / 4)⟩ := by rw [pls_get, hr]; rfl
    have hg := flatMap_pcells_get (pls ks fa fc) (j / 4) _ hp (j % 4) (by omega)
    rw [← hjj, hj] at hg
    have hat := h3 (j / 4) _ hr
    obtain ⟨c0, c1, c2, c3⟩ := hat
    have hadd : (⟨b, o, none⟩ : Addr).add j = ⟨b, o + j / 4 * 4 + j % 4, none⟩ := by
      rw [Addr.add_lit]; congr 1; omega
    rw [hadd]
    have h4 : j % 4 = 0 ∨ j % 4 = 1 ∨ j % 4 = 2 ∨ j % 4 = 3 := by omega
    rcases h4 with h4 | h4 | h4 | h4 <;> rw [h4] at hg ⊢ <;> simp [pcells] at hg <;> subst hg <;> assumption
  have hone : ∀ u ∈ (pls ks fa fc).flatMap pcells, u.oneCell' = true := by
    intro u hu
    rw [List.mem_flatMap] at hu
    obtain ⟨p, _, hu⟩ := hu
    simp [pcells] at hu
    rcases hu with rfl | rfl | rfl | rfl <;> rfl
  cases a with
  | none =>
    have hc := hs.nil rfl
    have hk0 : ks.length = 0 := by have := hs.bd.1; omega
    have hks : ks = [] := List.length_eq_zero_iff.1 hk0
    subst hc hks
    have hrun := run_append_owned_none (P := P) (w := w) base t ty e i 4 T.1 hi v l.length (l.flatMap pcells) hown.1
    obtain ⟨g, cap, hv⟩ := hown.form
    subst hv
    refine ⟨g, cap, w, hrun, ?_, Below.refl _ _, fun _ _ _ => rfl⟩
    simpa [pls] using hown
  | some ad =>
    obtain ⟨v', w', hr, h2, h3, _, h5⟩ := run_append_own_at (P := P) w base t ty e i _ 4 40 T.1 hi hz hsz hby rfl (by omega) v l.length (l.flatMap pcells) hown.1 ad ks.length c ((pls ks fa fc).flatMap pcells) (by rw [flatMap_pcells_length, pls_length]) (hnews ad rfl) hone (by unfold maxLen; omega) (by omega) hbase
    obtain ⟨g, cap, rfl, h6, h7⟩ := fin v' w' h2 h3 h5
    exact ⟨g, cap, w', hr, h6, h7⟩

theorem run_append_rx {P : Program} {w : World} (t ty e : TypeId) (T : Tab P t e) (A : Nat → Prop) (base : Nat) (v : Value) (l : List Pl) (hown : OwnRx w A base e v l) (hbase : base ≤ w.heap.size)
    (ks : List Rx) (a : Option Addr) (c : Nat) (fa : Nat → Option Addr) (fc : Nat → Nat) (hs : RxsRep w (fun b => A b ∨ v.ownBlock = some b) ks a c fa fc) (hlen : l.length + ks.length ≤ 1000000000) (hA : ∀ b, A b → b < w.heap.size) :
    ∃ g cap w', (Builtin.append_ #[t, t] ty #[v, .slice a ks.length c]).run P w = .ok (.slice g (l.length + ks.length) cap) w' ∧ OwnRx w' A base e (.slice g (l.length + ks.length) cap) (l ++ pls ks fa fc) ∧ Below base w w' := by
  obtain ⟨g, cap, w', h1, h2, h3, _⟩ := run_append_rx2 t ty e T A base v l hown hbase ks a c fa fc hs hlen hA
  exact ⟨g, cap, w', h1, h2, h3⟩
theorem wp_append_rx {P : Program} {w : World} {o : Oper} {ac : Act} {K : Act → World → Prop} {Q : Exit → Act → World → Prop} (s x : Operand) (t e : TypeId) (ho : o.op = .call { callee := .builtin .append, args := #[s, x], argTypes := #[t, t] })
    (T : Tab P t e) (A : Nat → Prop) (base : Nat) (v : Value) (l : List Pl) (hs : ac.eval s = v) (hown : OwnRx w A base e v l) (hbase : base ≤ w.heap.size)
    (ks : List Rx) (a : Option Addr) (c : Nat) (fa : Nat → Option Addr) (fc : Nat → Nat) (hx : ac.eval x = .slice a ks.length c) (hsr : RxsRep w (fun b => A b ∨ v.ownBlock = some b) ks a c fa fc) (hlen : l.length + ks.length ≤ 1000000000) (hA : ∀ b, A b → b < w.heap.size)
    (h : ∀ g cap w', OwnRx w' A base e (.slice g (l.length + ks.length) cap) (l ++ pls ks fa fc) → Below base w w' → K (ac.put o.dst (.slice g (l.length + ks.length) cap)) w') : o.wp P ac w K Q := by
  obtain ⟨g, cap, w', hr, h1, h2⟩ := run_append_rx t o.type e T A base v l hown hbase ks a c fa fc hsr hlen hA
  unfold Oper.wp execOp
  simp only [ho, resolve, invoke, builtin, Sem.run_bind, Sem.run_pure, Result.andThen_ok, List.map_toArray, List.map_cons, List.map_nil, hs, hx, hr]
  exact h g cap w' h1 h2
theorem wpList_append_rx {P : Program} {w : World} {ops : Array Oper} {rest : List Oper} {o : Oper} {ac : Act} {Q : Exit → Act → World → Prop} (hgd : o.guard = none) (s x : Operand) (t e : TypeId) (ho : o.op = .call { callee := .builtin .append, args := #[s, x], argTypes := #[t, t] })
    (T : Tab P t e) (A : Nat → Prop) (base : Nat) (v : Value) (l : List Pl) (hs : ac.eval s = v) (hown : OwnRx w A base e v l) (hbase : base ≤ w.heap.size)
    (ks : List Rx) (a : Option Addr) (c : Nat) (fa : Nat → Option Addr) (fc : Nat → Nat) (hx : ac.eval x = .slice a ks.length c) (hsr : RxsRep w (fun b => A b ∨ v.ownBlock = some b) ks a c fa fc) (hlen : l.length + ks.length ≤ 1000000000) (hA : ∀ b, A b → b < w.heap.size)
    (h : ∀ g cap w', OwnRx w' A base e (.slice g (l.length + ks.length) cap) (l ++ pls ks fa fc) → Below base w w' → wpList P ops Q rest (ac.put o.dst (.slice g (l.length + ks.length) cap)) w') : wpList P ops Q (o :: rest) ac w :=
  wpList_plain hgd fun _ hK => wp_append_rx s x t e ho T A base v l hs hown hbase ks a c fa fc hx hsr hlen hA fun g cap w' h1 h2 => hK _ _ (h g cap w' h1 h2)
/-- from a world to a later one, nothing that is new is in the way -/
theorem RxRep.old {w : World} {A : Nat → Prop} {r : Rx} {a : Option Addr} {c : Nat} (h : RxRep w A r a c) : RxRep w (fun b => A b ∨ w.heap.size ≤ b) r a c :=
  h.avoid (fun b hb hh => hh.resolve_right (by omega))
theorem step_append_rx {P : Program} {w : World} {ops : Array Oper} {o : Oper} {ac : Act} {K : Act → World → Prop} {Q : Exit → Act → World → Prop} {E : Prop} (hgd : o.guard = none) (s x : Operand) (t e : TypeId) (ho : o.op = .call { callee := .builtin .append, args := #[s, x], argTypes := #[t, t] })
    (T : Tab P t e) (A : Nat → Prop) (base : Nat) (v : Value) (l : List Pl) (hs : ac.eval s = v) (hown : OwnRx w A base e v l) (hbase : base ≤ w.heap.size)
    (ks : List Rx) (a : Option Addr) (c : Nat) (fa : Nat → Option Addr) (fc : Nat → Nat) (hx : ac.eval x = .slice a ks.length c) (hsr : RxsRep w (fun b => A b ∨ v.ownBlock = some b) ks a c fa fc) (hlen : l.length + ks.length ≤ 1000000000) (hA : ∀ b, A b → b < w.heap.size)
    (h : ∀ g cap w', OwnRx w' A base e (.slice g (l.length + ks.length) cap) (l ++ pls ks fa fc) → Below base w w' → K (ac.put o.dst (.slice g (l.length + ks.length) cap)) w') :
    if Region.wanted o (yielded ops ac.tmps) = true then Oper.wp P o ac w K Q else E := by
  have hw : Region.wanted o (yielded ops ac.tmps) = true := by simp [Region.wanted, hgd]
  rw [if_pos hw]
  exact wp_append_rx s x t e ho T A base v l hs hown hbase ks a c fa fc hx hsr hlen hA h
/-- append, and what stays: every block but the row's own -/
theorem step_append_rx2 {P : Program} {w : World} {ops : Array Oper} {o : Oper} {ac : Act} {K : Act → World → Prop} {Q : Exit → Act → World → Prop} {E : Prop} (hgd : o.guard = none) (s x : Operand) (t e : TypeId) (ho : o.op = .call { callee := .builtin .append, args := #[s, x], argTypes := #[t, t] })
    (T : Tab P t e) (A : Nat → Prop) (base : Nat) (v : Value) (l : List Pl) (hs : ac.eval s = v) (hown : OwnRx w A base e v l) (hbase : base ≤ w.heap.size)
    (ks : List Rx) (a : Option Addr) (c : Nat) (fa : Nat → Option Addr) (fc : Nat → Nat) (hx : ac.eval x = .slice a ks.length c) (hsr : RxsRep w (fun b => A b ∨ v.ownBlock = some b) ks a c fa fc) (hlen : l.length + ks.length ≤ 1000000000) (hA : ∀ b, A b → b < w.heap.size)
    (h : ∀ g cap w', OwnRx w' A base e (.slice g (l.length + ks.length) cap) (l ++ pls ks fa fc) → Below base w w' → (∀ b, b < w.heap.size → v.ownBlock ≠ some b → w'.heap[b]? = w.heap[b]?) → K (ac.put o.dst (.slice g (l.length + ks.length) cap)) w') :
    if Region.wanted o (yielded ops ac.tmps) = true then Oper.wp P o ac w K Q else E := by
  have hw : Region.wanted o (yielded ops ac.tmps) = true := by simp [Region.wanted, hgd]
  rw [if_pos hw]
  obtain ⟨g, cap, w', hr, h1, h2, h3⟩ := run_append_rx2 t o.type e T A base v l hown hbase ks a c fa fc hsr hlen hA
  unfold Oper.wp execOp
  simp only [ho, resolve, invoke, builtin, Sem.run_bind, Sem.run_pure, Result.andThen_ok, List.map_toArray, List.map_cons, List.map_nil, hs, hx, hr]
  exact h g cap w' h1 h2 h3
/-- a literal of one element: its block is an own row -/
theorem OwnRx.box {w : World} {A : Nat → Prop} {base : Nat} {p : Pl} {e : TypeId} (hb : base ≤ w.heap.size) (hp : RxRep w A p.r p.a p.c) :
    OwnRx (w.alloc (.cells (pcells p).toArray e)) A base e (.slice (some ⟨w.heap.size, 0, none⟩) 1 1) [p] := by
  refine ⟨⟨rfl, .inr ⟨w.heap.size, 1, _, rfl, hb, heap_alloc_new w _, Nat.le_refl _, by unfold maxLen; omega, rfl, rfl⟩⟩, fun q hq => ?_⟩
  rw [List.mem_singleton] at hq
  subst hq
  refine ((hp.old).ext (Ext.alloc w _).1).avoid fun b _ hh => hh.imp id (fun e => ?_)
  simp [Value.ownBlock] at e
  omega
theorem RxsRep.one {w : World} {A : Nat → Prop} {B : Nat} {r : Rx} {a : Option Addr} {c : Nat} (h : rxAt w B 0 r a c) (hr : RxRep w A r a c) (hA : ¬ A B) : RxsRep w A [r] (some ⟨B, 0, none⟩) 1 (fun _ => a) (fun _ => c) := by
  refine ⟨⟨by simp, by omega⟩, fun h => by simp at h, fun _ => ⟨B, 0, rfl, hA, fun i x hi => ?_⟩, fun i x hi => ?_⟩
  · cases i with
    | zero => simp at hi; subst hi; simpa using h
    | succ i => simp at hi
  · cases i with
    | zero => simp at hi; subst hi; exact hr
    | succ i => simp at hi
theorem rxAt_box (w : World) (r : Rx) (a : Option Addr) (c : Nat) (t : TypeId) : rxAt (w.alloc (.cells #[.int .i64 r.k, .int .u8 r.lo, .int .u8 r.hi, .slice a r.ks.length c] t)) w.heap.size 0 r a c :=
  ⟨by go_side, by go_side, by go_side, by go_side⟩
theorem pls_one (r : Rx) (a : Option Addr) (c : Nat) : pls [r] (fun _ => a) (fun _ => c) = [⟨r, a, c⟩] := rfl
end Go.Proofs.Ytbepohpppailnaa
namespace Go.Proofs.Ytbepohpppailnaa
open Go.RowKit

/-- four cells from an address on written -/
def setAt4 (w : World) (g o : Nat) (p : Pl) : World :=
  (((w.setCell ⟨g, o, none⟩ (.int .i64 p.r.k)).setCell ⟨g, o + 1, none⟩ (.int .u8 p.r.lo)).setCell ⟨g, o + 2, none⟩ (.int .u8 p.r.hi)).setCell ⟨g, o + 3, none⟩ (.slice p.a p.r.ks.length p.c)

theorem flatMap_set (l : List Pl) (i : Nat) (p : Pl) (h : i < l.length) :
    ((((l.flatMap pcells).set (i * 4) (.int .i64 p.r.k)).set (i * 4 + 1) (.int .u8 p.r.lo)).set (i * 4 + 2) (.int .u8 p.r.hi)).set (i * 4 + 3) (.slice p.a p.r.ks.length p.c) = (l.set i p).flatMap pcells := by
  apply List.ext_getElem?
  intro j
  have hL := flatMap_pcells_length l
  by_cases hj : j < l.length * 4
  · have hjj : j = j / 4 * 4 + j % 4 := by omega
    have hlt : j / 4 < l.length := by omega
    have hq : (l.set i p)[j / 4]? = some (if j / 4 = i then p else l[j / 4]) := by
      rw [List.getElem?_set]
      by_cases e : i = j / 4
      · rw [if_pos e, if_pos (by omega), if_pos e.symm]
      · rw [if_neg e, if_neg (fun x => e x.symm)]; exact List.getElem?_eq_getElem hlt
    have h1 := flatMap_pcells_get (l.set i p) (j / 4) _ hq (j % 4) (by omega)
    rw [← hjj] at h1
    rw [h1]
    have h2 := flatMap_pcells_get l (j / 4) _ (List.getElem?_eq_getElem hlt) (j % 4) (by omega)
    rw [← hjj] at h2
    by_cases e : j / 4 = i
    · rw [if_pos e]
      have h4 : j % 4 = 0 ∨ j % 4 = 1 ∨ j % 4 = 2 ∨ j % 4 = 3 := by omega
      rcases h4 with h4 | h4 | h4 | h4
      · have : j = i * 4 := by omega
        subst this
        simp [List.getElem?_set, pcells, hL, hj, h4]
      · have : j = i * 4 + 1 := by omega
        subst this
        simp [List.getElem?_set, pcells, hL, hj, h4]
      · have : j = i * 4 + 2 := by omega
        subst this
        simp [List.getElem?_set, pcells, hL, hj, h4]
      · have : j = i * 4 + 3 := by omega
        subst this
        simp [List.getElem?_set, pcells, hL, hj, h4]
    · rw [if_neg e, ← h2]
      rw [List.getElem?_set_ne (by omega), List.getElem?_set_ne (by omega), List.getElem?_set_ne (by omega), List.getElem?_set_ne (by omega)]
  · rw [List.getElem?_eq_none (by simp [hL]; omega), List.getElem?_eq_none (by rw [flatMap_pcells_length, List.length_set]; omega)]

theorem OwnRx.stored {w : World} {A : Nat → Prop} {base : Nat} {e : TypeId} {g n cap : Nat} {l : List Pl} (h : OwnRx w A base e (.slice (some ⟨g, 0, none⟩) n cap) l) (hn : n = l.length) (i : Nat) (hi : i < l.length) (p : Pl)
    (hp : RxRep w (fun b => A b ∨ g = b) p.r p.a p.c) :
    OwnRx (setAt4 w g (i * 4) p) A base e (.slice (some ⟨g, 0, none⟩) n cap) (l.set i p) ∧ Below base w (setAt4 w g (i * 4) p) := by
  subst hn
  have hlt := h.1.lt g rfl
  have h1 := (h.1.stored (i * 4) (.int .i64 p.r.k)).1
  have h2 := (h1.stored (i * 4 + 1) (.int .u8 p.r.lo)).1
  have h3 := (h2.stored (i * 4 + 2) (.int .u8 p.r.hi)).1
  have h4 := (h3.stored (i * 4 + 3) (.slice p.a p.r.ks.length p.c)).1
  rw [flatMap_set l i p hi] at h4
  have hot : ∀ k, k ≠ g → (setAt4 w g (i * 4) p).heap[k]? = w.heap[k]? := by
    intro k hk
    unfold setAt4
    rw [Below.heap_setCell _ _ _ _ hk, Below.heap_setCell _ _ _ _ hk, Below.heap_setCell _ _ _ _ hk, Below.heap_setCell _ _ _ _ hk]
  refine ⟨⟨by rw [List.length_set]; exact h4, fun q hq => ?_⟩, (((((Below.refl _ _).setCell hlt.1 _).setCell hlt.1 _).setCell hlt.1 _).setCell hlt.1 _)⟩
  have hw : RxRep w (fun b => A b ∨ Value.ownBlock (.slice (some ⟨g, 0, none⟩) l.length cap) = some b) q.r q.a q.c := by
    rcases List.mem_or_eq_of_mem_set hq with hq | hq
    · exact h.2 q hq
    · subst hq
      exact hp.avoid (fun b _ hh => hh.imp id (fun e => by simpa [Value.ownBlock] using e))
  exact hw.keep (fun b _ hn => hot b (fun e => hn (.inr (by simp [Value.ownBlock, e]))))

theorem OwnRx.shorten {w : World} {A : Nat → Prop} {base : Nat} {e : TypeId} {a : Option Addr} {n cap : Nat} {l : List Pl} (h : OwnRx w A base e (.slice a n cap) l) (hn : n = l.length) (i : Nat) (hi : i ≤ l.length) :
    OwnRx w A base e (.slice a i cap) (l.take i) := by
  subst hn
  have hob : Value.ownBlock (.slice a i cap) = Value.ownBlock (.slice a l.length cap) := by cases a <;> rfl
  refine ⟨⟨by rw [flatMap_pcells_length], ?_⟩, fun p hp => by rw [hob]; exact h.2 p (List.mem_of_mem_take hp)⟩
  have hlen : (l.take i).length = i := by simp; omega
  rcases h.1.2 with ⟨hv, h0⟩ | ⟨g, cap', cur, hv, hg, hh, hnc, hcm, hcs, htake⟩
  · simp only [Value.slice.injEq] at hv
    obtain ⟨rfl, _, rfl⟩ := hv
    have : i = 0 := by omega
    subst this
    exact .inl ⟨rfl, by simp⟩
  · cases hv
    refine .inr ⟨g, cap, cur, by rw [hlen], hg, hh, by omega, hcm, hcs, ?_⟩
    have : l.flatMap pcells = (l.take i).flatMap pcells ++ (l.drop i).flatMap pcells := by rw [← List.flatMap_append, List.take_append_drop]
    rw [hlen]
    have h2 : cur.toList.take (i * 4) = (cur.toList.take (l.length * 4)).take (i * 4) := by rw [List.take_take]; congr 1; omega
    rw [h2, htake, this]
    rw [List.take_append_of_le_length (by rw [flatMap_pcells_length, hlen]; omega)]
    rw [List.take_of_length_le (by rw [flatMap_pcells_length, hlen]; omega)]

/-- one element of an own row: its cells, that they may be written -/
theorem OwnRx.cells {w : World} {A : Nat → Prop} {base : Nat} {e : TypeId} {g n cap : Nat} {l : List Pl} (h : OwnRx w A base e (.slice (some ⟨g, 0, none⟩) n cap) l) (i : Nat) (p : Pl) (hi : l[i]? = some p) :
    rxAt w g (i * 4) p.r p.a p.c ∧ w.frozen? ⟨g, i * 4, none⟩ = false ∧ w.frozen? ⟨g, i * 4 + 1, none⟩ = false ∧ w.frozen? ⟨g, i * 4 + 2, none⟩ = false ∧ w.frozen? ⟨g, i * 4 + 3, none⟩ = false := by
  rcases h.1.2 with ⟨hv, _⟩ | ⟨g', cap', cur, hv, hg, hh, hnc, hcm, hcs, htake⟩
  · cases hv
  · cases hv
    have hcell : ∀ j, j < 4 → w.cell? ⟨g, i * 4 + j, none⟩ = (pcells p)[j]? := by
      intro j hj
      have h1 := flatMap_pcells_get l i p hi j hj
      rw [← htake, List.getElem?_take, if_pos (by have := (List.getElem?_eq_some_iff.1 hi).1; omega)] at h1
      rw [← h1]
      simp only [World.cell?, hh, Option.isSome_none, Bool.false_eq_true, if_false, Array.getElem?_toList]
    have hf : ∀ j, w.frozen? ⟨g, j, none⟩ = false := by
      intro j
      simp only [World.frozen?, hh]
      simp
    exact ⟨⟨hcell 0 (by omega), hcell 1 (by omega), hcell 2 (by omega), hcell 3 (by omega)⟩, hf _, hf _, hf _, hf _⟩

theorem run_clear_rx {P : Program} {w : World} (t ty e : TypeId) (T : Tab P t e) (A : Nat → Prop) (base : Nat) (g n cap : Nat) (l : List Pl) (hown : OwnRx w A base e (.slice (some ⟨g, 0, none⟩) n cap) l) (hn : n = l.length) (i : Nat) (hi : i ≤ l.length) (ad : Option Addr) (c : Nat) (had : i < l.length → ad = some ⟨g, i * 4, none⟩) :
    ∃ w', (Builtin.clear_ #[t] ty #[.slice ad (l.length - i) c]).run P w = .ok (.tuple #[]) w' ∧ OwnRx w' A base e (.slice (some ⟨g, 0, none⟩) i cap) (l.take i) ∧ Below base w w' := by
  subst hn
  by_cases h0 : i < l.length
  · have had := had h0
    subst had
    obtain ⟨inf, hinf, hz, hsz, hby⟩ := info_parts T.2
    rcases hown.1.2 with ⟨hv, _⟩ | ⟨g', cap', cur, hv, hg, hh, hnc, hcm, hcs, htake⟩
    · cases hv
    · cases hv
      have hzv : (zeroValue e).run P w = .ok (.agg #[.int .i64 0, .int .u8 0, .int .u8 0, .slice none 0 0]) w := by
        simp [zeroValue, typeInfo, hinf, hz]
      have hone : ∀ v ∈ (Builtin.zeroCells (Value.cells (.agg #[.int .i64 0, .int .u8 0, .int .u8 0, .slice none 0 0])) (l.length - i)).toList, v.oneCell' = true := by
        intro v hv
        simp only [Builtin.zeroCells, Value.cells, Array.toList_map, List.mem_map] at hv
        obtain ⟨j, _, rfl⟩ := hv
        have h4 : j % 4 = 0 ∨ j % 4 = 1 ∨ j % 4 = 2 ∨ j % 4 = 3 := by omega
        rcases h4 with h4 | h4 | h4 | h4 <;> simp [h4] <;> rfl
      have hlen : (Builtin.zeroCells (Value.cells (.agg #[.int .i64 0, .int .u8 0, .int .u8 0, .slice none 0 0])) (l.length - i)).toList.length = (l.length - i) * 4 := by
        rw [Array.length_toList, size_zeroCells]; rfl
      have hst := run_storeCells_at P g (i * 4) e _ 0 cur w hh (by rw [hlen]; omega) hone
      refine ⟨w.setRow g (cur.toList.take (i * 4 + 0) ++ (Builtin.zeroCells (Value.cells (.agg #[.int .i64 0, .int .u8 0, .int .u8 0, .slice none 0 0])) (l.length - i)).toList ++ cur.toList.drop (i * 4 + 0 + (Builtin.zeroCells (Value.cells (.agg #[.int .i64 0, .int .u8 0, .int .u8 0, .slice none 0 0])) (l.length - i)).toList.length)).toArray, ?_, ?_, ?_⟩
      · have hne : l.length - i ≠ 0 := by omega
        obtain ⟨m, hm⟩ : ∃ m, l.length - i = m + 1 := ⟨l.length - i - 1, by omega⟩
        rw [hm] at hst ⊢
        simp [Builtin.clear_, run_underlying T.1, hzv, hst]
      · have hob : Value.ownBlock (.slice (some ⟨g, 0, none⟩) i cap) = Value.ownBlock (.slice (some ⟨g, 0, none⟩) l.length cap) := rfl
        have htl : (l.take i).length = i := by simp; omega
        refine ⟨⟨by rw [flatMap_pcells_length], .inr ⟨g, cap, _, by rw [htl], hg, setRow_heap w g cur _ e _ hh, by omega, hcm, ?_, ?_⟩⟩, fun p hp => ?_⟩
        · simp only [List.size_toArray, List.length_append, List.length_take, List.length_drop, hlen, Array.length_toList]
          omega
        · rw [htl]
          simp only [Nat.add_zero, List.append_assoc]
          rw [List.take_append_of_le_length (by simp; omega), List.take_take, Nat.min_self]
          have h2 : cur.toList.take (i * 4) = (cur.toList.take (l.length * 4)).take (i * 4) := by rw [List.take_take]; congr 1; omega
          have : l.flatMap pcells = (l.take i).flatMap pcells ++ (l.drop i).flatMap pcells := by rw [← List.flatMap_append, List.take_append_drop]
          rw [h2, htake, this]
          rw [List.take_append_of_le_length (by rw [flatMap_pcells_length, htl]; omega)]
          rw [List.take_of_length_le (by rw [flatMap_pcells_length, htl]; omega)]
        · have := hown.2 p (List.mem_of_mem_take hp)
          rw [hob]
          exact this.keep (fun b _ hn => setRow_other w g b _ (fun e => hn (.inr (by simp [Value.ownBlock, e]))))
      · exact ⟨rfl, rfl, rfl, by simp [World.setRow], fun k hk => setRow_other w g k _ (by omega)⟩
  · have : i = l.length := by omega
    subst this
    refine ⟨w, ?_, hown.shorten rfl l.length (Nat.le_refl _), Below.refl _ _⟩
    simp only [Nat.sub_self]
    cases ad <;> simp [Builtin.clear_, run_underlying T.1]
theorem OwnRx.setBelow {w : World} {A : Nat → Prop} {base : Nat} {e : TypeId} {v : Value} {l : List Pl} (h : OwnRx w A base e v l) {b : Nat} (hb : b < base) (hA : A b) (o : Nat) (u : Value) : OwnRx (w.setCell ⟨b, o, none⟩ u) A base e v l :=
  ⟨ownsRow_setCell_below h.1 hb u, fun p hp => (h.2 p hp).keep (fun k _ hn => Below.heap_setCell _ _ _ _ (fun e => hn (.inl (by rw [e]; exact hA))))⟩
end Go.Proofs.Ytbepohpppailnaa
