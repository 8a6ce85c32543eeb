/- Walks: what forms hands back; normal. -/
import Derived.Test.YtbepohpppailnaaWC
import Derived.Deep.RegionHeld3
import Derived.Maps.Own
import Derived.MapKept
set_option linter.unusedSimpArgs false
set_option linter.unusedVariables false
namespace Go.Proofs.Ytbepohpppailnaa
open Go.RowKit

/-- a function value that brings expressions of kind k into normal form, in every world that is as w was below block N -/
def FormV (w : World) (N : Nat) (k : Int) (v : Value) : Prop :=
  ∃ g lb, v = .func (.func g) #[] lb ∧ (∀ args w, (callFunc g args).run Try.prog w = .ok (.enter g args) w) ∧
    ∀ (W : World) (A : Nat → Prop) (r : Rx) (a : Option Addr) (c : Nat), Below N w W → N ≤ W.heap.size → (∀ b, b < N → ¬ A b) → r.k = k → FormOK r → RxRep W A r a c → Calls Try.prog g (#[rxv r a c] ++ lb) W (FnRx W A (form r))
theorem FormV.later {w w' : World} {N : Nat} {k : Int} {v : Value} (h : FormV w N k v) (hb : Below N w w') : FormV w' N k v := by
  obtain ⟨g, lb, h1, h2, h3⟩ := h
  exact ⟨g, lb, h1, h2, fun W A r a c hW hs hA hk hok hr => h3 W A r a c (hb.trans hW) hs hA hk hok hr⟩
/-- the map of functions -/
def FormsRep (w : World) (N : Nat) (f : Value) : Prop :=
  ∃ mb es clock, f = .map (some mb) ∧ mb < N ∧ w.heap[mb]? = some (.map es clock) ∧
    ∀ k : Int, 0 ≤ k → k ≤ 7 → ∃ i v, Instr.findNow (.int .i64) (.int .i64 k) es.toList 0 = some (some (i, v)) ∧ FormV w N k v
theorem FormsRep.later {w w' : World} {N : Nat} {f : Value} (h : FormsRep w N f) (hb : Below N w w') : FormsRep w' N f := by
  obtain ⟨mb, es, clock, h1, h2, h3, h4⟩ := h
  exact ⟨mb, es, clock, h1, h2, (hb.block mb h2).trans h3, fun k h0 h7 => by obtain ⟨i, v, h5, h6⟩ := h4 k h0 h7; exact ⟨i, v, h5, h6.later hb⟩⟩
/-- a lookup in it -/
theorem FormsRep.look {w : World} {N : Nat} {f : Value} (h : FormsRep w N f) (k : Int) (h0 : 0 ≤ k) (h7 : k ≤ 7) :
    ∃ v, FormV w N k v ∧ ∀ W, Below N w W → (Instr.lookup 75 f (.int .i64 k) false).run Try.prog W = .ok v W := by
  obtain ⟨mb, es, clock, rfl, h2, h3, h4⟩ := h
  obtain ⟨i, v, h5, h6⟩ := h4 k h0 h7
  refine ⟨v, h6, fun W hW => ?_⟩
  have hb := (hW.block mb h2).trans h3
  have hu := Try.underlying75
  have hk := Try.underlying3
  have hlit : keyOf Try.prog 3 (Value.int .i64 k) = some (Lit.int .i64 k) := Go.Maps.keyOf_int_mk hk (by apply WalkArith.wf_i64; omega)
  have hck : (Instr.checkKey es.isEmpty 10000 3 (.int .i64 k)).run Try.prog W = .ok () W := (Go.Maps.int_keyed hk).check W _ hlit
  have hfk : (Instr.findKey 3 (.int .i64 k) es.toList).run Try.prog W = .ok (some (i, v)) W := by
    simp [Instr.findKey, run_underlying hk, h5]
  have hgo : (getObj mb).run Try.prog W = .ok (.map es clock) W := MapKept.run_getObj_map hb
  simp only [Instr.lookup, Sem.run_bind, run_underlying hu, Result.andThen_ok, hgo, Sem.run_pure, hck, hfk, Bool.false_eq_true, if_false]
end Go.Proofs.Ytbepohpppailnaa
