/- Walks: forms, its last region in any order. -/
import Derived.Test.YtbepohpppailnaaWG
set_option linter.unusedSimpArgs false
set_option linter.unusedVariables false
namespace Go.Proofs.Ytbepohpppailnaa
open Go.RowKit Go.ChangeMaps

theorem run_load_rx {W : World} {b : Nat} {r : Rx} {a : Option Addr} {c : Nat} (h : rxAt W b 0 r a c) : (Instr.loadAt 54 (pAt b)).run Try.prog W = .ok (rxv r a c) W := by
  obtain ⟨h0, h1, h2, h3⟩ := h
  simp only [Nat.zero_add] at h1 h2 h3
  unfold pAt rxv
  go_simp
/-- the three boxes of forms -/
structure Boxes (W : World) (n : Nat) : Prop where
  b1 : rxAt W n 0 noneR none 0
  b2 : rxAt W (n + 1) 0 emptyR none 0
  b3 : rxAt W (n + 1 + 1 + 1) 0 everything (some ⟨n + 1 + 1, 0, none⟩) 1
  b4 : rxAt W (n + 1 + 1) 0 noneR none 0
theorem Boxes.later {W W' : World} {n : Nat} (h : Boxes W n) (hb : Below W.heap.size W W') : Boxes W' n :=
  ⟨rxAt_keep h.b1 (hb.block _ (rxAt_lt h.b1)), rxAt_keep h.b2 (hb.block _ (rxAt_lt h.b2)), rxAt_keep h.b3 (hb.block _ (rxAt_lt h.b3)), rxAt_keep h.b4 (hb.block _ (rxAt_lt h.b4))⟩
theorem noneR_rep (W : World) (A : Nat → Prop) : RxRep W A noneR none 0 :=
  .mk (fun _ => none) (fun _ => 0) (by omega) (by omega) (by omega) (by simp) (by omega) (fun _ => rfl) (fun h => by simp at h) (fun i r h => by simp at h)
theorem emptyR_rep (W : World) (A : Nat → Prop) : RxRep W A emptyR none 0 :=
  .mk (fun _ => none) (fun _ => 0) (by omega) (by omega) (by omega) (by simp) (by omega) (fun _ => rfl) (fun h => by simp at h) (fun i r h => by simp at h)
theorem everything_rep {W : World} {n : Nat} (h : Boxes W n) (A : Nat → Prop) (hA : ¬ A (n + 1 + 1)) : RxRep W A everything (some ⟨n + 1 + 1, 0, none⟩) 1 := by
  refine .mk (fun _ => none) (fun _ => 0) (by omega) (by omega) (by omega) (by simp) (by omega) (fun h => by cases h) (fun _ => ⟨_, 0, rfl, hA, fun i r hi => ?_⟩) (fun i r hi => ?_)
  · cases i with
    | zero => simp at hi; subst hi; exact h.b4
    | succ i => simp at hi
  · cases i with
    | zero => simp at hi; subst hi; exact noneR_rep _ _
    | succ i => simp at hi
/-- the call that makes the closure of unit and zero -/
theorem joined_step {W : World} {n : Nat} (hB : Boxes W n) (k : Int) (hk : k = 3 ∨ k = 4 ∨ k = 5) (un ze : Rx) (hu : un = unitOf k) (hz : ze = zeroOf k) (au az : Option Addr) (cu cz : Nat)
    (hau : (un = noneR ∨ un = emptyR) ∧ au = none ∧ cu = 0 ∨ un = everything ∧ au = some ⟨n + 1 + 1, 0, none⟩ ∧ cu = 1) (haz : (ze = noneR ∨ ze = emptyR) ∧ az = none ∧ cz = 0 ∨ ze = everything ∧ az = some ⟨n + 1 + 1, 0, none⟩ ∧ cz = 1) :
    Calls Try.prog 50 #[rxv un au cu, rxv ze az cz] W fun e w' => ∃ v, e = .returned v ∧ Below W.heap.size W w' ∧ ∀ m, (m < W.heap.size ∧ n + 1 + 1 + 1 < m) ∨ w'.heap.size ≤ m → FormE w' m k v := by
  refine (join_any un ze au az cu cz W).mono ?_
  rintro e w' ⟨rfl, rfl⟩
  have hE := (Ext.alloc W (.cells #[.int .i64 un.k, .int .u8 un.lo, .int .u8 un.hi, .slice au un.ks.length cu] 54)).trans (Ext.alloc _ (.cells #[.int .i64 ze.k, .int .u8 ze.lo, .int .u8 ze.hi, .slice az ze.ks.length cz] 54))
  refine ⟨_, rfl, hE.1, fun m hm => ?_⟩
  simp only [World.size_alloc] at hm
  have hB' := hB.later hE.1
  have hlt := rxAt_lt hB.b3
  have rep : ∀ (y : Rx) (ay : Option Addr) (cy : Nat), (y = noneR ∨ y = emptyR) ∧ ay = none ∧ cy = 0 ∨ y = everything ∧ ay = some ⟨n + 1 + 1, 0, none⟩ ∧ cy = 1 → RxRep ((W.alloc (.cells #[.int .i64 un.k, .int .u8 un.lo, .int .u8 un.hi, .slice au un.ks.length cu] 54)).alloc (.cells #[.int .i64 ze.k, .int .u8 ze.lo, .int .u8 ze.hi, .slice az ze.ks.length cz] 54)) (fun b => b = m) y ay cy := by
    rintro y ay cy (⟨rfl | rfl, rfl, rfl⟩ | ⟨rfl, rfl, rfl⟩)
    · exact noneR_rep _ _
    · exact emptyR_rep _ _
    · exact everything_rep hB' _ (by omega)
  subst hu hz
  refine joined_formE _ m k hk _ _ au az cu cz ?_ (rep _ _ _ hau) ?_ (rep _ _ _ haz) (by omega) (by omega)
  · exact ⟨by go_side, by go_side, by go_side, by go_side⟩
  · have := rxAt_box (W.alloc (.cells #[.int .i64 (unitOf k).k, .int .u8 (unitOf k).lo, .int .u8 (unitOf k).hi, .slice au (unitOf k).ks.length cu] 54)) (zeroOf k) az cz 54
    simpa using this

/-- the invariant of forms' last region -/
def FII (n : Nat) (W0 : World) (L : Nat → Bool) (a : Act) (w : World) : Prop :=
  (L 0 = true → ∃ mb, FI n W0 L mb a w) ∧ (L 0 = false → ∀ mb, w.heap.size ≤ mb → FI n W0 L mb a w)
theorem FII.some {n : Nat} {W0 : World} {L : Nat → Bool} {a : Act} {w : World} (h : FII n W0 L a w) : ∃ mb, FI n W0 L mb a w := by
  cases hq : L 0 with
  | true => exact h.1 hq
  | false => exact ⟨_, h.2 hq _ (Nat.le_refl _)⟩
theorem FII.put {n : Nat} {W0 : World} {L : Nat → Bool} {a : Act} {w : World} (h : FII n W0 L a w) (hn : n + 1 + 1 + 1 < W0.heap.size) {i d : Nat} (hd : tmpOf i = Option.some d) (hi0 : i ≠ 0) (h25 : i = 25 ∨ i = 26 → L 0 = true)
    {w' : World} (hE : Below w.heap.size w w') {v : Value} (hv : ∀ mb, FI n W0 L mb a w → (mb < w.heap.size ∧ n + 1 + 1 + 1 < mb) ∨ w'.heap.size ≤ mb → predOf n i w' mb v) : FII n W0 (updL L i) (a.put (Option.some d) v) w' := by
  have hL0 : updL L i 0 = L 0 := by unfold updL; rw [if_neg (Ne.symm hi0)]
  refine ⟨fun hq => ?_, fun hq mb hmb => ?_⟩
  · rw [hL0] at hq
    obtain ⟨mb, hI⟩ := h.1 hq
    obtain ⟨h1, h2, _⟩ := hI.mp hq
    exact ⟨mb, hI.put hd hi0 h25 hE (hv mb hI (.inl ⟨h2, by omega⟩))⟩
  · rw [hL0] at hq
    have hI := h.2 hq mb (Nat.le_trans hE.size hmb)
    exact hI.put hd hi0 h25 hE (hv mb hI (.inr hmb))
theorem FII.made {n : Nat} {W0 : World} {L : Nat → Bool} {a : Act} {w : World} (h : FII n W0 L a w) (h0 : L 0 = false) :
    FII n W0 (updL L 0) (a.put (Option.some 11) (.map (Option.some w.heap.size))) (w.alloc (.map #[] 0)) :=
  ⟨fun _ => ⟨_, (h.2 h0 _ (Nat.le_refl _)).made h0⟩, fun hq => by simp [updL] at hq⟩
theorem FII.ins {n : Nat} {W0 : World} {L : Nat → Bool} {a : Act} {w : World} (h : FII n W0 L a w) (h0 : L 0 = true) (k : Nat) (hk : k ≤ 7) (hk0 : L (opOf k) = false) {v : Value} (hv : ∀ mb, FI n W0 L mb a w → n + 1 + 1 + 1 < mb → FormE w mb (k : Int) v) (hn : n + 1 + 1 + 1 < W0.heap.size) :
    ∃ w', (Instr.mapUpdate 75 (a.eval (.tmp 11)) (.int .i64 (k : Int)) v).run Try.prog w = .ok () w' ∧ FII n W0 (updL L (opOf k)) a w' := by
  obtain ⟨mb, hI⟩ := h.1 h0
  obtain ⟨h1, h2, _⟩ := hI.mp h0
  obtain ⟨w', hr, hI'⟩ := hI.ins h0 k hk hk0 (hv mb hI (by omega))
  have he : a.eval (.tmp 11) = .map (Option.some mb) := hI.tv 0 11 rfl h0
  refine ⟨w', by rw [he]; exact hr, fun _ => ⟨mb, hI'⟩, fun hq => ?_⟩
  rw [show updL L (opOf k) 0 = L 0 from by unfold updL; rw [if_neg (Ne.symm (opOf_ne k).1)], h0] at hq
  cases hq
end Go.Proofs.Ytbepohpppailnaa
