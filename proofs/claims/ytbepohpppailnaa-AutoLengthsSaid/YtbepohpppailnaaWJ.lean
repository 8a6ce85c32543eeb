/- Walks: derive, the kinds one by one. -/
import Derived.Test.YtbepohpppailnaaWI
import Derived.Test.YtbepohpppailnaaMP
set_option linter.unusedSimpArgs false
set_option linter.unusedVariables false
namespace Go.Proofs.Ytbepohpppailnaa
open Go.RowKit
attribute [local go_sem ↓] Go.wp_at_zero Go.wp_at_succ

/-- what derive leaves -/
def DrvC (ch : Nat) (r : Rx) : Prop := proper r = true → nodes r ≤ 300 → ∀ (w : World) (N : Nat) (f : Value) (A : Nat → Prop) (a : Option Addr) (c : Nat), FormsRep w N f → N ≤ w.heap.size → (∀ b, b < N → ¬ A b) → RxRep w A r a c →
    Calls Try.prog 42 #[f, rxv r a c, .int .u8 ch] w (FnRx w A (drv ch r))

theorem derive_leaf (ch : Nat) (k : Int) (hk : k = 0 ∨ k = 1) (lo hi : Nat) (ks : List Rx) : DrvC ch (.mk k lo hi ks) := by
  intro hp hn w N f A a c hF hN hA hr
  obtain ⟨mb, es, clock, rfl, _⟩ := hF
  have hd : drv ch (.mk k lo hi ks) = noneR := by simp only [drv]; rw [if_neg (by omega), if_neg (by omega), if_neg (by omega), if_neg (by omega)]
  rw [hd]
  simp only [rxv, Rx.k_mk, Rx.lo_mk, Rx.hi_mk, Rx.ks_mk]
  clear hr hA hd hp
  rcases hk with rfl | rfl
  all_goals
    go_enter Try.func42, Try.ntmps42
    go_wp2
    refine bodyPost_ret (v := .agg #[.int .i64 0, .int .u8 0, .int .u8 0, .slice none 0 0]) (by simp [results, Try.results42, go_sem]) rfl ?_
    exact FnRx.three (y := noneR) (noneR_rep _ _) _ _ _

theorem derive_range (ch : Nat) (hch : ch < 256) (lo hi : Nat) (ks : List Rx) : DrvC ch (.mk 2 lo hi ks) := by
  intro hp hn w N f A a c hF hN hA hr
  obtain ⟨mb, es, clock, rfl, _⟩ := hF
  obtain ⟨_, hlo, hhi, _⟩ := hr.kids
  simp only [Rx.lo_mk, Rx.hi_mk] at hlo hhi
  have hd : drv ch (.mk 2 lo hi ks) = if lo ≤ ch ∧ ch ≤ hi then emptyR else noneR := by simp only [drv]; rw [if_pos trivial]
  rw [hd]
  simp only [rxv, Rx.k_mk, Rx.lo_mk, Rx.hi_mk, Rx.ks_mk]
  clear hr hA hd hp
  by_cases h1 : lo ≤ ch
  · by_cases h2 : ch ≤ hi
    · rw [if_pos ⟨h1, h2⟩]
      have h1' : (lo : Int) ≤ ch := by omega
      have h2' : (ch : Int) ≤ hi := by omega
      go_enter Try.func42, Try.ntmps42
      go_wp2
      refine bodyPost_ret (v := .agg #[.int .i64 1, .int .u8 0, .int .u8 0, .slice none 0 0]) (by simp [results, Try.results42, go_sem]) rfl ?_
      exact FnRx.three (y := emptyR) (emptyR_rep _ _) _ _ _
    · rw [if_neg (by omega)]
      have h1' : (lo : Int) ≤ ch := by omega
      have h2' : ¬ (ch : Int) ≤ hi := by omega
      go_enter Try.func42, Try.ntmps42
      go_wp2
      refine bodyPost_ret (v := .agg #[.int .i64 0, .int .u8 0, .int .u8 0, .slice none 0 0]) (by simp [results, Try.results42, go_sem]) rfl ?_
      exact FnRx.three (y := noneR) (noneR_rep _ _) _ _ _
  · rw [if_neg (by omega)]
    have h1' : ¬ (lo : Int) ≤ ch := by omega
    go_enter Try.func42, Try.ntmps42
    go_wp2
    refine bodyPost_ret (v := .agg #[.int .i64 0, .int .u8 0, .int .u8 0, .slice none 0 0]) (by simp [results, Try.results42, go_sem]) rfl ?_
    exact FnRx.three (y := noneR) (noneR_rep _ _) _ _ _
end Go.Proofs.Ytbepohpppailnaa
