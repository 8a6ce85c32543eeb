/- Walks: Of's closures. -/
import Derived.Test.YtbepohpppailnaaA4
import Derived.Test.YtbepohpppailnaaWO
import Derived.Laws.BytesArg
import Derived.Deep.RegionLaw
set_option linter.unusedSimpArgs false
set_option linter.unusedVariables false
namespace Go.Proofs.Ytbepohpppailnaa
open Go.RowKit
attribute [local go_sem ↓] Go.wp_at_zero Go.wp_at_succ

/-- the key of an expression, as a string -/
def keyS (r : Rx) : Value := .string (strOfNums (nats (keyA r)))
/-- all numbers of the key are bytes -/
def Bytey (r : Rx) : Prop := ∀ n ∈ keyA r, n < 256
theorem RxRep.bytey {w : World} {A : Nat → Prop} {r : Rx} {a : Option Addr} {c : Nat} (h : RxRep w A r a c) : proper r = true → nodes r ≤ 64 → Bytey r := by
  induction h with
  | @mk k lo hi ks a c fa fc hk hlo hhi hlen hcap hn ho hks ih =>
    intro hp hn'
    have hkk := proper_kind hp
    have hpk := proper_kids hp
    simp only [Rx.k_mk, Rx.ks_mk] at hkk hpk
    have hnl := nodesL_length ks
    simp only [nodes] at hn'
    intro n hnn
    simp only [keyA, List.cons_append, List.nil_append, List.mem_cons] at hnn
    rcases hnn with rfl | rfl | rfl | rfl | hnn
    · omega
    · exact hlo
    · exact hhi
    · omega
    · have : ∀ l : List Rx, (∀ x ∈ l, x ∈ ks) → n ∈ keyAL l → n < 256 := by
        intro l
        induction l with
        | nil => intro _ h; cases h
        | cons x l ihl =>
          intro hm h
          simp only [keyAL, List.mem_append] at h
          rcases h with h | h
          · obtain ⟨i, hi⟩ := List.getElem?_of_mem (hm x List.mem_cons_self)
            exact ih i x hi (hpk x (hm x List.mem_cons_self)) (by have := nodesL_mem (hm x List.mem_cons_self); omega) n h
          · exact ihl (fun y hy => hm y (List.mem_cons_of_mem _ hy)) h
      exact this ks (fun x hx => hx) hnn
theorem keyS_inj {r r' : Rx} (hp : proper r = true) (hp' : proper r' = true) (hb : Bytey r) (hb' : Bytey r') (h : keyS r = keyS r') : r = r' := by
  unfold keyS at h
  have h2 : (strOfNums (nats (keyA r))).data.toList = (strOfNums (nats (keyA r'))).data.toList := by injection h with h; rw [h]
  rw [strOfNums_data, strOfNums_data] at h2
  simp only [nats, List.map_map] at h2
  refine keyA_inj hp hp' ?_
  have key : ∀ l l' : List Nat, (∀ n ∈ l, n < 256) → (∀ n ∈ l', n < 256) → l.map ((fun (n : Int) => UInt8.ofNat n.toNat) ∘ fun (n : Nat) => (n : Int)) = l'.map ((fun (n : Int) => UInt8.ofNat n.toNat) ∘ fun (n : Nat) => (n : Int)) → l = l' := by
    intro l
    induction l with
    | nil => intro l' _ _ h; cases l' with | nil => rfl | cons a b => simp at h
    | cons a l ih =>
      intro l' h1 h2 h
      cases l' with
      | nil => simp at h
      | cons a' l' =>
        simp only [List.map_cons, List.cons.injEq, Function.comp_apply, Int.toNat_natCast] at h
        have e1 : a = a' := by
          have := congrArg UInt8.toNat h.1
          simp only [UInt8.toNat_ofNat'] at this
          have i1 := h1 a List.mem_cons_self
          have i2 := h2 a' List.mem_cons_self
          omega
        rw [e1, ih l' (fun n hn => h1 n (List.mem_cons_of_mem _ hn)) (fun n hn => h2 n (List.mem_cons_of_mem _ hn)) h.2]
  exact key _ _ hb hb' h2

set_option maxRecDepth 100000 in
set_option maxHeartbeats 1600000 in
theorem Of1_any (r : Rx) (hp : proper r = true) (hn : nodes r ≤ 64) (w : World) (A : Nat → Prop) (a : Option Addr) (c : Nat) (hr : RxRep w A r a c) :
    Calls Try.prog 29 #[rxv r a c] w fun e w' => e = .returned (keyS r) ∧ Below w.heap.size w w' := by
  have hE := Ext.alloc w (.cells #[.int .i64 r.k, .int .u8 r.lo, .int .u8 r.hi, .slice a r.ks.length c] 54)
  have hkl : (keyA r).length = 4 * nodes r := keyA_length r
  have HC := Lib.hid (keyOf_any r (w.alloc (.cells #[.int .i64 r.k, .int .u8 r.lo, .int .u8 r.hi, .slice a r.ks.length c] 54)) (w.heap.size + 1) (.slice none 0 0) [] (fun b => A b ∨ w.heap.size ≤ b) a c (OwnC.nil _ _ _) (by simp) (hr.old.ext hE.1) (fun b hb => .inr (by omega)) (by simp; omega) hp hn)
  have HE := Lib.hid hE
  clear hE hr
  simp only [rxv] at HC ⊢
  go_enter Try.func29, Try.ntmps29
  go_wp2_with fail
  refine HC.out.mono ?_
  rintro e w1 ⟨v1, rfl, ho1, hb1⟩
  obtain ⟨g, cap, rfl⟩ := ho1.form
  have hrep := ho1.rep (A := fun _ => False) (fun _ _ h => h)
  have hconv := conv_str w1 _ _ g cap (by simpa using hrep)
  clear hkl
  simp only [List.nil_append, List.length_map] at hconv ⊢
  have HB := Lib.hid (HE.out.1.trans (hb1.mono (by omega)))
  clear ho1 hrep hb1 HC HE hp hn
  go_wp2_with fail
  go_ret
  exact ⟨rfl, HB.out⟩

end Go.Proofs.Ytbepohpppailnaa
