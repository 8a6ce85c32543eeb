/- Walks: put of the reference of package auto. -/
import Derived.Test.YtbepohpppailnaaD1
import Derived.Laws.AppendOwnNone
set_option linter.unusedSimpArgs false
set_option linter.unusedVariables false
namespace Go.Proofs.Ytbepohpppailnaa
open Go.RowKit
attribute [local go_sem ↓] Go.wp_at_zero Go.wp_at_succ

theorem iput_split (l : List Int) (n : Int) (k : Nat) (hk : k ≤ l.length) (h1 : ∀ j x, j < k → l[j]? = some x → x < n) (h2 : ∀ x, l[k]? = some x → ¬ x < n) :
    iput l n = if l[k]? = some n then l else l.take k ++ n :: l.drop k := by
  induction l generalizing k with
  | nil => have : k = 0 := by simpa using hk
           subst this; simp [iput]
  | cons a l ih =>
    cases k with
    | zero =>
      have := h2 a rfl
      simp only [iput]
      rw [if_neg this]
      by_cases e : a = n
      · rw [if_pos e, if_pos (by simp [e])]
      · rw [if_neg e, if_neg (by simp [e])]; rfl
    | succ k =>
      have := h1 0 a (by omega) rfl
      simp only [iput]
      rw [if_pos this, ih k (by simpa using hk) (fun j x hj hx => h1 (j + 1) x (by omega) (by simpa using hx)) (fun x hx => h2 x (by simpa using hx))]
      simp only [List.getElem?_cons_succ, List.take_succ_cons, List.drop_succ_cons]
      split <;> rfl
/-- append of a slice that reads as a list -/
theorem run_append_sl {P : Program} {w : World} (t ty e : TypeId) {z : Value} {bytes : Nat} (T : Tab1 P t e z bytes) (hz : z.cells.size = 1) (hby : bytes ≤ 64) (base : Nat) (v : Value) (cs : List Value) (hown : OwnC w base e v cs) (hbase : base ≤ w.heap.size)
    (A : Nat → Prop) (us : List Value) (a : Option Addr) (c n : Nat) (hn : us.length = n) (hs : SlRep w A us a c) (hu : ∀ u ∈ us, u.oneCell' = true) (hlen : cs.length + n ≤ 1000000000) :
    ∃ v' w', (Builtin.append_ #[t, t] ty #[v, .slice a n c]).run P w = .ok v' w' ∧ Grew w w' base v v' e (cs ++ us) := by
  subst hn
  cases a with
  | none =>
    have hc := hs.nil rfl
    have : us = [] := List.length_eq_zero_iff.1 (by have := hs.bd.1; omega)
    subst this hc
    obtain ⟨i, hi, hiz, his, hib⟩ := tab1_info T
    have hrun := run_append_owned_none (P := P) (w := w) base t ty e i 1 T.1 hi v cs.length cs hown
    exact ⟨v, w, hrun, by simpa using hown, Below.refl _ _, fun _ _ _ => rfl, .inl rfl⟩
  | some ad =>
    obtain ⟨v', w', h1, h2, h3, h4, h5⟩ := run_append_c (P := P) (w := w) t ty e T hz hby base v cs hown hbase ad c us (fun j u hj => by
      have hp : 0 < us.length := by have := (List.getElem?_eq_some_iff.1 hj).1; omega
      obtain ⟨b, o, hb, _, _, hc⟩ := hs.ho hp
      cases hb
      rw [Addr.add_lit]
      exact hc j u hj) hu hlen
    exact ⟨v', w', h1, h2, h3, h4, h5.imp id fun h => ⟨_, h, Nat.le_refl _⟩⟩
theorem wpList_append_sl {P : Program} {w : World} {ops : Array Oper} {rest : List Oper} {o : Oper} {ac : Act} {Q : Exit → Act → World → Prop} (hgd : o.guard = none) (s x : Operand) (t e : TypeId) (ho : o.op = .call { callee := .builtin .append, args := #[s, x], argTypes := #[t, t] })
    {z : Value} {bytes : Nat} (T : Tab1 P t e z bytes) (hz : z.cells.size = 1) (hby : bytes ≤ 64) (base : Nat) (v : Value) (cs : List Value) (hs : ac.eval s = v) (hown : OwnC w base e v cs) (hbase : base ≤ w.heap.size)
    (A : Nat → Prop) (us : List Value) (a : Option Addr) (c n : Nat) (hn : us.length = n) (hx : ac.eval x = .slice a n c) (hsl : SlRep w A us a c) (hu : ∀ u ∈ us, u.oneCell' = true) (hlen : cs.length + n ≤ 1000000000)
    (h : ∀ v' w', Grew w w' base v v' e (cs ++ us) → wpList P ops Q rest (ac.put o.dst v') w') : wpList P ops Q (o :: rest) ac w := by
  refine wpList_plain hgd fun _ hK => ?_
  obtain ⟨v', w', hr, h2⟩ := run_append_sl t o.type e T hz hby base v cs hown hbase A us a c n hn hsl hu hlen
  unfold Oper.wp execOp
  simp only [ho, resolve, invoke, builtin, Sem.run_bind, Sem.run_pure, Result.andThen_ok, List.map_toArray, List.map_cons, List.map_nil, hs, hx, hr]
  exact hK _ _ (h v' w' h2)
theorem slrep_take {w : World} {A : Nat → Prop} {cs : List Value} {a : Option Addr} {c : Nat} (h : SlRep w A cs a c) (k : Nat) (hk : k ≤ cs.length) : SlRep w A (cs.take k) a c := by
  refine ⟨⟨by have := h.bd.1; simp; omega, h.bd.2⟩, h.nil, fun hp => ?_⟩
  obtain ⟨b, o, h1, h2, h3, h4⟩ := h.ho (by simp at hp; omega)
  refine ⟨b, o, h1, h2, h3, fun i v hi => h4 i v ?_⟩
  rw [List.getElem?_take] at hi
  split at hi
  · exact hi
  · cases hi
theorem slrep_drop {w : World} {A : Nat → Prop} {cs : List Value} {b o : Nat} {c : Nat} (h : SlRep w A cs (some ⟨b, o, none⟩) c) (k : Nat) (hk : k ≤ cs.length) : SlRep w A (cs.drop k) (some ⟨b, o + k, none⟩) (c - k) := by
  refine ⟨⟨by have := h.bd.1; simp; omega, by have := h.bd.2; omega⟩, (fun h => by cases h), fun hp => ?_⟩
  obtain ⟨b', o', h1, h2, h3, h4⟩ := h.ho (by simp at hp; omega)
  cases h1
  refine ⟨b, o + k, rfl, h2, h3, fun i v hi => ?_⟩
  rw [List.getElem?_drop] at hi
  rw [Nat.add_assoc]
  exact h4 (k + i) v hi
theorem slrep_void (w : World) (A : Nat → Prop) (ad : Addr) (c : Nat) (hc : c ≤ 9223372036854775807) : SlRep w A [] (some ad) c := ⟨⟨by simp, hc⟩, (fun h => by cases h), (fun h => by simp at h)⟩

theorem OwnC.pos {w : World} {base : Nat} {e : TypeId} {v : Value} {cs : List Value} (h : OwnC w base e v cs) (hp : 0 < cs.length) : ∃ g c, v = .slice (some ⟨g, 0, Option.none⟩) cs.length c := by
  rcases h.2 with ⟨rfl, h0⟩ | ⟨g, cap, cur, rfl, _⟩
  · omega
  · exact ⟨g, cap, rfl⟩
theorem put_fin (l : List Int) (n : Int) (k : Nat) (w w3 : World) (A : Nat → Prop) (v3 : Value) (hsp : iput l n = l.take k ++ n :: l.drop k) (ho : OwnC w3 w.heap.size 3 v3 ([] ++ (ints l).take k ++ [.int .i64 n] ++ (ints l).drop k)) (hb : Below w.heap.size w w3) :
    ∃ b' o' c', Ending.returned v3 = .returned (.slice (some ⟨b', o', none⟩) (iput l n).length c') ∧ SlRep w3 (fun q => A q ∧ q < w.heap.size) (ints (iput l n)) (some ⟨b', o', none⟩) c' ∧ Below w.heap.size w w3 := by
  have e : [] ++ (ints l).take k ++ [.int .i64 n] ++ (ints l).drop k = ints (iput l n) := by rw [hsp]; simp
  rw [e] at ho
  obtain ⟨g, c, rfl⟩ := ho.pos (by rw [hsp]; simp; omega)
  refine ⟨g, 0, c, by simp, ?_, hb⟩
  exact ho.rep (fun q hq hh => by omega)

set_option maxRecDepth 100000 in
set_option maxHeartbeats 3200000 in
theorem put_any (l : List Int) (n : Int) (hn : I64 n) (hlen : l.length ≤ 1000000) (w : World) (A : Nat → Prop) (b o c : Nat) (h : SlRep w A (ints l) (some ⟨b, o, none⟩) c) :
    Calls Try.prog 13 #[.slice (some ⟨b, o, none⟩) l.length c, .int .i64 n] w fun e w' => ∃ b' o' c', e = .returned (.slice (some ⟨b', o', none⟩) (iput l n).length c') ∧ SlRep w' (fun q => A q ∧ q < w.heap.size) (ints (iput l n)) (some ⟨b', o', none⟩) c' ∧ Below w.heap.size w w' := by
  have hb := h.bd
  simp only [List.length_map] at hb
  obtain ⟨n1, n2⟩ := hn
  have H := Lib.hid h
  clear h
  go_enter Try.func13, Try.ntmps13
  go_wp2_with fail
  go_loopw [5] (fun kv wr => ∃ k : Nat, kv = .int .i64 k ∧ k ≤ l.length ∧ Hid (∀ j x, j < k → l[j]? = some x → x < n) ∧ wr = w) (fun kv _ => l.length - (intOf kv).toNat)
  case atStart => exact ⟨0, by simp, Nat.zero_le _, Lib.hid (by intro j x hj; omega), rfl⟩
  case round =>
    obtain ⟨k, rfl, hk, HL, rfl⟩ := hrel
    by_cases hlt : k < l.length
    · obtain ⟨g, o', hg, hgl, hc⟩ := ints_cell' H.out hlt
      cases hg
      have hget := iget_get hlt
      generalize hx : iget l k = x at *
      have HG := Lib.hid hget
      clear hx hget
      by_cases hxn : x < n
      · go_wp2_with fail
        go_roundw
        case rel => exact ⟨k + 1, by simp, by omega, Lib.hid (by
          intro j y hj hy
          by_cases e : j = k
          · subst e; rw [HG.out] at hy; cases hy; exact hxn
          · exact HL.out j y (by omega) hy), by first | rfl | trivial⟩
        case measure => simp [intOf]; omega
      · have hsp := iput_split l n k hk HL.out (fun y hy => by rw [HG.out] at hy; cases hy; exact hxn)
        rw [HG.out] at hsp
        by_cases he : x = n
        · rw [if_pos (by rw [he])] at hsp
          have HSP := Lib.hid hsp
          have he' := ieq_t he
          clear hsp he
          have hxn' : n ≤ x := by omega
          go_wp2_with fail
          go_ret
          rw [HSP.out]
          exact ⟨b, o, c, rfl, H.out.avoid (fun q _ hh => hh.1), Below.refl _ _⟩
        · rw [if_neg (by intro h; exact he (Option.some.inj h))] at hsp
          have HSP := Lib.hid hsp
          have he' := ieq_f he
          have hxn' : n ≤ x := by omega
          have hck : ¬ c = k := by omega
          have hck' : ¬ k = c := by omega
          have i1 : (k : Int) ≤ c := by omega
          clear hsp he
          have HT := Lib.hid (slrep_take H.out k (by rw [List.length_map]; exact hk))
          have HD := Lib.hid (slrep_drop H.out k (by rw [List.length_map]; exact hk))
          go_wp2_with (first
            | (at_builtin; refine wpList_append_sl rfl (.tmp 34) (.tmp 37) 22 3 rfl tabI rfl (by omega) wr.heap.size (.slice none 0 0) [] rfl (OwnC.nil _ _ _) (Nat.le_refl _) A ((ints l).take k) (some ⟨b, o, none⟩) c k (by simp; omega) rfl HT.out (by intro u hu; obtain ⟨y, _, rfl⟩ := List.mem_map.1 (List.mem_of_mem_take hu); rfl) (by simp; omega) ?_; intro v1 w1 hg1; have hs1 := hg1.below.size; have HG1 := Lib.hid hg1; clear hg1)
            | (at_builtin; refine wpList_append_c1 rfl (.tmp 39) (.tmp 41) 22 3 rfl tabI rfl (by omega) wr.heap.size v1 _ rfl HG1.out.own hs1 (.int .i64 n) 3 _ rfl rfl rfl (by simp; omega) ?_; intro v2 w2 hg2; have hs2 := hg2.below.size; have HG2 := Lib.hid hg2; clear hg2)
            | (at_builtin; refine wpList_append_sl rfl (.tmp 43) (.tmp 46) 22 3 rfl tabI rfl (by omega) wr.heap.size v2 _ rfl HG2.out.own (Nat.le_trans hs1 hs2) A ((ints l).drop k) (some ⟨b, o + k, none⟩) (c - k) (l.length - k) (by simp) rfl (HD.out.ext (HG1.out.below.trans HG2.out.below)) (by intro u hu; obtain ⟨y, _, rfl⟩ := List.mem_map.1 (List.mem_of_mem_drop hu); rfl) (by simp; omega) ?_; intro v3 w3 hg3; have HG3 := Lib.hid hg3; clear hg3))
          go_ret
          exact put_fin l n k wr w3 A v3 HSP.out HG3.out.own ((HG1.out.below.trans HG2.out.below).trans HG3.out.below)
    · have he : k = l.length := by omega
      have hsp := iput_split l n k hk HL.out (fun y hy => by rw [List.getElem?_eq_none (by omega)] at hy; cases hy)
      rw [if_neg (by rw [List.getElem?_eq_none (by omega)]; exact fun h => by cases h)] at hsp
      have HSP := Lib.hid hsp
      have i1 : (k : Int) ≤ c := by omega
      have HT := Lib.hid (slrep_take H.out k (by rw [List.length_map]; exact hk))
      have hlk : (ints l).drop k = [] := by rw [List.drop_eq_nil_of_le]; simp; omega
      have HLK := Lib.hid hlk
      have hz : l.length - k = 0 := by omega
      have HZ := Lib.hid hz
      clear hsp hlk hz
      by_cases hck : c = k
      · have hck' : k = c := hck.symm
        clear he
        subst hck'
        go_wp2_with (first
            | (at_builtin; refine wpList_append_sl rfl (.tmp 34) (.tmp 37) 22 3 rfl tabI rfl (by omega) wr.heap.size (.slice none 0 0) [] rfl (OwnC.nil _ _ _) (Nat.le_refl _) A ((ints l).take k) (some ⟨b, o, none⟩) k k (by simp; omega) rfl HT.out (by intro u hu; obtain ⟨y, _, rfl⟩ := List.mem_map.1 (List.mem_of_mem_take hu); rfl) (by simp; omega) ?_; intro v1 w1 hg1; have hs1 := hg1.below.size; have HG1 := Lib.hid hg1; clear hg1)
            | (at_builtin; refine wpList_append_c1 rfl (.tmp 39) (.tmp 41) 22 3 rfl tabI rfl (by omega) wr.heap.size v1 _ rfl HG1.out.own hs1 (.int .i64 n) 3 _ rfl rfl rfl (by simp; omega) ?_; intro v2 w2 hg2; have hs2 := hg2.below.size; have HG2 := Lib.hid hg2; clear hg2)
            | (at_builtin; refine wpList_append_sl rfl (.tmp 43) (.tmp 46) 22 3 rfl tabI rfl (by omega) wr.heap.size v2 _ rfl HG2.out.own (Nat.le_trans hs1 hs2) A [] (some ⟨b, o, none⟩) 0 0 rfl rfl (slrep_void _ _ _ _ (by omega)) (by intro u hu; cases hu) (by simp; omega) ?_; intro v3 w3 hg3; have HG3 := Lib.hid hg3; clear hg3))
        go_ret
        exact put_fin l n k wr w3 A v3 HSP.out (by rw [HLK.out]; exact HG3.out.own) ((HG1.out.below.trans HG2.out.below).trans HG3.out.below)
      · have hck1 : ¬ k = c := fun e => hck e.symm
        subst he
        go_wp2_with (first
            | (at_builtin; refine wpList_append_sl rfl (.tmp 34) (.tmp 37) 22 3 rfl tabI rfl (by omega) wr.heap.size (.slice none 0 0) [] rfl (OwnC.nil _ _ _) (Nat.le_refl _) A ((ints l).take l.length) (some ⟨b, o, none⟩) c l.length (by simp) rfl HT.out (by intro u hu; obtain ⟨y, _, rfl⟩ := List.mem_map.1 (List.mem_of_mem_take hu); rfl) (by simp; omega) ?_; intro v1 w1 hg1; have hs1 := hg1.below.size; have HG1 := Lib.hid hg1; clear hg1)
            | (at_builtin; refine wpList_append_c1 rfl (.tmp 39) (.tmp 41) 22 3 rfl tabI rfl (by omega) wr.heap.size v1 _ rfl HG1.out.own hs1 (.int .i64 n) 3 _ rfl rfl rfl (by simp; omega) ?_; intro v2 w2 hg2; have hs2 := hg2.below.size; have HG2 := Lib.hid hg2; clear hg2)
            | (at_builtin; refine wpList_append_sl rfl (.tmp 43) (.tmp 46) 22 3 rfl tabI rfl (by omega) wr.heap.size v2 _ rfl HG2.out.own (Nat.le_trans hs1 hs2) A [] (some ⟨b, o + l.length, none⟩) (c - l.length) 0 rfl rfl (slrep_void _ _ _ _ (by omega)) (by intro u hu; cases hu) (by simp; omega) ?_; intro v3 w3 hg3; have HG3 := Lib.hid hg3; clear hg3))
        go_ret
        exact put_fin l n l.length wr w3 A v3 HSP.out (by rw [HLK.out]; exact HG3.out.own) ((HG1.out.below.trans HG2.out.below).trans HG3.out.below)
end Go.Proofs.Ytbepohpppailnaa
