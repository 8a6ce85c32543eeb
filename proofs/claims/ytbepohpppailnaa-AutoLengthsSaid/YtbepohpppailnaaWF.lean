/- Walks: what a region does in any order, by an invariant; the pieces of forms. -/
import Derived.Test.YtbepohpppailnaaWE
import Derived.Orders
set_option linter.unusedSimpArgs false
set_option linter.unusedVariables false
namespace Go.Proofs.Ytbepohpppailnaa
open Go.RowKit Go.MapKept Go.ChangeMaps

theorem count_set_false (l : List Bool) (i : Nat) (h : l[i]? = some false) : (l.set i true).count false + 1 = l.count false := by
  induction l generalizing i with
  | nil => simp at h
  | cons x xs ih =>
    cases i with
    | zero => simp at h; subst h; simp
    | succ i =>
      simp only [List.getElem?_cons_succ] at h
      have := ih i h
      simp only [List.set_cons_succ, List.count_cons]
      omega
/-- one operation more is done -/
def updL (L : Nat → Bool) (i : Nat) : Nat → Bool := fun j => if j = i then true else L j
/-- every order of a region's operations, by an invariant of what has been done -/
theorem wpAny_inv {P : Program} {md : Region.Mode} {ops : Array Oper} {Q : Exit → Act → World → Prop} (I : (Nat → Bool) → Act → World → Prop)
    (hs : ∀ (i : Nat) (o : Oper), ops[i]? = some o → o.guard = none ∧ ∀ L a w, I L a w → L i = false → (∀ e ∈ o.after, Region.binds md e = true → L e.on = true) → o.wp P a w (I (updL L i)) Q)
    (he : ∀ L a w, I L a w → (∀ j, j < ops.size → L j = true) → Q .normal a w)
    (hlt : ∀ (i : Nat) (o : Oper), ops[i]? = some o → ∀ e ∈ o.after, e.on < i) :
    ∀ fuel (listed : Array Bool) a w, listed.size = ops.size → listed.toList.count false ≤ fuel → I (fun j => listed.getD j true) a w → wpAny P md ops Q fuel listed a w := by
  have hend : ∀ (listed : Array Bool), listed.size = ops.size → Region.ready md ops listed = [] → ∀ j, j < ops.size → listed.getD j true = true := by
    intro listed hsz hr j
    induction j using Nat.strongRecOn with
    | ind j ih =>
      intro hj
      cases hc : listed.getD j true with
      | true => rfl
      | false =>
        exfalso
        have ho : ops[j]? = some ops[j] := Array.getElem?_eq_getElem hj
        have hm : j ∈ Region.ready md ops listed := by
          rw [mem_ready]
          refine ⟨hc, _, ho, fun e he _ => ?_⟩
          have h1 := hlt j _ ho e he
          have h2 := ih e.on h1 (by omega)
          have h3 : e.on < listed.size := by omega
          simpa [h3] using h2
        rw [hr] at hm
        cases hm
  intro fuel
  induction fuel with
  | zero =>
    intro listed a w hsz hc hI
    have hall : ∀ j, j < ops.size → listed.getD j true = true := by
      intro j hj
      have hj' : j < listed.size := by omega
      cases hq : listed.getD j true with
      | true => rfl
      | false =>
        exfalso
        have : listed.toList[j]? = some false := by
          have : listed[j]? = some false := by
            rw [Array.getElem?_eq_getElem hj']
            simpa [hj'] using hq
          simpa using this
        have := count_set_false _ _ this
        omega
    refine ⟨?_, he _ a w hI hall⟩
    cases hr : Region.ready md ops listed with
    | nil => rfl
    | cons x xs =>
      have hm : x ∈ Region.ready md ops listed := by rw [hr]; exact .head _
      rw [mem_ready] at hm
      obtain ⟨h0, o, ho, _⟩ := hm
      have hx : x < ops.size := (Array.getElem?_eq_some_iff.1 ho).1
      rw [hall x hx] at h0
      cases h0
  | succ fuel ih =>
    intro listed a w hsz hc hI
    refine ⟨fun hr => he _ a w hI (hend listed hsz hr), fun i hi => ?_⟩
    rw [mem_ready] at hi
    obtain ⟨h0, o, ho, hd⟩ := hi
    obtain ⟨hg, hstep⟩ := hs i o ho
    have hi' : i < ops.size := (Array.getElem?_eq_some_iff.1 ho).1
    have hi'' : i < listed.size := by omega
    have hq : listed.toList[i]? = some false := by
      have : listed[i]? = some false := by
        rw [Array.getElem?_eq_getElem hi'']
        simpa [hi''] using h0
      simpa using this
    have hw : Region.wanted o (yielded ops a.tmps) = true := by simp [Region.wanted, hg]
    unfold wpOp
    rw [ho]
    simp only [hw, if_true]
    refine .inl (Oper.wp_mono (fun a' w' h => ih _ a' w' ?_ ?_ ?_) (hstep _ a w hI h0 fun e he hb => ?_))
    · simpa using hsz
    · have := count_set_false _ _ hq
      have : (listed.setIfInBounds i true).toList = listed.toList.set i true := by simp
      rw [this]
      omega
    · have : (fun j => (listed.setIfInBounds i true).getD j true) = updL (fun j => listed.getD j true) i := by
        funext j
        unfold updL
        by_cases hji : j = i
        · subst hji; simp
        · rw [getD_set_ne true (Ne.symm hji)]; simp [hji]
      rw [this]
      exact h
    · have h1 := hd e he hb
      by_cases hlt' : e.on < listed.size
      · simpa [hlt'] using h1
      · simp [hlt'] at h1

/-- each edge leads from an earlier operation -/
def afterB (ops : Array Oper) : Bool := (List.range ops.size).all fun i => match ops[i]? with | some o => o.after.all fun e => decide (e.on < i) | none => true
theorem afterB_spec {ops : Array Oper} (h : afterB ops = true) : ∀ (i : Nat) (o : Oper), ops[i]? = some o → ∀ e ∈ o.after, e.on < i := by
  intro i o ho e he
  have hi : i < ops.size := (Array.getElem?_eq_some_iff.1 ho).1
  have := List.all_eq_true.1 h i (List.mem_range.2 hi)
  rw [ho] at this
  exact of_decide_eq_true (Array.all_eq_true_iff_forall_mem.1 this e he)

/-- for each operation, in turn -/
def EachOp (p : Nat → Oper → Prop) : Nat → List Oper → Prop
  | _, [] => True
  | n, o :: r => p n o ∧ EachOp p (n + 1) r
theorem EachOp.get {p : Nat → Oper → Prop} {l : List Oper} {n : Nat} (h : EachOp p n l) : ∀ i o, l[i]? = some o → p (n + i) o := by
  induction l generalizing n with
  | nil => intro i o hi; simp at hi
  | cons x xs ih =>
    intro i o hi
    cases i with
    | zero => simp at hi; subst hi; exact h.1
    | succ i => have := ih h.2 i o (by simpa using hi); rwa [Nat.add_right_comm, Nat.add_assoc] at this

section
variable {P : Program} {o : Oper} {a : Act} {w : World} {K : Act → World → Prop} {Q : Exit → Act → World → Prop}
theorem wp_move {x : Operand} (h : o.op = .move x ∨ o.op = .assign x) (hK : K (a.put o.dst (a.eval x)) w) : o.wp P a w K Q := by
  rcases h with h | h <;>
  · unfold Oper.wp execOp
    simp only [h]
    exact hK
theorem wp_loadAt {t : TypeId} {x : Operand} {v : Value} (h : o.op = .load t x) (hl : (Instr.loadAt t (a.eval x)).run P w = .ok v w) (hK : K (a.put o.dst v) w) : o.wp P a w K Q := by
  unfold Oper.wp execOp
  simp only [h, Sem.run_bind, hl, Result.andThen_ok, Sem.run_pure]
  exact hK
theorem wp_makeMap {t : TypeId} (h : o.op = .makeMap t none) (hK : K (a.put o.dst (.map (some w.heap.size))) (w.alloc (.map #[] 0))) : o.wp P a w K Q := by
  unfold Oper.wp execOp
  simp only [h, Sem.run_bind, Option.map_none, run_makeMap, Result.andThen_ok, Sem.run_pure]
  exact hK
theorem wp_makeFunc {fn : Fn} {xs ys : Array Operand} (h : o.op = .makeFunc fn xs ys) (hK : K (a.put o.dst (.func fn (xs.map a.eval) (ys.map a.eval))) w) : o.wp P a w K Q := by
  unfold Oper.wp execOp
  simp only [h, Sem.run_bind, Instr.makeFunc, Result.andThen_ok, Sem.run_pure]
  exact hK
theorem wp_insert {t : TypeId} {m k x : Operand} {w' : World} (h : o.op = .insert t m k x) (hr : (Instr.mapUpdate t (a.eval m) (a.eval k) (a.eval x)).run P w = .ok () w') (hd : o.dst = none) (hK : K a w') : o.wp P a w K Q := by
  unfold Oper.wp execOp
  simp only [h, Sem.run_bind, hr, Result.andThen_ok, Sem.run_pure]
  show K (a.put o.dst undef) w'
  rw [hd]
  exact hK
theorem wp_callv {f : Operand} {xs : Array Operand} {ts : Array TypeId} {g : FuncId} {lb : Array Value} (h : o.op = .call { callee := .value f, args := xs, argTypes := ts }) (hf : a.eval f = .func (.func g) #[] lb)
    (hc : ∀ args w, (callFunc g args).run P w = .ok (.enter g args) w) (hK : Calls P g (xs.map a.eval ++ lb) w fun e w' => ∃ v, e = .returned v ∧ K (a.put o.dst v) w') : o.wp P a w K Q := by
  unfold Oper.wp execOp
  simp only [h, resolve, invoke, Deferred.ofValue, Sem.run_bind, Sem.run_pure, Result.andThen_ok, hf, Array.empty_append, hc, Oper.upon]
  refine hK.mono ?_
  rintro e w' ⟨v, rfl, h⟩
  exact h
end

theorem findNow_found (d : TypeDesc) (k : Value) (l m : List MapEntry) (r : Nat × Value) : ∀ i, Instr.findNow d k l i = some (some r) → Instr.findNow d k (l ++ m) i = some (some r) := by
  induction l with
  | nil => intro i h; simp [Instr.findNow] at h
  | cons e es ih =>
    intro i h
    simp only [List.cons_append, Instr.findNow] at h ⊢
    cases hs : Instr.sameNow d k e.key with
    | none => rw [hs] at h; simp at h
    | some b =>
      rw [hs] at h
      cases b with
      | true => exact h
      | false => exact ih _ h
theorem findNow_none (d : TypeDesc) (k : Value) (l m : List MapEntry) : ∀ i, Instr.findNow d k l i = some none → Instr.findNow d k (l ++ m) i = Instr.findNow d k m (i + l.length) := by
  induction l with
  | nil => intro i h; rfl
  | cons e es ih =>
    intro i h
    simp only [List.cons_append, Instr.findNow] at h ⊢
    cases hs : Instr.sameNow d k e.key with
    | none => rw [hs] at h; simp at h
    | some b =>
      rw [hs] at h
      cases b with
      | true => simp at h
      | false => simp only [] at h ⊢; rw [ih _ h, List.length_cons]; congr 1; omega
theorem findNow_one (k j : Int) (v : Value) (c i : Nat) : Instr.findNow (.int .i64) (.int .i64 k) [{ key := .int .i64 j, val := v, born := c }] i = if k = j then some (some (i, v)) else some none := by
  by_cases h : k = j
  · simp [Instr.findNow, Instr.sameNow, h]
  · have : (k == j) = false := by simpa using h
    simp [Instr.findNow, Instr.sameNow, h, this]

theorem run_insert_new {w : World} {mb : Nat} {es : Array MapEntry} {clock : Nat} {k : Int} {v : Value} (hb : w.heap[mb]? = some (.map es clock)) (hf : Instr.findNow (.int .i64) (.int .i64 k) es.toList 0 = some none) :
    (Instr.mapUpdate 75 (.map (some mb)) (.int .i64 k) v).run Try.prog w = .ok () (setBlock w mb (.map (es.push { key := .int .i64 k, val := v, born := clock }) (clock + 1))) := by
  have hm := Try.underlying75
  have hd := Try.underlying3
  have hk : IsKey (.int .i64) (.int .i64 k) := rfl
  simp [Instr.mapUpdate, run_underlying hm, MapKept.run_getObj_map hb, MapKept.run_checkKey hd hk, MapKept.run_findKey hd hf, MapKept.run_setObj_map _ hb, Result.andThen, setBlock]

/-- a function value as FormV, in worlds that may differ in one block, the map's -/
def FormE (w : World) (mb : Nat) (k : Int) (v : Value) : Prop :=
  ∃ g lb, v = .func (.func g) #[] lb ∧ (∀ args w, (callFunc g args).run Try.prog w = .ok (.enter g args) w) ∧
    ∀ (W : World) (A : Nat → Prop) (r : Rx) (a : Option Addr) (c : Nat), (∀ b, b < w.heap.size → b ≠ mb → W.heap[b]? = w.heap[b]?) → w.heap.size ≤ W.heap.size → (∀ b, b < w.heap.size → ¬ A b) → r.k = k → FormOK r → RxRep W A r a c → Calls Try.prog g (#[rxv r a c] ++ lb) W (FnRx W A (form r))
theorem FormE.formV {w : World} {mb : Nat} {k : Int} {v : Value} (h : FormE w mb k v) : FormV w w.heap.size k v := by
  obtain ⟨g, lb, h1, h2, h3⟩ := h
  exact ⟨g, lb, h1, h2, fun W A r a c hW hs hA hk hok hr => h3 W A r a c (fun b hb _ => hW.block b hb) hs hA hk hok hr⟩
theorem FormE.later {w w' : World} {mb : Nat} {k : Int} {v : Value} (h : FormE w mb k v) (ha : ∀ b, b < w.heap.size → b ≠ mb → w'.heap[b]? = w.heap[b]?) (hs : w.heap.size ≤ w'.heap.size) : FormE w' mb k v := by
  obtain ⟨g, lb, h1, h2, h3⟩ := h
  refine ⟨g, lb, h1, h2, fun W A r a c hW hs' hA hk hok hr => h3 W A r a c (fun b hb hn => (hW b (by omega) hn).trans (ha b hb hn)) (by omega) (fun b hb => hA b (by omega)) hk hok hr⟩
/-- when the map is made -/
theorem FormE.made {w w' : World} {mb : Nat} {k : Int} {v : Value} (h : FormE w mb k v) (ha : ∀ b, b < w.heap.size → w'.heap[b]? = w.heap[b]?) (hs : w.heap.size ≤ w'.heap.size) : FormE w' w.heap.size k v := by
  obtain ⟨g, lb, h1, h2, h3⟩ := h
  refine ⟨g, lb, h1, h2, fun W A r a c hW hs' hA hk hok hr => h3 W A r a c (fun b hb hn => (hW b (by omega) (by omega)).trans (ha b hb)) (by omega) (fun b hb => hA b (by omega)) hk hok hr⟩

theorem enters_itself : ∀ args w, (callFunc 49 args).run Try.prog w = .ok (.enter 49 args) w := by
  intro args w
  go_simp
theorem enters_join : ∀ args w, (callFunc 50 args).run Try.prog w = .ok (.enter 50 args) w := by
  intro args w
  go_simp
theorem enters_joined : ∀ args w, (callFunc 51 args).run Try.prog w = .ok (.enter 51 args) w := by
  intro args w
  go_simp
theorem enters_notF : ∀ args w, (callFunc 59 args).run Try.prog w = .ok (.enter 59 args) w := by
  intro args w
  go_simp
theorem enters_starF : ∀ args w, (callFunc 60 args).run Try.prog w = .ok (.enter 60 args) w := by
  intro args w
  go_simp

theorem itself_formE (w : World) (mb : Nat) (k : Int) (hk : k = 0 ∨ k = 1 ∨ k = 2) : FormE w mb k (.func (.func 49) #[] #[]) := by
  refine ⟨_, _, rfl, enters_itself, fun W A r a c _ _ _ hrk _ hr => ?_⟩
  have : form r = r := by unfold form; rw [if_neg (by omega), if_neg (by omega), if_neg (by omega)]
  rw [this]
  exact itself_any r W A a c hr
theorem joined_formE (w : World) (mb : Nat) (k : Int) (hk : k = 3 ∨ k = 4 ∨ k = 5) (bu bz : Nat) (au az : Option Addr) (cu cz : Nat) (hu : rxAt w bu 0 (unitOf k) au cu) (hur : RxRep w (fun b => b = mb) (unitOf k) au cu)
    (hz : rxAt w bz 0 (zeroOf k) az cz) (hzr : RxRep w (fun b => b = mb) (zeroOf k) az cz) (hbu : bu ≠ mb) (hbz : bz ≠ mb) :
    FormE w mb k (.func (.func 51) #[] #[.pointer (some ⟨bu, 0, none⟩), .pointer (some ⟨bz, 0, none⟩)]) := by
  refine ⟨_, _, rfl, enters_joined, fun W A r a c hag hs hA hrk hok hr => ?_⟩
  have hf : form r = jn r.k (unitOf k) (zeroOf k) r.ks := by unfold form; rw [if_pos (by omega), hrk]
  rw [hf]
  have hlu := rxAt_lt hu
  have hlz := rxAt_lt hz
  exact joined_any r _ _ hok.2.1 W A a c hr bu bz au az cu cz (rxAt_keep hu (hag bu hlu hbu)) ((hur.old.keep (fun b hb hn => hag b hb (fun e => hn (.inl e)))).avoid (fun b _ h => .inr (Nat.le_of_not_lt fun hh => hA b hh h)))
    (rxAt_keep hz (hag bz hlz hbz)) ((hzr.old.keep (fun b hb hn => hag b hb (fun e => hn (.inl e)))).avoid (fun b _ h => .inr (Nat.le_of_not_lt fun hh => hA b hh h)))
theorem rx_eta7 {r : Rx} {k : Int} (hk : r.k = k) (hl : r.lo = 0) (hh : r.hi = 0) : r = .mk k 0 0 r.ks := by
  cases r
  simp only [Rx.k_mk, Rx.lo_mk, Rx.hi_mk, Rx.ks_mk] at *
  subst hk hl hh
  rfl
theorem notF_formE (w : World) (mb : Nat) : FormE w mb 6 (.func (.func 59) #[] #[]) := by
  refine ⟨_, _, rfl, enters_notF, fun W A r a c _ _ _ hrk hok hr => ?_⟩
  obtain ⟨h1, h2, x, hx, hx6⟩ := hok.2.2 (.inl hrk)
  have hf : form r = notF r.ks := by unfold form; rw [if_neg (by omega), if_pos hrk]
  rw [hf, rx_eta7 hrk h1 h2]
  rw [rx_eta7 hrk h1 h2] at hr
  exact notF_any r.ks x hx (hx6 hrk) W A a c hr
theorem starF_formE (w : World) (mb : Nat) (be bv : Nat) (ae av : Option Addr) (ce cv : Nat) (hu : rxAt w be 0 emptyR ae ce) (hur : RxRep w (fun b => b = mb) emptyR ae ce)
    (hz : rxAt w bv 0 everything av cv) (hzr : RxRep w (fun b => b = mb) everything av cv) (hbu : be ≠ mb) (hbz : bv ≠ mb) :
    FormE w mb 7 (.func (.func 60) #[] #[.pointer (some ⟨be, 0, none⟩), .pointer (some ⟨bv, 0, none⟩)]) := by
  refine ⟨_, _, rfl, enters_starF, fun W A r a c hag hs hA hrk hok hr => ?_⟩
  obtain ⟨h1, h2, x, hx, _⟩ := hok.2.2 (.inr hrk)
  have hf : form r = starF r.ks := by unfold form; rw [if_neg (by omega), if_neg (by omega), if_pos hrk]
  have hlu := rxAt_lt hu
  have hlz := rxAt_lt hz
  rw [hf, rx_eta7 hrk h1 h2]
  rw [rx_eta7 hrk h1 h2] at hr
  exact starF_any r.ks x hx W A a c hr be bv ae av ce cv (rxAt_keep hu (hag be hlu hbu)) ((hur.old.keep (fun b hb hn => hag b hb (fun e => hn (.inl e)))).avoid (fun b _ h => .inr (Nat.le_of_not_lt fun hh => hA b hh h)))
    (rxAt_keep hz (hag bv hlz hbz)) ((hzr.old.keep (fun b hb hn => hag b hb (fun e => hn (.inl e)))).avoid (fun b _ h => .inr (Nat.le_of_not_lt fun hh => hA b hh h)))

/-- the closure of unit and zero -/
theorem join_any (un ze : Rx) (au az : Option Addr) (cu cz : Nat) (w : World) :
    Calls Try.prog 50 #[rxv un au cu, rxv ze az cz] w fun e w' => e = .returned (.func (.func 51) #[] #[.pointer (some ⟨w.heap.size, 0, none⟩), .pointer (some ⟨w.heap.size + 1, 0, none⟩)]) ∧
      w' = (w.alloc (.cells #[.int .i64 un.k, .int .u8 un.lo, .int .u8 un.hi, .slice au un.ks.length cu] 54)).alloc (.cells #[.int .i64 ze.k, .int .u8 ze.lo, .int .u8 ze.hi, .slice az ze.ks.length cz] 54) := by
  simp only [rxv]
  go_enter Try.func50, Try.ntmps50
  go_wp2
  go_ret
  exact ⟨rfl, rfl⟩
end Go.Proofs.Ytbepohpppailnaa
