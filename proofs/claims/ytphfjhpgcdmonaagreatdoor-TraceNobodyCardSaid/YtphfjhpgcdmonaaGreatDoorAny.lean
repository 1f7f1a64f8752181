/- A region whose order is open: an invariant on what has come up and on the world, kept by each operation of the head in whatever order, holds when the head is through; the tail is a chain. Conditions: those that are named. -/
import Derived.StillTail
import Derived.WalkKit
import Derived.Below
import Derived.Lib.Hide
namespace Go.Proofs.YtphfjhpgcdmonaaGreatDoor.Any
open Go Go.RowKit

/-- One more operation has come up, with this value. -/
def upd (σ : Nat → Option Value) (i : Nat) (v : Value) : Nat → Option Value := fun j => if j = i then some v else σ j
theorem upd_same (σ : Nat → Option Value) (i : Nat) (v : Value) : upd σ i v i = some v := by simp [upd]
theorem upd_other (σ : Nat → Option Value) {i j : Nat} (v : Value) (h : j ≠ i) : upd σ i v j = σ j := by simp [upd, h]
section
variable {P : Program} {ops : Array Oper} {md : Region.Mode} {Q : Exit → Act → World → Prop}
/-- The frame behind the operations that have come up. -/
def puts (ops : Array Oper) (σ : Nat → Option Value) : Nat → Act → Act
  | 0, a => a
  | k + 1, a => match σ k, ops[k]? with
    | some v, some o => (puts ops σ k a).put o.dst v
    | _, _ => puts ops σ k a
theorem puts_congr {σ τ : Nat → Option Value} : ∀ (n : Nat) (a : Act), (∀ j, j < n → σ j = τ j) → puts ops σ n a = puts ops τ n a
  | 0, _, _ => rfl
  | n + 1, a, h => by
    unfold puts
    rw [puts_congr n a (fun j hj => h j (by omega)), h n (by omega)]
theorem puts_none {σ : Nat → Option Value} : ∀ (n : Nat) (a : Act), (∀ j, j < n → σ j = none) → puts ops σ n a = a
  | 0, _, _ => rfl
  | n + 1, a, h => by
    unfold puts
    rw [puts_none n a (fun j hj => h j (by omega)), h n (by omega)]
theorem puts_upd {σ : Nat → Option Value} {i : Nat} {v : Value} {o : Oper} (ho : ops[i]? = some o) (hs : σ i = none) (a : Act) :
    ∀ n, i < n → (∀ j oj, j < n → j ≠ i → ops[j]? = some oj → ∀ d, o.dst = some d → oj.dst ≠ some d) → puts ops (upd σ i v) n a = (puts ops σ n a).put o.dst v
  | 0, h, _ => by omega
  | n + 1, h, hd => by
    by_cases hin : i = n
    · subst hin
      unfold puts
      rw [upd_same, ho, hs, puts_congr i a (fun j hj => upd_other σ v (by omega))]
    · have ih := puts_upd (v := v) ho hs a n (by omega) (fun j oj hj hne hoj => hd j oj (by omega) hne hoj)
      unfold puts
      rw [upd_other σ v (fun e => hin e.symm), ih]
      cases hq : σ n with
      | none => rfl
      | some u =>
        cases ho' : ops[n]? with
        | none => rfl
        | some o' =>
          simp only
          exact Act.put_comm _ v u (hd n o' (by omega) (fun e => hin e.symm) ho')
theorem put_size (a : Act) (d : Option Tmp) (v : Value) : (a.put d v).tmps.size = a.tmps.size := by
  cases d <;> simp [Act.put]
theorem put_eval_same (a : Act) (d : Tmp) (v : Value) (h : d < a.tmps.size) : (a.put (some d) v).eval (.tmp d) = v := by
  simp [Act.put, Act.eval, h]
theorem put_eval_other (a : Act) (x : Option Tmp) (d : Tmp) (v : Value) (h : x ≠ some d) : (a.put x v).eval (.tmp d) = a.eval (.tmp d) := by
  cases x with
  | none => rfl
  | some d' =>
    have hne : d' ≠ d := fun e => h (by rw [e])
    simp [Act.put, Act.eval, hne]
theorem puts_size {σ : Nat → Option Value} : ∀ (n : Nat) (a : Act), (puts ops σ n a).tmps.size = a.tmps.size
  | 0, _ => rfl
  | n + 1, a => by
    unfold puts
    split
    · rw [put_size, puts_size n a]
    · exact puts_size n a
/-- What a slot of the head holds, once it has come up. -/
theorem puts_eval {σ : Nat → Option Value} {i d : Nat} {v : Value} {o : Oper} (ho : ops[i]? = some o) (hd : o.dst = some d) (hs : σ i = some v) (a : Act) (hsz : d < a.tmps.size) :
    ∀ n, i < n → (∀ j oj, j < n → j ≠ i → ops[j]? = some oj → oj.dst ≠ some d) → (puts ops σ n a).eval (.tmp d) = v
  | 0, h, _ => by omega
  | n + 1, h, hne => by
    unfold puts
    by_cases hin : i = n
    · subst hin
      rw [hs, ho]
      simp only [hd]
      exact put_eval_same _ d v (by rw [puts_size]; exact hsz)
    · have ih := puts_eval ho hd hs a hsz n (by omega) (fun j oj hj h' => hne j oj (by omega) h')
      split
      · rename_i u o' _ ho'
        rw [put_eval_other _ _ _ _ (hne n o' (by omega) (fun e => hin e.symm) ho')]
        exact ih
      · exact ih
/-- What another slot holds. -/
theorem puts_eval_other (σ : Nat → Option Value) {d : Nat} (a : Act) : ∀ n, (∀ j oj, j < n → ops[j]? = some oj → oj.dst ≠ some d) → (puts ops σ n a).eval (.tmp d) = a.eval (.tmp d)
  | 0, _ => rfl
  | n + 1, hne => by
    unfold puts
    have ih := puts_eval_other σ a n (fun j oj hj h' => hne j oj (by omega) h')
    split
    · rename_i u o' _ ho'
      rw [put_eval_other _ _ _ _ (hne n o' (by omega) ho')]
      exact ih
    · exact ih
/-- No operation of the head but number i writes this slot. -/
def lone (ops : Array Oper) (n i d : Nat) : Bool := (List.range n).all fun j => decide (j = i) || match ops[j]? with
  | some oj => decide (oj.dst ≠ some d)
  | none => true
theorem lone_ne {n i d j : Nat} {oj : Oper} (h : lone ops n i d = true) (hj : j < n) (hne : j ≠ i) (ho : ops[j]? = some oj) : oj.dst ≠ some d := by
  have h1 := List.all_eq_true.1 h j (List.mem_range.2 hj)
  rw [ho] at h1
  simpa [hne] using h1
theorem puts_at {σ : Nat → Option Value} {i d n : Nat} {v : Value} {o : Oper} (hs : σ i = some v) (ho : ops[i]? = some o) (hd : o.dst = some d) (a : Act) (hsz : d < a.tmps.size) (hi : i < n) (h : lone ops n i d = true) : (puts ops σ n a).eval (.tmp d) = v :=
  puts_eval ho hd hs a hsz n hi (fun _ _ hj hne hoj => lone_ne h hj hne hoj)
theorem puts_off (σ : Nat → Option Value) {d n : Nat} (a : Act) (h : lone ops n n d = true) : (puts ops σ n a).eval (.tmp d) = a.eval (.tmp d) :=
  puts_eval_other σ a n (fun _ _ hj hoj => lone_ne h hj (by omega) hoj)
theorem enters {f : FuncId} {fn : Func} (hf : P.funcs[f]? = some fn) (hname : (fn.name == "runtime.NumGoroutine") = false) (hb : fn.body.isSome = true) (args : Array Value) (w : World) : (callFunc f args).run P w = .ok (.enter f args) w := by
  have h1 : fn.name ≠ "runtime.NumGoroutine" := by simpa using hname
  obtain ⟨c, hc⟩ := Option.isSome_iff_exists.1 hb
  simp [callFunc, hf, h1, hc]
/-- A call of a Go function, by its contract. -/
theorem call_wp {o : Oper} {a : Act} {w : World} {K : Act → World → Prop} {f : FuncId} {fn : Func} {as : Array Operand} {ts : Array TypeId} (hf : P.funcs[f]? = some fn) (hname : (fn.name == "runtime.NumGoroutine") = false) (hb : fn.body.isSome = true)
    (args : Array Value) (hop : o.op = .call { callee := .value (.func f), args := as, argTypes := ts }) (hargs : as.map a.eval = args) (h : Calls P f args w fun e w' => ∃ v, e = .returned v ∧ K (a.put o.dst v) w') : o.wp P a w K Q := by
  have he := enters hf hname hb args w
  have hrun : (execOp a.eval o).run P w = .ok (.enter f args) w := by
    unfold execOp
    simp [hop, resolve, Deferred.ofValue, invoke, Act.eval, hargs, he]
  unfold Oper.wp
  rw [hrun, Oper.upon_enter]
  refine h.mono fun e w'' hh => ?_
  obtain ⟨v, rfl, hk⟩ := hh
  exact hk
/-- An operation that yields a value (and may make memory). -/
theorem value_wp {o : Oper} {a : Act} {w w1 : World} {v : Value} {K : Act → World → Prop} (hrun : (execOp a.eval o).run P w = .ok (.value v) w1) (h : K (a.put o.dst v) w1) : o.wp P a w K Q := by
  unfold Oper.wp
  rw [hrun]
  exact h
/-- What is asked of the head's form. -/
def headB (md : Region.Mode) (ops : Array Oper) (n : Nat) : Bool :=
  decide (n < ops.size) && Region.sinkB md ops n && Region.chainB md ops n && Region.seqB md ops (ops.size - n) n ((Array.range ops.size).map fun i => decide (i < n)) &&
    (List.range n).all fun i => match ops[i]? with
      | some o => o.guard.isNone && (o.after.all fun e => !Region.binds md e || decide (e.on < i)) &&
          (List.range n).all fun j => match ops[j]? with
            | some oj => decide (j = i) || (match o.dst, oj.dst with | some d, some d' => decide (d ≠ d') | _, _ => true)
            | none => true
      | none => false
theorem any_from {n : Nat} {a0 : Act} (hB : headB md ops n = true) (I : (Nat → Option Value) → World → Prop)
    (step : ∀ i o σ w, i < n → ops[i]? = some o → σ i = none → (∀ e ∈ o.after, Region.binds md e = true → (σ e.on).isSome = true) → I σ w →
      o.wp P (puts ops σ n a0) w (fun a' w' => ∃ v, a' = (puts ops σ n a0).put o.dst v ∧ I (upd σ i v) w') Q)
    (last : ∀ σ w, (∀ i, i < n → (σ i).isSome = true) → I σ w → wpList P ops Q (ops.toList.drop n) (puts ops σ n a0) w) :
    ∀ (u : Nat) (σ : Nat → Option Value) (listed : Array Bool) (w : World), ((List.range n).filter fun i => (σ i).isNone).length = u → HeadInv md ops n listed →
      (∀ i, i < n → listed.getD i false = (σ i).isSome) → I σ w → wpAny P md ops Q (u + (ops.size - n)) listed (puts ops σ n a0) w := by
  simp only [headB, Bool.and_eq_true, decide_eq_true_eq] at hB
  obtain ⟨⟨⟨⟨hn, hs⟩, hc⟩, hseq⟩, hall⟩ := hB
  have hop : ∀ i, i < n → ∃ o, ops[i]? = some o ∧ o.guard = none ∧ (∀ e ∈ o.after, Region.binds md e = true → e.on < i) ∧ (∀ j oj, j < n → j ≠ i → ops[j]? = some oj → ∀ d, o.dst = some d → oj.dst ≠ some d) := by
    intro i hi
    have h1 := List.all_eq_true.1 hall i (List.mem_range.2 hi)
    cases ho : ops[i]? with
    | none => rw [ho] at h1; simp at h1
    | some o =>
      rw [ho] at h1
      simp only [Bool.and_eq_true] at h1
      refine ⟨o, rfl, by simpa using h1.1.1, fun e he hb => ?_, fun j oj hj hne hoj d hd => ?_⟩
      · have := (Array.all_eq_true_iff_forall_mem.1 h1.1.2) e he
        simpa [hb] using this
      · have h2 := List.all_eq_true.1 h1.2 j (List.mem_range.2 hj)
        rw [hoj, hd] at h2
        simp only [hne, decide_false, Bool.false_or] at h2
        intro e
        rw [e] at h2
        simp at h2
  intro u
  induction u with
  | zero =>
    intro σ listed w hu inv hl hI
    have hsome : ∀ i, i < n → (σ i).isSome = true := by
      intro i hi
      have h0 := List.eq_nil_of_length_eq_zero hu
      cases hq : σ i with
      | some v => rfl
      | none =>
        have : i ∈ (List.range n).filter fun i => (σ i).isNone := List.mem_filter.2 ⟨List.mem_range.2 hi, by simp [hq]⟩
        rw [h0] at this
        cases this
    have hlisted : listed = (Array.range ops.size).map fun i => decide (i < n) := by
      apply Array.ext
      · simp [inv.size]
      · intro i h1 h2
        simp only [Array.getElem_map, Array.getElem_range]
        have hi : i < ops.size := by rw [← inv.size]; exact h1
        by_cases hin : i < n
        · have h3 := hl i hin
          rw [hsome i hin] at h3
          simp [h1] at h3
          simp [h3, hin]
        · have h3 := inv.tail i (by omega) hi
          simp [h1] at h3
          simp [h3, hin]
    have hlen : (ops.toList.drop n).length = ops.size - n := by simp
    have := wpAny_of_seq (P := P) (md := md) (ops := ops) (Q' := Q) (ops.toList.drop n) n listed (puts ops σ n a0) w (fun j => by simp [List.getElem?_drop]) (by rw [hlen, hlisted]; exact hseq) (last σ w hsome hI)
    rw [hlen] at this
    simpa using this
  | succ u ih =>
    intro σ listed w hu inv hl hI
    obtain ⟨i0, hi0, hn0⟩ : ∃ i, i < n ∧ σ i = none := by
      cases hf : (List.range n).filter fun i => (σ i).isNone with
      | nil => rw [hf] at hu; simp at hu
      | cons i r =>
        have : i ∈ (List.range n).filter fun i => (σ i).isNone := by rw [hf]; exact List.mem_cons_self
        obtain ⟨h1, h2⟩ := List.mem_filter.1 this
        exact ⟨i, List.mem_range.1 h1, by simpa using h2⟩
    have hun : ∀ i, i < n → σ i = none → listed.getD i true = false := fun i hi hq => by
      have h1 := hl i hi
      rw [hq] at h1
      exact getD_in (by rw [inv.size]; omega) (by simpa using h1)
    have hne : Region.ready md ops listed ≠ [] := by
      -- the first that has not come up
      have key : ∀ d i, i < n → σ i = none → i = d → Region.ready md ops listed ≠ [] := by
        intro d
        induction d using Nat.strongRecOn with
        | _ d ihd =>
          intro i hi hq hid
          obtain ⟨o, ho, _, hdep, _⟩ := hop i hi
          by_cases hall' : ∀ e ∈ o.after, Region.binds md e = true → listed.getD e.on false = true
          · intro h0
            have : i ∈ Region.ready md ops listed := mem_ready.2 ⟨hun i hi hq, o, ho, hall'⟩
            rw [h0] at this
            cases this
          · have ⟨e, h1⟩ := Classical.not_forall.1 hall'
            have ⟨he, h2⟩ := Classical.not_imp.1 h1
            have ⟨hb, h3⟩ := Classical.not_imp.1 h2
            have hlt := hdep e he hb
            have h4 := hl e.on (by omega)
            refine ihd e.on (by omega) e.on (by omega) ?_ rfl
            cases hq' : σ e.on with
            | none => rfl
            | some v => rw [hq'] at h4; exact absurd h4 h3
      exact key i0 i0 hi0 hn0 rfl
    rw [show u + 1 + (ops.size - n) = (u + (ops.size - n)) + 1 by omega]
    refine ⟨fun h0 => absurd h0 hne, fun j hj => ?_⟩
    have hjn : j < n := Nat.lt_of_not_le fun h => tail_waits hs hc hn inv _ i0 rfl hi0 (hun i0 hi0 hn0) j h hj
    obtain ⟨o, ho, hg, hdep, hdst⟩ := hop j hjn
    obtain ⟨hjun, oj, hoj, hdone⟩ := mem_ready.1 hj
    obtain rfl : o = oj := Option.some.inj (ho.symm.trans hoj)
    have hq : σ j = none := by
      have h1 := hl j hjn
      rw [getD_both hjun] at h1
      cases hq' : σ j with
      | none => rfl
      | some v => rw [hq'] at h1; cases h1
    have hst := step j o σ w hjn ho hq (fun e he hb => by
      have h1 := hdone e he hb
      have h2 := hdep e he hb
      rw [hl e.on (by omega)] at h1
      exact h1) hI
    have hw : wpOp P ops Q j (fun a' w' => ∃ v, a' = (puts ops σ n a0).put o.dst v ∧ I (upd σ j v) w') (puts ops σ n a0) w := by
      unfold wpOp
      simp only [ho]
      rw [if_pos (by simp [Region.wanted, hg])]
      exact .inl hst
    refine wpOp_mono (fun a' w' h' => ?_) hw
    obtain ⟨v, rfl, hI'⟩ := h'
    rw [← puts_upd (v := v) ho hq a0 n hjn hdst]
    refine ih (upd σ j v) (listed.setIfInBounds j true) w' ?_ (inv.set hj hjn) (fun i hi => ?_) hI'
    · -- one fewer
      have hsplit : ∀ m, ((List.range m).filter fun i => (σ i).isNone).length = ((List.range m).filter fun i => (upd σ j v i).isNone).length + (if j < m then 1 else 0) := by
        intro m
        induction m with
        | zero => simp
        | succ m ihm =>
          rw [List.range_succ, List.filter_append, List.filter_append, List.length_append, List.length_append, ihm]
          by_cases hmj : m = j
          · subst hmj
            simp [hq, upd_same]
          · have hu' := upd_other σ v hmj
            simp only [List.filter_cons, List.filter_nil, hu']
            by_cases hjm : j < m
            · rw [if_pos hjm, if_pos (show j < m + 1 by omega)]; omega
            · rw [if_neg hjm, if_neg (show ¬ j < m + 1 by omega)]; omega
      have := hsplit n
      rw [if_pos hjn] at this
      omega
    · by_cases hij : i = j
      · subst hij
        rw [upd_same]
        have hi' : i < listed.size := by rw [inv.size]; omega
        simp [hi']
      · rw [upd_other σ v hij, getD_set_ne false (fun e => hij e.symm)]
        exact hl i hi
/-- The region. -/
theorem region_any {id : Nat} {a : Act} {w : World} {l : List Oper} (n : Nat) (hm : P.follows .mixedOrders = true) (hB : headB .any l.toArray n = true) (I : (Nat → Option Value) → World → Prop) (h0 : I (fun _ => none) w.drew)
    (step : ∀ i o σ w, i < n → l.toArray[i]? = some o → σ i = none → (∀ e ∈ o.after, Region.binds .any e = true → (σ e.on).isSome = true) → I σ w →
      o.wp P (puts l.toArray σ n a) w (fun a' w' => ∃ v, a' = (puts l.toArray σ n a).put o.dst v ∧ I (upd σ i v) w') Q)
    (last : ∀ σ w, (∀ i, i < n → (σ i).isSome = true) → I σ w → wpList P l.toArray Q (l.drop n) (puts l.toArray σ n a) w) : (Code.region id l.toArray true).wp P Q a w := by
  refine wp_region_any hm ?_
  have hn : n < l.length := by
    simp only [headB, Bool.and_eq_true, decide_eq_true_eq] at hB
    simpa using hB.1.1.1.1
  have := any_from (P := P) (md := .any) (Q := Q) (a0 := a) hB I step (fun σ w h1 h2 => by simpa using last σ w h1 h2) n (fun _ => none) (Array.replicate l.toArray.size false) w.drew
    (by simp only [Option.isNone_none]; rw [List.filter_eq_self.2 (fun _ _ => rfl)]; simp)
    ⟨by simp, fun j oj _ hl => (by rw [getD_replicate_false] at hl; cases hl), fun t _ ht => getD_in (by simpa using ht) (getD_replicate_false _ _)⟩
    (fun i _ => by rw [getD_replicate_false]; rfl) h0
  rw [puts_none n a (fun _ _ => rfl), show n + (l.toArray.size - n) = l.toArray.size by simp; omega] at this
  exact this
end
end Go.Proofs.YtphfjhpgcdmonaaGreatDoor.Any
