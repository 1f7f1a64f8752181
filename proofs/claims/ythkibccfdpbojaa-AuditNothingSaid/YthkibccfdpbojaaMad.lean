/- A region whose order is open, of whose operations one makes memory, the others only read: whatever the order, the tail finds the same frame but for that one value. Conditions: those that are named. -/
import Derived.Test.YthkibccfdpbojaaAny
import Derived.Test.YthkibccfdpbojaaCls
namespace Go.Proofs.Ythkibccfdpbojaa.Mad
open Go Go.RowKit
open Any (puts upd headB)
/-- Operations that call nothing. -/
def tame : Op → Bool
  | .move _ | .assign _ | .pick .. | .load .. | .binOp .. | .unOp .. | .convert .. | .slice .. | .fieldAddr .. | .indexAddr .. | .index .. | .field .. | .extract .. | .nilCheck _ => true
  | _ => false
theorem no_enter_v {P : Program} {s : Sem Value} {w w' : World} {f : FuncId} {as : Array Value} : ((do let x ← s; pure (Next.value x) : Sem Next)).run P w ≠ .ok (.enter f as) w' := by
  intro h
  simp only [Sem.run_bind] at h
  cases hs : s.run P w with
  | ok u w1 => rw [hs] at h; simp [Result.andThen, Sem.run_pure] at h
  | halt x w1 => rw [hs] at h; simp [Result.andThen] at h
theorem no_enter_p {P : Program} {v : Value} {w w' : World} {f : FuncId} {as : Array Value} : (pure (Next.value v) : Sem Next).run P w ≠ .ok (.enter f as) w' := by
  intro h
  simp [Sem.run_pure] at h
theorem no_enter_b {α : Type} {P : Program} {s : Sem α} {k : α → Sem Next} {w w' : World} {f : FuncId} {as : Array Value} (hk : ∀ x w1, (k x).run P w1 ≠ .ok (.enter f as) w') : (s >>= k).run P w ≠ .ok (.enter f as) w' := by
  intro h
  simp only [Sem.run_bind] at h
  cases hs : s.run P w with
  | ok u w1 => rw [hs] at h; exact hk u w1 h
  | halt x w1 => rw [hs] at h; simp [Result.andThen] at h
theorem tame_run {P : Program} {ρ : Operand → Value} {o : Oper} (h : tame o.op = true) {w w' : World} {f : FuncId} {as : Array Value} : (execOp ρ o).run P w ≠ .ok (.enter f as) w' := by
  obtain ⟨dst, op, type, pos, after, guard⟩ := o
  cases op <;> simp only [tame] at h <;> first | (exact absurd h (by decide)) | skip
  all_goals simp only [execOp]
  all_goals first | exact no_enter_v | exact no_enter_p | skip
  case pick => exact no_enter_b (fun _ _ => no_enter_p)
  case nilCheck x =>
    split
    · intro h; simp [runtimePanic] at h
    · intro h; simp [runtimePanic] at h
    · intro h; simp [runtimePanic] at h
    · split
      · intro h; simp [runtimePanic] at h
      · refine no_enter_b (fun _ _ => no_enter_b (fun _ _ => ?_))
        split
        · exact no_enter_b (fun _ _ => no_enter_p)
        · exact no_enter_p
      · exact no_enter_p
    · exact no_enter_p
section
variable {P : Program} {ops : Array Oper} {Q : Exit → Act → World → Prop}
/-- Does an operation read this slot? -/
def looks (o : Oper) (d : Tmp) : Bool := o.op.operands.toList.any fun x => match x with
  | .tmp t => decide (t = d)
  | _ => false
def selects : Op → Bool
  | .select .. => true
  | _ => false
/-- Whoever reads a slot of the head waits for the one that writes it; the others are tame and do not wait for the one that makes memory. -/
def readsB (ops : Array Oper) (n m : Nat) : Bool := (List.range n).all fun i => match ops[i]? with
  | some o => (decide (i = m) || tame o.op) && !selects o.op && (List.range n).all fun j => match ops[j]? with
    | some oj => (match oj.dst with
      | some d => !(looks o d) || (decide (j < i) && decide (j ≠ m) && o.after.toList.any fun e => decide (e.on = j) && Region.binds .any e)
      | none => false)
    | none => false
  | none => false
/-- What is known of those that are ahead of number i. -/
def ahead (V : Nat → Option Value) (i : Nat) : Nat → Option Value := fun j => if j < i then V j else none
theorem reads {n m i j : Nat} (h : readsB ops n m = true) {o oj : Oper} (hi : i < n) (ho : ops[i]? = some o) (hj : j < n) (hoj : ops[j]? = some oj) {d : Tmp} (hd : oj.dst = some d) (hl : looks o d = true) :
    j < i ∧ j ≠ m ∧ ∃ e ∈ o.after, e.on = j ∧ Region.binds .any e = true := by
  have h1 := List.all_eq_true.1 h i (List.mem_range.2 hi)
  simp only [ho, Bool.and_eq_true] at h1
  have h2 := List.all_eq_true.1 h1.2 j (List.mem_range.2 hj)
  simp only [hoj, hd, hl, Bool.not_true, Bool.false_or, Bool.and_eq_true, decide_eq_true_eq] at h2
  obtain ⟨e, he, h3⟩ := List.any_eq_true.1 h2.2
  simp only [Bool.and_eq_true, decide_eq_true_eq] at h3
  exact ⟨h2.1.1, h2.1.2, e, by simpa using he, h3.1, h3.2⟩
theorem tame_of {n m i : Nat} (h : readsB ops n m = true) {o : Oper} (hi : i < n) (ho : ops[i]? = some o) (hne : i ≠ m) : tame o.op = true := by
  have h1 := List.all_eq_true.1 h i (List.mem_range.2 hi)
  simp only [ho, Bool.and_eq_true] at h1
  simpa [hne] using h1.1.1
theorem nosel {n m i : Nat} (h : readsB ops n m = true) {o : Oper} (hi : i < n) (ho : ops[i]? = some o) : ∀ cs b, o.op ≠ .select cs b := by
  have h1 := List.all_eq_true.1 h i (List.mem_range.2 hi)
  simp only [ho, Bool.and_eq_true] at h1
  intro cs b e
  have := h1.1.2
  rw [e] at this
  simp [selects] at this
theorem puts_eval_congr {σ τ : Nat → Option Value} {d : Tmp} (a : Act) : ∀ n, (∀ j o, j < n → ops[j]? = some o → o.dst = some d → σ j = τ j) → (puts ops σ n a).eval (.tmp d) = (puts ops τ n a).eval (.tmp d)
  | 0, _ => rfl
  | n + 1, h => by
    have ih := puts_eval_congr a n (fun j o hj => h j o (by omega))
    unfold puts
    cases ho : ops[n]? with
    | none => cases σ n <;> cases τ n <;> exact ih
    | some o =>
      by_cases hd : o.dst = some d
      · rw [h n o (by omega) ho hd]
        cases τ n with
        | none => exact ih
        | some v =>
          simp only [hd]
          have hs1 := Any.puts_size (ops := ops) (σ := σ) n a
          have hs2 := Any.puts_size (ops := ops) (σ := τ) n a
          by_cases hlt : d < a.tmps.size
          · rw [Any.put_eval_same _ d v (by rw [hs1]; exact hlt), Any.put_eval_same _ d v (by rw [hs2]; exact hlt)]
          · have hge : a.tmps.size ≤ d := Nat.le_of_not_lt hlt
            have e1 : (puts ops σ n a).tmps.setIfInBounds d v = (puts ops σ n a).tmps := Array.setIfInBounds_eq_of_size_le (by rw [hs1]; exact hge)
            have e2 : (puts ops τ n a).tmps.setIfInBounds d v = (puts ops τ n a).tmps := Array.setIfInBounds_eq_of_size_le (by rw [hs2]; exact hge)
            simp only [Act.put, Act.eval] at ih ⊢
            rw [e1, e2]
            exact ih
      · cases σ n <;> cases τ n <;> simp only
        · exact ih
        · rw [Any.put_eval_other _ _ _ _ hd]; exact ih
        · rw [Any.put_eval_other _ _ _ _ hd]; exact ih
        · rw [Any.put_eval_other _ _ _ _ hd, Any.put_eval_other _ _ _ _ hd]; exact ih
theorem agree {n m i : Nat} (h : readsB ops n m = true) {o : Oper} (hi : i < n) (ho : ops[i]? = some o) {σ τ : Nat → Option Value} (a : Act)
    (hst : ∀ j, j < i → j ≠ m → (∃ e ∈ o.after, e.on = j ∧ Region.binds .any e = true) → σ j = τ j) : execOp (puts ops σ n a).eval o = execOp (puts ops τ n a).eval o :=
  execOp_congr o (nosel h hi ho) fun x hx => by
    cases x with
    | tmp d =>
      refine puts_eval_congr a n fun j oj hj hoj hd => ?_
      obtain ⟨h1, h2, h3⟩ := reads h hi ho hj hoj hd (List.any_eq_true.2 ⟨.tmp d, by simpa using hx, by simp⟩)
      exact hst j h1 h2 h3
    | const v => rfl
    | global g => rfl
    | func f => rfl
/-- The pure operations that are left from number k on. -/
def restFrom (l : List Oper) (n m k : Nat) : List Oper := if m < k then (l.take n).drop k else ((l.take n).drop k).eraseIdx (m - k)
theorem restFrom_step {l : List Oper} {n m k : Nat} {o : Oper} (hk : k < n) (ho : l[k]? = some o) : restFrom l n m k = if k = m then restFrom l n m (k + 1) else o :: restFrom l n m (k + 1) := by
  have hl : k < l.length := (List.getElem?_eq_some_iff.1 ho).1
  have hd : (l.take n).drop k = o :: (l.take n).drop (k + 1) := by
    have h1 : k < (l.take n).length := by rw [List.length_take]; omega
    rw [List.drop_eq_getElem_cons h1]
    congr 1
    rw [List.getElem_take]
    exact (List.getElem?_eq_some_iff.1 ho).2
  unfold restFrom
  rw [hd]
  by_cases h : k = m
  · subst h
    simp
  · rw [if_neg h]
    by_cases h2 : m < k
    · rw [if_pos h2, if_pos (by omega)]
    · rw [if_neg h2, if_neg (by omega), show m - k = (m - (k + 1)) + 1 by omega, List.eraseIdx_cons_succ]
theorem restFrom_end {l : List Oper} {n m : Nat} (hn : n ≤ l.length) (hm : m < n) : restFrom l n m n = [] := by
  unfold restFrom
  rw [if_pos hm]
  exact List.drop_of_length_le (by rw [List.length_take]; omega)
theorem head_op {n i : Nat} (hB : headB .any ops n = true) (hi : i < n) : ∃ o, ops[i]? = some o ∧ o.guard = none ∧ (∀ j oj, j < n → j ≠ i → ops[j]? = some oj → ∀ d, o.dst = some d → oj.dst ≠ some d) := by
  simp only [headB, Bool.and_eq_true, decide_eq_true_eq] at hB
  obtain ⟨_, hall⟩ := hB
  have h1 := List.all_eq_true.1 hall i (List.mem_range.2 hi)
  cases ho : ops[i]? with
  | none => rw [ho] at h1; simp at h1
  | some o =>
    rw [ho] at h1
    simp only [Bool.and_eq_true] at h1
    refine ⟨o, rfl, by simpa using h1.1.1, fun j oj hj hne hoj d hd => ?_⟩
    have h2 := List.all_eq_true.1 h1.2 j (List.mem_range.2 hj)
    rw [hoj, hd] at h2
    simp only [hne, decide_false, Bool.false_or] at h2
    intro e
    rw [e] at h2
    simp at h2
theorem extract {l : List Oper} {n m : Nat} (hB : headB .any l.toArray n = true) (hmn : m < n) (hn : n ≤ l.length) {C : World → Prop} {Qf : Act → Prop} {a : Act} :
    ∀ (u k : Nat) (σ : Nat → Option Value), k + u = n → (∀ j, k ≤ j → σ j = none) → σ m = none → wpQuiet P l.toArray C Qf (restFrom l n m k) (puts l.toArray σ n a) →
    ∃ V : Nat → Option Value, (∀ j, j < k → V j = σ j) ∧ V m = none ∧ (∀ j, k ≤ j → j < n → j ≠ m → (V j).isSome = true) ∧
      (∀ i o v, k ≤ i → i < n → l.toArray[i]? = some o → V i = some v → ∀ w, C w → o.quietAt P (puts l.toArray (ahead V i) n a) C w v) ∧ Qf (puts l.toArray V n a)
  | 0, k, σ, hk, hσ, hm, h => by
    obtain rfl : k = n := by omega
    rw [restFrom_end hn hmn] at h
    exact ⟨σ, fun _ _ => rfl, hm, fun _ _ _ _ => by omega, fun _ _ _ _ _ => by omega, h⟩
  | u + 1, k, σ, hk, hσ, hm, h => by
    have hkn : k < n := by omega
    obtain ⟨o, ho, hg, hdst⟩ := head_op hB hkn
    rw [restFrom_step hkn (by simpa using ho)] at h
    by_cases hkm : k = m
    · rw [if_pos hkm] at h
      obtain ⟨V, h1, h2, h3, h4, h5⟩ := extract hB hmn hn u (k + 1) σ (by omega) (fun j hj => hσ j (by omega)) hm h
      refine ⟨V, fun j hj => h1 j (by omega), h2, fun j hj hjn hne => h3 j (by omega) hjn hne, fun i o' v hi hin ho' hv => ?_, h5⟩
      by_cases hik : i = k
      · rw [hik, hkm, h2] at hv; cases hv
      · exact h4 i o' v (by omega) hin ho' hv
    · rw [if_neg hkm] at h
      unfold wpQuiet at h
      rw [if_pos (by simp [Region.wanted, hg])] at h
      obtain ⟨v, hq, hrest⟩ := h
      rw [← Any.puts_upd (v := v) ho (hσ k (Nat.le_refl _)) a n hkn hdst] at hrest
      obtain ⟨V, h1, h2, h3, h4, h5⟩ := extract hB hmn hn u (k + 1) (upd σ k v) (by omega) (fun j hj => by rw [Any.upd_other σ v (by omega)]; exact hσ j (by omega)) (by rw [Any.upd_other σ v (fun e => hkm e.symm)]; exact hm) hrest
      have hVk : V k = some v := by rw [h1 k (by omega), Any.upd_same]
      refine ⟨V, fun j hj => by rw [h1 j (by omega), Any.upd_other σ v (by omega)], h2, fun j hj hjn hne => ?_, fun i o' v' hi hin ho' hv => ?_, h5⟩
      · by_cases hjk : j = k
        · rw [hjk, hVk]; rfl
        · exact h3 j (by omega) hjn hne
      · by_cases hik : i = k
        · subst hik
          obtain rfl : o = o' := Option.some.inj (ho.symm.trans ho')
          obtain rfl : v = v' := Option.some.inj (hVk.symm.trans hv)
          have e : ahead V i = σ := by
            funext j
            unfold ahead
            by_cases hj : j < i
            · rw [if_pos hj, h1 j (by omega), Any.upd_other σ v (by omega)]
            · rw [if_neg hj, hσ j (by omega)]
          rw [e]
          exact hq
        · exact h4 i o' v' (by omega) hin ho' hv
theorem wp_of_quietAt {o : Oper} {a : Act} {C : World → Prop} {w : World} {v : Value} {K : Act → World → Prop} {Q' : Exit → Act → World → Prop} (ht : tame o.op = true) (h : o.quietAt P a C w v) (hK : K (a.put o.dst v) w) : o.wp P a w K Q' := by
  unfold Oper.quietAt at h
  unfold Oper.wp
  cases hr : (execOp a.eval o).run P w with
  | halt x w' => rw [hr] at h; exact h.elim
  | ok x w' =>
    rw [hr] at h
    cases x <;> simp only [Oper.quietUpon] at h <;> simp only [Oper.upon]
    case value u =>
      obtain ⟨e1, e2⟩ := h
      rw [e1, e2]
      exact hK
    case skip =>
      obtain ⟨e1, e2⟩ := h
      rw [e1, ← e2]
      exact hK
    case enter f args => exact absurd hr (tame_run ht)
/-- The region: one operation makes memory, the others only read; the tail is a chain. -/
theorem region_made {id : Nat} {a : Act} {w : World} {l : List Oper} (n m : Nat) (om : Oper) (hom : l[m]? = some om) (hm : P.follows .mixedOrders = true) (hB : headB .any l.toArray n = true) (hR : readsB l.toArray n m = true) (hmn : m < n) (Made : World → Value → Prop)
    (h : wpQuiet P l.toArray (Cls.In (Cls.Kept w.drew)) (fun F => (∀ w1, Below w.drew.heap.size w.drew w1 → ∃ v w2, (execOp F.eval om).run P w1 = .ok (.value v) w2 ∧ Below w1.heap.size w1 w2 ∧ Made w2 v) ∧
      ∀ v w1, Below w.drew.heap.size w.drew w1 → Made w1 v → wpList P l.toArray Q (l.drop n) (F.put om.dst v) w1) ((l.take n).eraseIdx m) a) : (Code.region id l.toArray true).wp P Q a w := by
  have hn : n < l.length := by
    simp only [headB, Bool.and_eq_true, decide_eq_true_eq] at hB
    simpa using hB.1.1.1.1
  have e0 : restFrom l n m 0 = (l.take n).eraseIdx m := by
    unfold restFrom
    rw [if_neg (by omega), List.drop_zero, Nat.sub_zero]
  obtain ⟨V, _, hVm, hVs, hVq, hmade, hlast⟩ := extract hB hmn (Nat.le_of_lt hn) n 0 (fun _ => none) (by omega) (fun _ _ => rfl) rfl (by rw [Any.puts_none n a (fun _ _ => rfl), e0]; exact h)
  refine Any.region_any n hm hB (fun σ w1 => Below w.drew.heap.size w.drew w1 ∧ (∀ j v, j ≠ m → σ j = some v → V j = some v) ∧ ∀ v, σ m = some v → Made w1 v) ⟨Below.refl _ _, by simp, by simp⟩ ?_ ?_
  · intro i o σ w1 hi ho hs hdep ⟨hb, hV, hMd⟩
    have known : ∀ j, j ≠ m → (∃ e ∈ o.after, e.on = j ∧ Region.binds .any e = true) → σ j = V j := by
      rintro j hj ⟨e, he, rfl, hbd⟩
      obtain ⟨v, hv⟩ := Option.isSome_iff_exists.1 (hdep e he hbd)
      rw [hv, hV _ v hj hv]
    by_cases him : i = m
    · subst him
      obtain rfl : om = o := by
        have : l[i]? = some o := by simpa using ho
        exact Option.some.inj (hom.symm.trans this)
      obtain ⟨v, w2, hrun, hb2, hM⟩ := hmade w1 hb
      refine Any.value_wp (v := v) (w1 := w2) ?_ ⟨v, rfl, hb.trans (hb2.mono hb.size), fun j u hj hu => ?_, fun u hu => ?_⟩
      · rw [agree hR hi ho a (fun j _ hj hd => known j hj hd)]
        exact hrun
      · rw [Any.upd_other σ v hj] at hu
        exact hV j u hj hu
      · rw [Any.upd_same] at hu
        obtain rfl := Option.some.inj hu
        exact hM
    · obtain ⟨v, hv⟩ := Option.isSome_iff_exists.1 (hVs i (Nat.zero_le _) hi him)
      have hq := hVq i o v (Nat.zero_le _) hi ho hv w1 ⟨⟨w1, hb⟩, rfl⟩
      have hag : execOp (puts l.toArray σ n a).eval o = execOp (puts l.toArray (ahead V i) n a).eval o := agree hR hi ho a (fun j hji hj hd => by
        rw [known j hj hd]
        unfold ahead
        rw [if_pos hji])
      have hq' : o.quietAt P (puts l.toArray σ n a) (Cls.In (Cls.Kept w.drew)) w1 v := by
        unfold Oper.quietAt at hq ⊢
        rw [hag]
        exact hq
      refine wp_of_quietAt (tame_of hR hi ho him) hq' ⟨v, rfl, hb, fun j u hj hu => ?_, fun u hu => ?_⟩
      · by_cases hji : j = i
        · subst hji
          rw [Any.upd_same] at hu
          rw [hv, hu]
        · rw [Any.upd_other σ v hji] at hu
          exact hV j u hj hu
      · rw [Any.upd_other σ v (fun e => him e.symm)] at hu
        exact hMd u hu
  · intro σ w1 hall ⟨hb, hV, hMd⟩
    obtain ⟨v, hv⟩ := Option.isSome_iff_exists.1 (hall m hmn)
    obtain ⟨o', ho', _, hdst⟩ := head_op hB hmn
    obtain rfl : om = o' := by
      have : l[m]? = some o' := by simpa using ho'
      exact Option.some.inj (hom.symm.trans this)
    have e : puts l.toArray σ n a = (puts l.toArray V n a).put om.dst v := by
      rw [← Any.puts_upd (v := v) ho' hVm a n hmn hdst]
      refine Any.puts_congr n a fun j hj => ?_
      by_cases hjm : j = m
      · rw [hjm, Any.upd_same, hv]
      · rw [Any.upd_other V v hjm]
        obtain ⟨u, hu⟩ := Option.isSome_iff_exists.1 (hall j hj)
        rw [hu, hV j u hjm hu]
    rw [e]
    exact hlast v w1 hb (hMd v hv)
end
end Go.Proofs.Ythkibccfdpbojaa.Mad
