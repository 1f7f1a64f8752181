/- The executor made for the kernel: chains, code, calls. Condition: what is said of the calls. -/
import Derived.Test.YtlagmjdifilheaaGreatExP
import Derived.LoopN
namespace Go.Proofs.YtlagmjdifilheaaGreat.Exe
open Go Go.RowKit
section chain
variable {P : Program} {B : Nat → Prop} {w0 : World} {F : CallC} {L n : Nat}
/-- A guard: what it lets come up. -/
theorem guard_cases {x : KV} {want : Bool} {d : KD} {k l : KC} {e : T4 W} {h : Hp} {q : T4 W → Hp → Bool} (hr : runK P F L n (.grd x want d k l) e h q = true) :
    ((x.at e).val = .bool want ∧ runK P F L n k e h q = true) ∨ ((∀ t, (x.at e).val = .bool t → t ≠ want) ∧ runK P F L n l (d.put e (.o undef)) h q = true) := by
  have hr' : (W.rec (motive := fun _ => Bool) (fun _ => runK P F L n l (d.put e (.o undef)) h q) (fun _ => runK P F L n l (d.put e (.o undef)) h q)
    (fun t => Bool.rec (runK P F L n l (d.put e (.o undef)) h q) (runK P F L n k e h q) (t == want)) (fun _ _ => runK P F L n l (d.put e (.o undef)) h q) (fun v => match v with
      | .bool _ => false
      | _ => runK P F L n l (d.put e (.o undef)) h q) (x.at e) : Bool) = true := hr
  cases hx : x.at e with
  | b t =>
    rw [hx] at hr'
    dsimp only at hr'
    cases ht : t == want with
    | true =>
      rw [ht] at hr'
      left
      exact ⟨by rw [show t = want by simpa using ht]; rfl, hr'⟩
    | false =>
      rw [ht] at hr'
      right
      refine ⟨fun t' h' => ?_, hr'⟩
      have : t = t' := by injection h'
      rw [← this]
      intro e1
      rw [e1] at ht
      simp at ht
  | o v =>
    rw [hx] at hr'
    dsimp only at hr'
    split at hr'
    · cases hr'
    · rename_i hv
      right
      exact ⟨fun t h' => absurd h' (hv t), hr'⟩
  | u a => rw [hx] at hr'; right; exact ⟨fun t h' => (by cases h'), hr'⟩
  | i a => rw [hx] at hr'; right; exact ⟨fun t h' => (by cases h'), hr'⟩
  | p a b => rw [hx] at hr'; right; exact ⟨fun t h' => (by cases h'), hr'⟩
/-- What the guard's slot tells. -/
theorem wanted_iff {E : Env} {e : T4 W} {a : Act} {ops : List Oper} {o : Oper} {j : Nat} {want : Bool} {g : Tmp} (hT : Rel E (evK L n e (.tmp g)) (a.eval (.tmp g))) (hg : o.guard = some (j, want)) (hd : (ops[j]?).bind (·.dst) = some g) :
    Region.wanted o (yielded ops.toArray a.tmps) = true ↔ evK L n e (.tmp g) = .bool want := by
  have he : a.eval (.tmp g) = a.tmps.getD g undef := rfl
  unfold Region.wanted
  rw [hg]
  simp only [yielded]
  have e1 : (ops.toArray[j]?).bind (·.dst) = some g := by rw [← hd]; simp
  rw [e1]
  simp only [Option.bind_some]
  rw [he, Array.getD_eq_getD_getElem?] at hT
  cases hv : a.tmps[g]? with
  | none =>
    rw [hv] at hT
    simp only [Option.getD_none] at hT
    constructor
    · intro h'; exact absurd h' (by simp)
    · intro h'
      rw [h'] at hT
      have := hT.of_bool
      cases this
  | some v =>
    rw [hv] at hT
    simp only [Option.getD_some] at hT
    constructor
    · intro h'
      cases v with
      | bool b =>
        have hb : b = want := by simpa using h'
        subst hb
        cases hE : evK L n e (.tmp g) with
        | bool c =>
          rw [hE] at hT
          have := hT.of_bool
          injection this with h1
          rw [h1]
        | _ => rw [hE] at hT; cases hT
      | _ => simp at h'
    · intro h'
      rw [h'] at hT
      rw [hT.of_bool]
      simp
def ChainT (P : Program) (L n : Nat) (ops os : List Oper) (e : T4 W) (h : Hp) (e' : T4 W) (h' : Hp) : Prop := ∀ {B : Nat → Prop} {w0 : World} (E : Env) (w : World) (a : Act) (Q : Exit → Act → World → Prop), WR E P B w0 w h → RK L n E e a →
  (∀ E' w' a', Grow E h E' h' → WR E' P B w0 w' h' → RK L n E' e' a' → Q .normal a' w') → wpList P ops.toArray Q os a w
theorem chain_ok (hF : CallSound P F) (hL : L ≤ 4 ^ n) (ops : List Oper) : ∀ (os : List Oper) (e : T4 W) (h : Hp) (q : T4 W → Hp → Bool), runK P F L n (chainK P L n ops os) e h q = true → ∃ e' h', q e' h' = true ∧ ChainT P L n ops os e h e' h'
  | [], e, h, q, hr => ⟨e, h, hr, fun E w a Q W K hQ => hQ E w a (Grow.refl E h) W K⟩
  | o :: os, e, h, q, hr => by
    have hr' : runK P F L n (operK P L n ops o (chainK P L n ops os)) e h q = true := hr
    unfold operK at hr'
    cases hx : o.op.operands.toList.all opdB with
    | false => rw [hx] at hr'; cases hr'
    | true =>
      rw [hx, cond_true] at hr'
      have run1 : ∀ (e1 : T4 W), One P F L n e1 h q o (kd L n o.dst) (chainK P L n ops os) → ∃ e' h', q e' h' = true ∧ ∀ {B : Nat → Prop} {w0 : World} (E : Env) (w : World) (a : Act) (Q : Exit → Act → World → Prop), WR E P B w0 w h → RK L n E e1 a →
          (∀ E' w' a', Grow E h E' h' → WR E' P B w0 w' h' → RK L n E' e' a' → Q .normal a' w') → o.wp P a w (wpList P ops.toArray Q os) Q := by
        intro e1 ⟨v, h1, hT, hr1⟩
        obtain ⟨e', h', hq, hC⟩ := chain_ok hF hL ops os _ h1 q hr1
        refine ⟨e', h', hq, fun E w a Q W K hQ => hT.opT opdB E w a _ Q hx W K.relE fun x w' hA => ?_⟩
        obtain ⟨E1, g1, g2, g3⟩ := hA
        exact hC E1 w' _ Q g3 ((K.mono g1.1).put hL g2 o.dst) fun E' w2 a' k1 k2 k3 => hQ E' w2 a' (g1.trans k1) k2 k3
      cases hg : o.guard with
      | none =>
        rw [hg] at hr'
        obtain ⟨e', h', hq, hC⟩ := run1 e (op_one hF hr')
        refine ⟨e', h', hq, fun E w a Q W K hQ => ?_⟩
        unfold wpList
        have : Region.wanted o (yielded ops.toArray a.tmps) = true := by unfold Region.wanted; rw [hg]
        rw [if_pos this]
        exact .inl (hC E w a Q W K hQ)
      | some p =>
        obtain ⟨j, want⟩ := p
        rw [hg] at hr'
        dsimp only at hr'
        cases hd : (ops[j]?).bind (·.dst) with
        | none => rw [hd] at hr'; cases hr'
        | some g =>
          rw [hd] at hr'
          rcases guard_cases hr' with ⟨h1, h2⟩ | ⟨h1, h2⟩
          · obtain ⟨e', h', hq, hC⟩ := run1 e (op_one hF h2)
            refine ⟨e', h', hq, fun E w a Q W K hQ => ?_⟩
            unfold wpList
            rw [if_pos ((wanted_iff (K.relE (.tmp g) rfl) hg hd).2 h1)]
            exact .inl (hC E w a Q W K hQ)
          · obtain ⟨e', h', hq, hC⟩ := chain_ok hF hL ops os _ h q h2
            refine ⟨e', h', hq, fun E w a Q W K hQ => ?_⟩
            unfold wpList
            have : ¬ Region.wanted o (yielded ops.toArray a.tmps) = true := fun hw => h1 want ((wanted_iff (K.relE (.tmp g) rfl) hg hd).1 hw) rfl
            rw [if_neg this]
            exact hC E w _ Q W (K.put hL Rel.undef o.dst) hQ
end chain
section code
variable {P : Program} {B : Nat → Prop} {w0 : World}
/-- A piece of code, from a frame and a heap by names to others. -/
def CodeT (P : Program) (L n : Nat) (c : Code) (e : T4 W) (h : Hp) (out : Exit) (e' : T4 W) (h' : Hp) : Prop := ∀ {B : Nat → Prop} {w0 : World} (E : Env) (w : World) (a : Act) (Q : Exit → Act → World → Prop), WR E P B w0 w h → RK L n E e a →
  (∀ E' w' a', Grow E h E' h' → WR E' P B w0 w' h' → RK L n E' e' a' → Q out a' w') → c.wp P Q a w
def RoundsT (P : Program) (L n : Nat) (c : Code) (e : T4 W) (h : Hp) (out : Exit) (e' : T4 W) (h' : Hp) : Prop := ∃ N, ∀ {B : Nat → Prop} {w0 : World} (E : Env) (w : World) (a : Act) (Q : Exit → Act → World → Prop), WR E P B w0 w h → RK L n E e a →
  (∀ E' w' a', Grow E h E' h' → WR E' P B w0 w' h' → RK L n E' e' a' → Q out a' w') → Code.rounds P c Q N a w
/-- The ways out of code, and what is asked behind each. -/
def Fin (kn : T4 W → Hp → Bool) (ke : Nat → T4 W → Hp → Bool) (kr : T4 W → Hp → Bool) (e : T4 W) (h : Hp) : Exit → Prop
  | .normal => kn e h = true
  | .exit i => ke i e h = true
  | .ret => kr e h = true
  | _ => False
def XSound (P : Program) (X : XC) : Prop := ∀ (L n : Nat) (c : Code) (e : T4 W) (h : Hp) (kn : T4 W → Hp → Bool) (ke : Nat → T4 W → Hp → Bool) (kr : T4 W → Hp → Bool), L ≤ 4 ^ n → X L n (codeK P L n c) e h kn ke kr = true →
  ∃ out e' h', Fin kn ke kr e' h' out ∧ CodeT P L n c e h out e' h'
def LSound (P : Program) (X : XC) : Prop := ∀ (L n : Nat) (c : Code) (e : T4 W) (h : Hp) (kn : T4 W → Hp → Bool) (ke : Nat → T4 W → Hp → Bool) (kr : T4 W → Hp → Bool), L ≤ 4 ^ n → X L n (.loop (codeK P L n c)) e h kn ke kr = true →
  ∃ out e' h', Fin kn ke kr e' h' out ∧ out ≠ .normal ∧ RoundsT P L n c e h out e' h'
theorem tmp_rel {E : Env} {L n : Nat} {e : T4 W} {a : Act} (K : RK L n E e a) (t : Tmp) : Rel E (evK L n e (.tmp t)) (a.tmps.getD t undef) := K.relE (.tmp t) rfl
theorem allQ_cons {o : Option Value} {l : List (Option Value)} {vs : List Value} (h : allQ (o :: l) = some vs) : ∃ v r, o = some v ∧ allQ l = some r ∧ vs = v :: r := by
  cases o with
  | none => cases h
  | some v =>
    unfold allQ at h
    cases hr : allQ l with
    | none => simp [hr] at h
    | some r =>
      simp only [hr, Option.map_some, Option.some.injEq] at h
      exact ⟨v, r, rfl, rfl, h.symm⟩
def resM (a : Array Value) : ResultVar → Sem Value
  | .tmp t => pure (a.getD t undef)
  | .cell b t => do loadVar t (← asAddr (a.getD b undef))
theorem results_eq (fn : Func) (a : Array Value) : results fn a = (do let vs ← fn.results.mapM (resM a); pure (if h : vs.size = 1 then vs[0] else Value.tuple vs) : Sem Value) := by
  unfold results
  refine congrArg (fun f => (do let vs ← fn.results.mapM f; pure (if h : vs.size = 1 then vs[0] else Value.tuple vs) : Sem Value)) (funext fun r => ?_)
  cases r <;> rfl
theorem results_list {E : Env} {w : World} {h : Hp} {L n : Nat} {e : T4 W} {a : Act} (W : WR E P B w0 w h) (K : RK L n E e a) : ∀ {rs : List ResultVar} {vs : List Value}, allQ (rs.map (resAtK P L n h e)) = some vs →
    ∃ xs, RelL E vs xs ∧ (rs.mapM (m := Sem) (resM a.tmps)).run P w = .ok xs w
  | [], vs, hq => by cases hq; exact ⟨[], trivial, rfl⟩
  | r :: rs, vs, hq => by
    obtain ⟨v, r', h1, h2, rfl⟩ := allQ_cons hq
    obtain ⟨xs, k1, k2⟩ := results_list W K h2
    cases r with
    | tmp t =>
      cases h1
      refine ⟨_ :: xs, ⟨tmp_rel K t, k1⟩, ?_⟩
      rw [List.mapM_cons]
      simp only [resM, Sem.run_bind, Sem.run_pure, Result.andThen_ok, k2]
    | cell b t =>
      have hr := tmp_rel K b
      obtain ⟨y, y1, y2⟩ := loadQ_ok W (show loadQ P h t (evK L n e (.tmp b)) = some v from h1) hr
      have hp : ∃ p, a.tmps.getD b undef = .pointer (some p) := by
        have h3 : loadQ P h t (evK L n e (.tmp b)) = some v := h1
        unfold loadQ at h3
        split at h3
        · rename_i i off he
          rw [he] at hr
          obtain ⟨b', _, e⟩ := hr.to_ptr
          exact ⟨_, e⟩
        · cases h3
      obtain ⟨p, hp⟩ := hp
      refine ⟨y :: xs, ⟨y1, k1⟩, ?_⟩
      rw [List.mapM_cons]
      have : (do loadVar t (← asAddr (a.tmps.getD b undef)) : Sem Value).run P w = .ok y w := by
        rw [hp] at y2 ⊢
        exact y2
      have : (resM a.tmps (.cell b t)).run P w = .ok y w := this
      simp only [Sem.run_bind, this, Sem.run_pure, Result.andThen_ok, k2]
theorem results_ok {E : Env} {w : World} {h : Hp} {L n : Nat} {e : T4 W} {a : Act} {fn : Func} {v : Value} (W : WR E P B w0 w h) (K : RK L n E e a) (hq : resultsK P L n h e fn = some v) : ∃ x, Rel E v x ∧ (results fn a.tmps).run P w = .ok x w := by
  unfold resultsK at hq
  cases hA : allQ (fn.results.toList.map (resAtK P L n h e)) with
  | none => rw [hA] at hq; cases hq
  | some vs =>
    rw [hA] at hq
    obtain ⟨xs, k1, k2⟩ := results_list W K hA
    have hrun : (results fn a.tmps).run P w = .ok (if hs : xs.toArray.size = 1 then xs.toArray[0] else .tuple xs.toArray) w := by
      rw [results_eq, Array.mapM_eq_mapM_toList]
      simp only [Sem.run_bind, Sem.run_map, Sem.run_pure, k2]
      rfl
    refine ⟨_, ?_, hrun⟩
    cases vs with
    | nil =>
      cases xs with
      | nil => cases hq; exact relL_tuple trivial
      | cons _ _ => exact k1.elim
    | cons v1 vs =>
      cases xs with
      | nil => exact k1.elim
      | cons x1 xs =>
        cases vs with
        | nil =>
          cases xs with
          | nil => cases hq; exact k1.1
          | cons _ _ => exact k1.2.elim
        | cons v2 vs =>
          cases xs with
          | nil => exact k1.2.elim
          | cons x2 xs =>
            cases hq
            have : ¬ (x1 :: x2 :: xs).toArray.size = 1 := by simp
            rw [dif_neg this]
            exact relL_tuple k1
/-- A frame's slots, filled. -/
theorem fill_slot {n : Nat} : ∀ {vs : List Value} {k : Nat} {e : T4 W} {t : Nat}, k + vs.length ≤ 4 ^ n → t < 4 ^ n → slotV n (fillT n k vs e) t = if t < k then slotV n e t else match vs[t - k]? with
    | some v => v
    | none => slotV n e t
  | [], k, e, t, _, _ => by simp [fillT]
  | v :: vs, k, e, t, hk, ht => by
    have hk' : k < 4 ^ n := by simp at hk; omega
    rw [fillT, T4.putN_eq, fill_slot (by simp at hk; omega) ht]
    by_cases h1 : t < k
    · rw [if_pos (by omega), if_pos h1, slot_put hk' ht, if_neg (by omega)]
    · rw [if_neg h1]
      by_cases h2 : t = k
      · subst h2
        rw [if_pos (by omega), slot_put hk' ht, if_pos rfl, toW_val]
        simp
      · rw [if_neg (by omega), slot_put hk' ht, if_neg h2]
        have : t - k = (t - (k + 1)) + 1 := by omega
        rw [this]
        rfl
theorem slot_nil {n t : Nat} : slotV n .nil t = undef := by
  unfold slotV
  rw [getD_nil]
  rfl
theorem fill_rel {E : Env} {n L : Nat} {args args' : List Value} (hL : L ≤ 4 ^ n) (hl : args.length ≤ L) (hR : RelL E args args') : RK L n E (fillT n 0 args .nil) ⟨args'.toArray ++ Array.replicate (L - args'.toArray.size) undef, []⟩ := by
  have hlen := hR.length
  refine ⟨by simp; omega, rfl, fun t ht => ?_⟩
  rw [fill_slot (by omega) (by omega)]
  simp only [Nat.not_lt_zero, if_false, Nat.sub_zero, slot_nil]
  show Rel E _ ((args'.toArray ++ Array.replicate (L - args'.toArray.size) undef).getD t undef)
  rw [Array.getD_eq_getD_getElem?]
  cases hv : args[t]? with
  | some v =>
    obtain ⟨x, hx, hr⟩ := hR.get hv
    have hlt := (List.getElem?_eq_some_iff.1 hx).1
    rw [Array.getElem?_append_left (by simpa using hlt)]
    simpa [hx] using hr
  | none =>
    have h1 := List.getElem?_eq_none_iff.1 hv
    have : (args'.toArray ++ Array.replicate (L - args'.toArray.size) undef)[t]?.getD undef = undef := by
      rw [Array.getElem?_append_right (by simp; omega)]
      simp only [Array.getElem?_replicate]
      split <;> rfl
    rw [this]
    exact Rel.undef
/-- A call, by the body. -/
theorem body_ok {X : XC} (hX : XSound P X) (hN : ∀ (g : Nat) (fn : Func), P.funcs[g]? = some fn → fn.name ≠ "runtime.NumGoroutine") : CallSound P (bodyK P X) := by
  intro g args h k hq
  unfold bodyK at hq
  split at hq
  · rename_i fn hfn
    split at hq
    · rename_i c hc
      dsimp only at hq
      cases hlim : (Nat.blt fn.ntmps 16777216 && Nat.ble args.length fn.ntmps) with
      | false => rw [hlim] at hq; cases hq
      | true =>
      rw [hlim, cond_true] at hq
      simp only [Bool.and_eq_true] at hlim
      have hL : fn.ntmps ≤ 4 ^ deep fn.ntmps := deep_ok (Nat.le_of_ble_eq_true hlim.1)
      have hle : args.length ≤ fn.ntmps := Nat.le_of_ble_eq_true hlim.2
      obtain ⟨out, e', h', hfin, hC⟩ := hX _ _ c _ h _ _ _ hL hq
      have fin : ∀ b : Bool, (match resultsK P fn.ntmps (deep fn.ntmps) h' e' fn with
          | some v => k v h'
          | none => false) = true → ∃ v, resultsK P fn.ntmps (deep fn.ntmps) h' e' fn = some v ∧ k v h' = true := by
        intro _ hb
        cases hv : resultsK P fn.ntmps (deep fn.ntmps) h' e' fn with
        | none => rw [hv] at hb; cases hb
        | some v => rw [hv] at hb; exact ⟨v, rfl, hb⟩
      have main : (out = .normal ∨ out = .ret) → (∃ v, resultsK P fn.ntmps (deep fn.ntmps) h' e' fn = some v ∧ k v h' = true) → ∃ v h', k v h' = true ∧
          ∀ {B : Nat → Prop} {w0 : World} (E : Env) (w : World) (args' : List Value), WR E P B w0 w h → RelL E args args' →
            ((callFunc g args'.toArray).run P w = .ok (.enter g args'.toArray) w ∧ Calls P g args'.toArray w fun e w' => ∃ x, e = .returned x ∧ After P B w0 E h v h' x w') ∨
            (∃ x, (callFunc g args'.toArray).run P w = .ok (.value x) w ∧ After P B w0 E h v h' x w) := by
        rintro ho ⟨v, hv, hk⟩
        refine ⟨v, h', hk, fun E w args' W hA => .inl ⟨?_, ?_⟩⟩
        · have := hN g fn hfn
          simp [callFunc, hfn, this, hc]
        · refine calls_of_wp hfn hc (hC E w _ _ W (fill_rel hL hle hA) fun E' w' a' g1 g2 g3 => ?_)
          obtain ⟨x, x1, x2⟩ := results_ok g2 g3 hv
          have : a'.defers = [] ∧ ∃ v, (results fn a'.tmps).run P w' = .ok v w' ∧ ∃ y, Ending.returned v = .returned y ∧ After P _ _ E h _ h' y w' := ⟨g3.defers, x, x2, x, rfl, E', g1, x1, g2⟩
          rcases ho with ho | ho <;> subst ho <;> exact this
      cases out with
      | normal => exact main (.inl rfl) (fin true hfin)
      | ret => exact main (.inr rfl) (fin true hfin)
      | exit i => exact absurd hfin (by simp [Fin])
      | _ => exact hfin.elim
    · split at hq
      · rename_i v hp
        cases hc : (args.all flatB && flatB v) with
        | false => rw [hc] at hq; cases hq
        | true =>
          rw [hc, cond_true] at hq
          simp only [Bool.and_eq_true] at hc
          refine ⟨v, h, hq, fun E w args' W hA => .inr ?_⟩
          have : args' = args := by
            have hl : ∀ {l l' : List Value}, RelL E l l' → l.all flatB = true → l' = l := by
              intro l
              induction l with
              | nil => intro l' h1 _; cases l' with
                | nil => rfl
                | cons _ _ => exact h1.elim
              | cons a l ih => intro l' h1 h2; cases l' with
                | nil => exact h1.elim
                | cons b l' =>
                  simp only [List.all_cons, Bool.and_eq_true] at h2
                  rw [h1.1.of_flat h2.1, ih h1.2 h2.2]
            exact hl hA hc.1
          subst this
          exact ⟨v, pureRun_run hp, E, Grow.refl E h, .refl_flat hc.2, W⟩
      · cases hq
  · cases hq
end code
end Go.Proofs.YtlagmjdifilheaaGreat.Exe
