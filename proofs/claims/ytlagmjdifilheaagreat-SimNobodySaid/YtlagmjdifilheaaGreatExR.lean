/- The executor made for the kernel: what it tells of a call is what the model does. Condition: what is said of the functions that are known. -/
import Derived.Test.YtlagmjdifilheaaGreatExQ
namespace Go.Proofs.YtlagmjdifilheaaGreat.Exe
open Go Go.RowKit
section exec
variable {P : Program} {B : Nat → Prop} {w0 : World}
/-- What is said of one function's calls. -/
def OneSound (P : Program) (g : FuncId) (f : List Value → Hp → (Value → Hp → Bool) → Bool) : Prop := ∀ (args : List Value) (h : Hp) (k : Value → Hp → Bool), f args h k = true → ∃ v h', k v h' = true ∧
  ∀ {B : Nat → Prop} {w0 : World} (E : Env) (w : World) (args' : List Value), WR E P B w0 w h → RelL E args args' →
    ((callFunc g args'.toArray).run P w = .ok (.enter g args'.toArray) w ∧ Calls P g args'.toArray w fun e w' => ∃ x, e = .returned x ∧ After P B w0 E h v h' x w') ∨
    (∃ x, (callFunc g args'.toArray).run P w = .ok (.value x) w ∧ After P B w0 E h v h' x w)
structure KnownSound (P : Program) (N : KnownC) : Prop where
  leaf : ∀ g f, N.leaf g = some f → OneSound P g f
  node : ∀ g f, N.node g = some f → ∀ F, CallSound P F → OneSound P g (f F)
theorem leaf_ok {N : KnownC} (hK : KnownSound P N) {X : XC} (hX : XSound P X) (hN : ∀ (g : Nat) (fn : Func), P.funcs[g]? = some fn → fn.name ≠ "runtime.NumGoroutine") : CallSound P (leafK P N X) := by
  intro g args h k hr
  unfold leafK at hr
  cases hl : N.leaf g with
  | none => rw [hl] at hr; exact body_ok hX hN g args h k hr
  | some f => rw [hl] at hr; exact hK.leaf g f hl args h k hr
theorem call_ok {N : KnownC} (hK : KnownSound P N) {X : XC} (hX : XSound P X) (hN : ∀ (g : Nat) (fn : Func), P.funcs[g]? = some fn → fn.name ≠ "runtime.NumGoroutine") : CallSound P (callK P N X) := by
  intro g args h k hr
  unfold callK at hr
  cases hl : N.node g with
  | none => rw [hl] at hr; exact leaf_ok hK hX hN g args h k hr
  | some f => rw [hl] at hr; exact hK.node g f hl _ (leaf_ok hK hX hN) args h k hr
theorem rk_bool {E : Env} {L n : Nat} {e : T4 W} {a : Act} {c : Operand} {t : Bool} (K : RK L n E e a) (hc : opdB c = true) (hv : (kv L n c).at e = .b t) : a.eval c = .bool t := by
  have h1 := K.relE c hc
  unfold evK at h1
  rw [hv] at h1
  exact h1.of_bool
theorem region_ok {F : CallC} (hF : CallSound P F) {L n : Nat} (hL : L ≤ 4 ^ n) {id : Nat} {ops : Array Oper} {e : T4 W} {h : Hp} {kn : T4 W → Hp → Bool} (hr : runK P F L n (chainK P L n ops.toList ops.toList) e h kn = true) :
    ∃ e' h', kn e' h' = true ∧ CodeT P L n (.region id ops false) e h .normal e' h' := by
  obtain ⟨e', h', h1, h2⟩ := chain_ok hF hL ops.toList ops.toList e h kn hr
  refine ⟨e', h', h1, fun E w a Q W K hQ => wp_region ?_⟩
  have := h2 E w a Q W K hQ
  rw [Array.toArray_toList] at this
  have he := wpOps_eq_wpList (P := P) (ops := ops) (Q := Q) ops.toList 0 (fun j => by simp)
  rw [List.range_eq_range', show ops.size = ops.toList.length by simp, he]
  exact this
/-- Regions whose order is open. -/
def DrawSound (P : Program) : Prop := ∀ (F : CallC) (L n : Nat) (id : Nat) (ops : Array Oper) (c : KC) (e : T4 W) (h : Hp) (kn : T4 W → Hp → Bool), CallSound P F → L ≤ 4 ^ n → drawK P L n ops.toList = some c → runK P F L n c e h kn = true →
  ∃ e' h', kn e' h' = true ∧ CodeT P L n (.region id ops true) e h .normal e' h'
section fuel
variable {N : KnownC} {m L n : Nat}
theorem exec_zero (L n : Nat) (c : KCode) (e : T4 W) (h : Hp) (kn : T4 W → Hp → Bool) (ke : Nat → T4 W → Hp → Bool) (kr : T4 W → Hp → Bool) : execK P N 0 L n c e h kn ke kr = false := rfl
variable (e : T4 W) (h : Hp) (kn : T4 W → Hp → Bool) (ke : Nat → T4 W → Hp → Bool) (kr : T4 W → Hp → Bool)
theorem exec_seq (a b : KCode) : execK P N (m + 1) L n (.seq a b) e h kn ke kr = execK P N (m + 1) L n a e h (fun e' h' => execK P N (m + 1) L n b e' h' kn ke kr) ke kr := rfl
theorem exec_loop (b : KCode) : execK P N (m + 1) L n (.loop b) e h kn ke kr = execK P N (m + 1) L n b e h (fun e' h' => execK P N m L n (.loop b) e' h' kn ke kr) ke kr := rfl
theorem exec_block (id : Nat) (b : KCode) : execK P N (m + 1) L n (.block id b) e h kn ke kr = execK P N (m + 1) L n b e h kn (fun j e' h' => Bool.rec (ke j e' h') (kn e' h') (Nat.beq j id)) kr := rfl
theorem exec_ops (c : KC) : execK P N (m + 1) L n (.ops c) e h kn ke kr = runK P (callK P N (execK P N m)) L n c e h kn := rfl
theorem exec_cond (x : KV) (a b : KCode) : execK P N (m + 1) L n (.cond x a b) e h kn ke kr = W.rec (motive := fun _ => Bool) (fun _ => false) (fun _ => false) (fun t => Bool.rec (execK P N (m + 1) L n b e h kn ke kr) (execK P N (m + 1) L n a e h kn ke kr) t) (fun _ _ => false) (fun _ => false) (x.at e) := rfl
theorem exec_bad : execK P N (m + 1) L n .bad e h kn ke kr = false := rfl
end fuel
theorem exec_code {N : KnownC} (hK : KnownSound P N) (hD : DrawSound P) (hN : ∀ (g : Nat) (fn : Func), P.funcs[g]? = some fn → fn.name ≠ "runtime.NumGoroutine") {m : Nat} (hX : XSound P (execK P N m)) (hLp : LSound P (execK P N m)) : XSound P (execK P N (m + 1)) ∧ LSound P (execK P N (m + 1)) := by
  have main : ∀ (c : Code) (L n : Nat) (e : T4 W) (h : Hp) (kn : T4 W → Hp → Bool) (ke : Nat → T4 W → Hp → Bool) (kr : T4 W → Hp → Bool), L ≤ 4 ^ n → execK P N (m + 1) L n (codeK P L n c) e h kn ke kr = true →
      ∃ out e' h', Fin kn ke kr e' h' out ∧ CodeT P L n c e h out e' h' := by
    have loop : ∀ (b : Code), (∀ (L n : Nat) (e : T4 W) (h : Hp) (kn : T4 W → Hp → Bool) (ke : Nat → T4 W → Hp → Bool) (kr : T4 W → Hp → Bool), L ≤ 4 ^ n → execK P N (m + 1) L n (codeK P L n b) e h kn ke kr = true → ∃ out e' h', Fin kn ke kr e' h' out ∧ CodeT P L n b e h out e' h') →
        ∀ (L n : Nat) (e : T4 W) (h : Hp) (kn : T4 W → Hp → Bool) (ke : Nat → T4 W → Hp → Bool) (kr : T4 W → Hp → Bool), L ≤ 4 ^ n → execK P N (m + 1) L n (.loop (codeK P L n b)) e h kn ke kr = true →
          ∃ out e' h', Fin kn ke kr e' h' out ∧ out ≠ .normal ∧ RoundsT P L n b e h out e' h' := by
      intro b ih L n e h kn ke kr hL hr
      rw [exec_loop] at hr
      obtain ⟨out, e1, h1, hf, hC⟩ := ih L n e h _ ke kr hL hr
      cases out with
      | normal =>
        obtain ⟨out2, e2, h2, hf2, hne, M, hR⟩ := hLp L n b e1 h1 kn ke kr hL hf
        refine ⟨out2, e2, h2, hf2, hne, M + 1, fun E w a Q W K hQ => ?_⟩
        exact hC E w a _ W K fun E' w' a' g1 g2 g3 => hR E' w' a' Q g2 g3 fun E2 w2 a2 k1 k2 k3 => hQ E2 w2 a2 (g1.trans k1) k2 k3
      | exit i =>
        exact ⟨.exit i, e1, h1, hf, (fun h => by cases h), 1, fun E w a Q W K hQ => hC E w a _ W K fun E' w' a' g1 g2 g3 => hQ E' w' a' g1 g2 g3⟩
      | ret =>
        exact ⟨.ret, e1, h1, hf, (fun h => by cases h), 1, fun E w a Q W K hQ => hC E w a _ W K fun E' w' a' g1 g2 g3 => hQ E' w' a' g1 g2 g3⟩
      | _ => exact hf.elim
    intro c
    induction c with
    | skip =>
      intro L n e h kn ke kr _ hr
      exact ⟨.normal, e, h, hr, fun E w a Q W K hQ => wp_skip (hQ E w a (Grow.refl E h) W K)⟩
    | label l =>
      intro L n e h kn ke kr _ hr
      exact ⟨.normal, e, h, hr, fun E w a Q W K hQ => wp_label (hQ E w a (Grow.refl E h) W K)⟩
    | exit i =>
      intro L n e h kn ke kr _ hr
      exact ⟨.exit i, e, h, hr, fun E w a Q W K hQ => wp_exit (hQ E w a (Grow.refl E h) W K)⟩
    | ret =>
      intro L n e h kn ke kr _ hr
      exact ⟨.ret, e, h, hr, fun E w a Q W K hQ => wp_ret (hQ E w a (Grow.refl E h) W K)⟩
    | seq a b iha ihb =>
      intro L n e h kn ke kr hL hr
      have hr2 : execK P N (m + 1) L n (.seq (codeK P L n a) (codeK P L n b)) e h kn ke kr = true := hr
      rw [exec_seq] at hr2
      obtain ⟨out, e1, h1, hf, hC⟩ := iha L n e h _ ke kr hL hr2
      cases out with
      | normal =>
        obtain ⟨out2, e2, h2, hf2, hC2⟩ := ihb L n e1 h1 kn ke kr hL hf
        exact ⟨out2, e2, h2, hf2, fun E w a Q W K hQ => wp_seq (hC E w a _ W K fun E' w' a' g1 g2 g3 => hC2 E' w' a' Q g2 g3 fun E2 w2 a2 k1 k2 k3 => hQ E2 w2 a2 (g1.trans k1) k2 k3)⟩
      | exit i => exact ⟨.exit i, e1, h1, hf, fun E w a Q W K hQ => wp_seq (hC E w a _ W K fun E' w' a' g1 g2 g3 => hQ E' w' a' g1 g2 g3)⟩
      | ret => exact ⟨.ret, e1, h1, hf, fun E w a Q W K hQ => wp_seq (hC E w a _ W K fun E' w' a' g1 g2 g3 => hQ E' w' a' g1 g2 g3)⟩
      | _ => exact hf.elim
    | cond c a b iha ihb =>
      intro L n e h kn ke kr hL hr
      have hr2 : execK P N (m + 1) L n (bif opdB c then .cond (kv L n c) (codeK P L n a) (codeK P L n b) else .bad) e h kn ke kr = true := hr
      cases hc : opdB c with
      | false => rw [hc] at hr2; cases hr2
      | true =>
        rw [hc, cond_true, exec_cond] at hr2
        cases hv : (kv L n c).at e with
        | b t =>
          rw [hv] at hr2
          cases t with
          | true =>
            obtain ⟨out, e1, h1, hf, hC⟩ := iha L n e h kn ke kr hL hr2
            exact ⟨out, e1, h1, hf, fun E w a Q W K hQ => wp_cond_true (rk_bool K hc hv) (hC E w a Q W K hQ)⟩
          | false =>
            obtain ⟨out, e1, h1, hf, hC⟩ := ihb L n e h kn ke kr hL hr2
            exact ⟨out, e1, h1, hf, fun E w a Q W K hQ => wp_cond_false (rk_bool K hc hv) (hC E w a Q W K hQ)⟩
        | _ => rw [hv] at hr2; cases hr2
    | block id b ih =>
      intro L n e h kn ke kr hL hr
      have hr2 : execK P N (m + 1) L n (.block id (codeK P L n b)) e h kn ke kr = true := hr
      rw [exec_block] at hr2
      obtain ⟨out, e1, h1, hf, hC⟩ := ih L n e h kn _ kr hL hr2
      cases out with
      | normal => exact ⟨.normal, e1, h1, hf, fun E w a Q W K hQ => wp_block (hC E w a _ W K fun E' w' a' g1 g2 g3 => hQ E' w' a' g1 g2 g3)⟩
      | ret => exact ⟨.ret, e1, h1, hf, fun E w a Q W K hQ => wp_block (hC E w a _ W K fun E' w' a' g1 g2 g3 => hQ E' w' a' g1 g2 g3)⟩
      | exit i =>
        have hf' : (Bool.rec (ke i e1 h1) (kn e1 h1) (Nat.beq i id) : Bool) = true := hf
        cases hb : Nat.beq i id with
        | true =>
          rw [hb] at hf'
          have hi : i = id := Nat.eq_of_beq_eq_true hb
          refine ⟨.normal, e1, h1, hf', fun E w a Q W K hQ => wp_block (hC E w a _ W K fun E' w' a' g1 g2 g3 => ?_)⟩
          show (if i = id then Q .normal a' w' else Q (.exit i) a' w')
          rw [if_pos hi]
          exact hQ E' w' a' g1 g2 g3
        | false =>
          rw [hb] at hf'
          have hi : i ≠ id := fun e => by rw [e, Nat.beq_refl] at hb; cases hb
          refine ⟨.exit i, e1, h1, hf', fun E w a Q W K hQ => wp_block (hC E w a _ W K fun E' w' a' g1 g2 g3 => ?_)⟩
          show (if i = id then Q .normal a' w' else Q (.exit i) a' w')
          rw [if_neg hi]
          exact hQ E' w' a' g1 g2 g3
      | _ => exact hf.elim
    | loop b ih =>
      intro L n e h kn ke kr hL hr
      obtain ⟨out, e1, h1, hf, _, M, hR⟩ := loop b ih L n e h kn ke kr hL hr
      exact ⟨out, e1, h1, hf, fun E w a Q W K hQ => wp_loop_rounds M (hR E w a Q W K hQ)⟩
    | scope b ih =>
      intro L n e h kn ke kr hL hr
      obtain ⟨out, e1, h1, hf, hC⟩ := ih L n e h kn ke kr hL hr
      refine ⟨out, e1, h1, hf, fun E w a Q W K hQ => wp_scope_straight (hC E w a _ W K fun E' w' a' g1 g2 g3 => ?_)⟩
      cases out <;> first | exact hQ E' w' a' g1 g2 g3 | exact hf.elim
    | region id ops draw =>
      intro L n e h kn ke kr hL hr
      cases draw with
      | false =>
        have hr2 : runK P (callK P N (execK P N m)) L n (chainK P L n ops.toList ops.toList) e h kn = true := hr
        obtain ⟨e1, h1, hf, hC⟩ := region_ok (call_ok hK hX hN) hL hr2
        exact ⟨.normal, e1, h1, hf, hC⟩
      | true =>
        have hr2 : execK P N (m + 1) L n (regionK P L n ops.toList true) e h kn ke kr = true := hr
        unfold regionK at hr2
        dsimp only at hr2
        cases hk : drawK P L n ops.toList with
        | some c =>
          rw [hk] at hr2
          dsimp only at hr2
          rw [exec_ops] at hr2
          obtain ⟨e1, h1, hf, hC⟩ := hD _ L n id ops c e h kn (call_ok hK hX hN) hL hk hr2
          exact ⟨.normal, e1, h1, hf, hC⟩
        | none =>
          rw [hk] at hr2
          dsimp only at hr2
          rw [exec_bad] at hr2
          cases hr2
    | _ => intro L n e h kn ke kr hL hr; cases hr
  refine ⟨fun L n c => main c L n, fun L n b e h kn ke kr hL hr => ?_⟩
  rw [exec_loop] at hr
  obtain ⟨out, e1, h1, hf, hC⟩ := main b L n e h _ ke kr hL hr
  cases out with
  | normal =>
    obtain ⟨out2, e2, h2, hf2, hne, M, hR⟩ := hLp L n b e1 h1 kn ke kr hL hf
    refine ⟨out2, e2, h2, hf2, hne, M + 1, fun E w a Q W K hQ => ?_⟩
    exact hC E w a _ W K fun E' w' a' g1 g2 g3 => hR E' w' a' Q g2 g3 fun E2 w2 a2 k1 k2 k3 => hQ E2 w2 a2 (g1.trans k1) k2 k3
  | exit i =>
    exact ⟨.exit i, e1, h1, hf, (fun h => by cases h), 1, fun E w a Q W K hQ => hC E w a _ W K fun E' w' a' g1 g2 g3 => hQ E' w' a' g1 g2 g3⟩
  | ret =>
    exact ⟨.ret, e1, h1, hf, (fun h => by cases h), 1, fun E w a Q W K hQ => hC E w a _ W K fun E' w' a' g1 g2 g3 => hQ E' w' a' g1 g2 g3⟩
  | _ => exact hf.elim
theorem exec_ok {N : KnownC} (hK : KnownSound P N) (hD : DrawSound P) (hN : ∀ (g : Nat) (fn : Func), P.funcs[g]? = some fn → fn.name ≠ "runtime.NumGoroutine") : ∀ m, XSound P (execK P N m) ∧ LSound P (execK P N m)
  | 0 => ⟨fun L n c e h kn ke kr _ hr => (by rw [exec_zero] at hr; cases hr), fun L n c e h kn ke kr _ hr => (by rw [exec_zero] at hr; cases hr)⟩
  | m + 1 => exec_code hK hD hN (exec_ok hK hD hN m).1 (exec_ok hK hD hN m).2
/-- What the executor tells of a call. -/
theorem run_ok {N : KnownC} (hK : KnownSound P N) (hD : DrawSound P) (hN : ∀ (g : Nat) (fn : Func), P.funcs[g]? = some fn → fn.name ≠ "runtime.NumGoroutine") (m : Nat) : CallSound P (callK P N (execK P N m)) := call_ok hK (exec_ok hK hD hN m).1 hN
end exec
end Go.Proofs.YtlagmjdifilheaaGreat.Exe
