/- The executor made for the kernel: one operation. What it tells is what the model does. Condition: what is said of the calls. -/
import Derived.Test.YtlagmjdifilheaaGreatExL
import Derived.Test.YtlagmjdifilheaaGreatExN
import Derived.Scope
namespace Go.Proofs.YtlagmjdifilheaaGreat.Exe
open Go Go.RowKit
section tree
variable {α : Type}
theorem getD_nil (d0 : α) (l : List Dg) : T4.getD d0 l .nil = d0 := by cases l <;> rfl
theorem getD_cons (d0 : α) (d : Dg) (l : List Dg) (t : T4 α) : T4.getD d0 (d :: l) t = T4.getD d0 l (t.sub d) := by
  cases t with
  | nil => exact (getD_nil d0 l).symm
  | leaf v => exact (getD_nil d0 l).symm
  | n4 p q r s => cases d <;> rfl
theorem getD_get (d0 : α) : ∀ (l : List Dg) (t : T4 α), T4.getD d0 l t = (T4.get l t).getD d0
  | [], t => by
    cases t with
    | nil => rw [T4.get_nil]; rfl
    | leaf v => rw [T4.get_leaf]; rfl
    | n4 p q r s => unfold T4.get; rfl
  | d :: l, t => by rw [getD_cons, T4.get_cons, getD_get d0 l]
end tree
section slots
variable {E E' : Env} {L n : Nat} {e : T4 W} {a : Act}
noncomputable def slotV (n : Nat) (e : T4 W) (t : Nat) : Value := (T4.getD (.o undef) (path n t) e).val
theorem slot_put {d t : Nat} {v : W} (hd : d < 4 ^ n) (ht : t < 4 ^ n) : slotV n (T4.put (.leaf v) (path n d) e) t = if t = d then v.val else slotV n e t := by
  unfold slotV
  rw [getD_get, getD_get]
  by_cases h : t = d
  · subst h
    rw [if_pos rfl, T4.path_same, T4.get_leaf]
    rfl
  · rw [if_neg h, T4.path_other _ hd ht h]
structure RK (L n : Nat) (E : Env) (e : T4 W) (a : Act) : Prop where
  size : a.tmps.size = L
  defers : a.defers = []
  slot : ∀ t, t < L → Rel E (slotV n e t) (a.tmps.getD t undef)
theorem evK_tmp {t : Nat} (ht : t < L) : evK L n e (.tmp t) = slotV n e t := by
  show ((bif Nat.blt t L then KV.slot (path n t) else KV.val (.o undef)).at e).val = _
  rw [show Nat.blt t L = true from Nat.ble_eq_true_of_le ht]
  rfl
theorem evK_out {t : Nat} (ht : ¬ t < L) : evK L n e (.tmp t) = undef := by
  show ((bif Nat.blt t L then KV.slot (path n t) else KV.val (.o undef)).at e).val = _
  rw [show Nat.blt t L = false from Bool.eq_false_iff.2 fun h => ht (Nat.le_of_ble_eq_true h)]
  rfl
theorem RK.relE (K : RK L n E e a) : RelE opdB E (evK L n e) a := fun x hx => by
  cases x with
  | tmp t =>
    by_cases ht : t < L
    · rw [evK_tmp ht]; exact K.slot t ht
    · rw [evK_out ht]
      have h2 : a.tmps[t]? = none := Array.getElem?_eq_none (by rw [K.size]; exact Nat.le_of_not_lt ht)
      have h3 : a.eval (.tmp t) = undef := by
        show a.tmps.getD t undef = undef
        rw [Array.getD_eq_getD_getElem?, h2]; rfl
      rw [h3]
      exact Rel.undef
  | const v =>
    show Rel E (toW v).val v
    rw [toW_val]
    exact Rel.refl_flat hx
  | global g => simp [opdB] at hx
  | func f => exact relL_func (E := E) (xs := #[]) (xs' := #[]) (ys := #[]) (ys' := #[]) trivial trivial
theorem RK.mono (K : RK L n E e a) (h : E.le E') : RK L n E' e a := ⟨K.size, K.defers, fun t ht => (K.slot t ht).mono h⟩
theorem RK.put (K : RK L n E e a) (hL : L ≤ 4 ^ n) {v : W} {x : Value} (hr : Rel E v.val x) (d : Option Tmp) : RK L n E ((kd L n d).put e v) (a.put d x) := by
  cases d with
  | none => exact K
  | some d =>
    show RK L n E ((bif Nat.blt d L then KD.slot (path n d) else KD.no).put e v) (a.put (some d) x)
    by_cases hd : d < L
    · rw [show Nat.blt d L = true from Nat.ble_eq_true_of_le hd]
      refine ⟨by simp [Act.put, K.size], K.defers, fun t ht => ?_⟩
      show Rel E (slotV n (T4.put (.leaf v) (path n d) e) t) ((a.tmps.setIfInBounds d x).getD t undef)
      rw [slot_put (Nat.lt_of_lt_of_le hd hL) (Nat.lt_of_lt_of_le ht hL)]
      by_cases htd : t = d
      · subst htd
        rw [if_pos rfl]
        have : t < a.tmps.size := by rw [K.size]; exact ht
        simpa [Array.getD_eq_getD_getElem?, this] using hr
      · rw [if_neg htd]
        have hne : ¬ d = t := fun h => htd h.symm
        have h1 : (a.tmps.setIfInBounds d x).getD t undef = a.tmps.getD t undef := by
          simp [Array.getD_eq_getD_getElem?, hne]
        rw [h1]
        exact K.slot t ht
    · rw [show Nat.blt d L = false from Bool.eq_false_iff.2 fun h => hd (Nat.le_of_ble_eq_true h)]
      have : a.put (some d) x = a := by
        have h : a.tmps.setIfInBounds d x = a.tmps := by
          apply Array.ext_getElem?
          intro k
          rw [Array.getElem?_setIfInBounds]
          by_cases hk : d = k
          · subst hk
            simp [K.size, hd]
          · simp [hk]
        simp [Act.put, h]
      rw [this]
      exact K
theorem kv_val (x : Operand) : ((kv L n x).at e).val = evK L n e x := rfl
end slots

section step
variable {P : Program} {B : Nat → Prop} {w0 : World}
/-- What is true of the worlds behind, by names. -/
def After (P : Program) (B : Nat → Prop) (w0 : World) (E : Env) (h : Hp) (v : Value) (h' : Hp) (x : Value) (w' : World) : Prop := ∃ E', Grow E h E' h' ∧ Rel E' v x ∧ WR E' P B w0 w' h'
/-- A way to tell calls, and that it tells what the model does. -/
def CallSound (P : Program) (F : CallC) : Prop := ∀ (g : FuncId) (args : List Value) (h : Hp) (k : Value → Hp → Bool), F g args h k = true → ∃ v h', k v h' = true ∧
  ∀ {B : Nat → Prop} {w0 : World} (E : Env) (w : World) (args' : List Value), WR E P B w0 w h → RelL E args args' →
    ((callFunc g args'.toArray).run P w = .ok (.enter g args'.toArray) w ∧ Calls P g args'.toArray w fun e w' => ∃ x, e = .returned x ∧ After P B w0 E h v h' x w') ∨
    (∃ x, (callFunc g args'.toArray).run P w = .ok (.value x) w ∧ After P B w0 E h v h' x w)
/-- One operation, from a heap by names to another. -/
def OpT (P : Program) (η : Operand → Value) (o : Oper) (h : Hp) (v : Value) (h' : Hp) : Prop := ∀ {B : Nat → Prop} {w0 : World} (p : Operand → Bool) (E : Env) (w : World) (a : Act) (K : Act → World → Prop) (Q : Exit → Act → World → Prop), o.op.operands.toList.all p = true → WR E P B w0 w h → RelE p E η a →
  (∀ x w', After P B w0 E h v h' x w' → K (a.put o.dst x) w') → o.wp P a w K Q
theorem quietT {η : Operand → Value} {o : Oper} {h : Hp} {v : Value} (hq : opQ P h η o.op = some v) : OpT P η o h v h := fun p E w a K Q hx W T hK => by
  obtain ⟨x, h1, h2⟩ := opQ_ok W T hx hq
  unfold Oper.wp
  rw [h2]
  exact hK x w ⟨E, Grow.refl E h, h1, W⟩
theorem loudT {η : Operand → Value} {o : Oper} {h h' : Hp} {v : Value} (hq : opL P h η o.op = some (v, h')) : OpT P η o h v h' := fun p E w a K Q hx W T hK => by
  obtain ⟨E', x, w', h1, h2, h3, h4 | ⟨h4, rfl⟩⟩ := opL_ok W T hx hq
  · unfold Oper.wp
    rw [h4]
    exact hK x w' ⟨E', h1, h2, h3⟩
  · unfold Oper.wp
    rw [h4]
    exact hK undef w' ⟨E', h1, h2, h3⟩
/-- An operation, as it is told. -/
def OpF (P : Program) (η : Operand → Value) (o : Oper) (h : Hp) (v : Value) (h' : Hp) : Prop :=
  (opQ P h η o.op = some v ∧ h' = h) ∨ opL P h η o.op = some (v, h') ∨ ((∃ f xs ats, o.op = .call { callee := .value f, args := xs, argTypes := ats }) ∧ OpT P η o h v h')
theorem OpF.opT {η : Operand → Value} {o : Oper} {h h' : Hp} {v : Value} (hf : OpF P η o h v h') : OpT P η o h v h' := by
  rcases hf with ⟨h1, rfl⟩ | h1 | ⟨_, h1⟩
  · exact quietT h1
  · exact loudT h1
  · exact h1
theorem callT {F : CallC} (hF : CallSound P F) {η : Operand → Value} {o : Oper} {h : Hp} {f : Operand} {xs : Array Operand} {ats : Array TypeId} {g : FuncId} {fs cs : Array Value} {k : Value → Hp → Bool} (hop : o.op = .call { callee := .value f, args := xs, argTypes := ats })
    (hf : η f = .func (.func g) fs cs) (hk : F g (fs.toList ++ xs.toList.map η ++ cs.toList) h k = true) : ∃ v h', k v h' = true ∧ OpT P η o h v h' := by
  obtain ⟨v, h', h1, h2⟩ := hF _ _ _ _ hk
  refine ⟨v, h', h1, fun p E w a K Q hx W T hK => ?_⟩
  rw [hop] at hx
  simp only [Op.operands, Call.operands, Array.toList_append, List.all_append, Bool.and_eq_true] at hx
  have r1 := ev_rel T (show p f = true by simpa using hx.1)
  have r2 := evs_rel T hx.2
  rw [hf] at r1
  obtain ⟨fs', cs', q1, q2, q3⟩ := r1.to_func
  have hrun : (execOp a.eval o).run P w = (callFunc g (fs'.toList ++ xs.toList.map a.eval ++ cs'.toList).toArray).run P w := by
    have : (fs'.toList ++ xs.toList.map a.eval ++ cs'.toList).toArray = fs' ++ xs.map a.eval ++ cs' := by
      apply Array.toList_inj.1; simp
    rw [this]
    simp [execOp, hop, resolve, q1, Deferred.ofValue, invoke]
  unfold Oper.wp
  rw [hrun]
  rcases h2 E w _ W ((q2.append r2).append q3) with ⟨h3, h4⟩ | ⟨x, h3, h4⟩
  · rw [h3]
    refine Calls.mono h4 fun e w' he => ?_
    obtain ⟨x, rfl, hA⟩ := he
    exact hK x w' hA
  · rw [h3]
    exact hK x w h4
end step

section ints
variable {P : Program} {t : TypeId} {x y : Operand} {a b : Nat}
theorem wrap_u64 (n : Nat) : IntKind.u64.wrap (Int.ofNat n) = Int.ofNat (n % 18446744073709551616) := rfl
theorem wrap_i64 {n : Nat} (h : n ≤ 9223372036854775807) : IntKind.i64.wrap (Int.ofNat n) = Int.ofNat n := by
  unfold IntKind.wrap
  have e1 : (IntKind.i64.signed && decide ((Int.ofNat n % (2 ^ IntKind.i64.bits : Int)) ≥ (2 ^ (IntKind.i64.bits - 1) : Int))) = false := by
    simp [IntKind.signed, IntKind.bits]
    omega
  simp only [e1]
  simp [IntKind.bits]
  omega
theorem binQ_int (op : BinOp) (k k' : IntKind) (m n : Int) : binQ P op t x y (.int k m) (.int k' n) = (pureRun P (binOp op t (.int k m) (.int k' n))).bind fun r => if leafB r then some r else none := rfl
theorem u_add : binQ P .add t x y (.int .u64 (.ofNat a)) (.int .u64 (.ofNat b)) = some (.int .u64 (.ofNat (Nat.mod (Nat.add a b) 18446744073709551616))) := rfl
theorem u_mul : binQ P .mul t x y (.int .u64 (.ofNat a)) (.int .u64 (.ofNat b)) = some (.int .u64 (.ofNat (Nat.mod (Nat.mul a b) 18446744073709551616))) := rfl
theorem sub_mod (a b : Nat) : (Int.ofNat a - Int.ofNat b) % 18446744073709551616 = Int.ofNat (Nat.mod (Nat.sub (Nat.add a (Nat.mul 18446744073709551616 (Nat.succ (Nat.div b 18446744073709551616)))) b) 18446744073709551616) := by
  show ((a : Int) - (b : Int)) % 18446744073709551616 = (((a + 18446744073709551616 * (b / 18446744073709551616 + 1) - b) % 18446744073709551616 : Nat) : Int)
  omega
theorem u_sub : binQ P .sub t x y (.int .u64 (.ofNat a)) (.int .u64 (.ofNat b)) = some (.int .u64 (.ofNat (Nat.mod (Nat.sub (Nat.add a (Nat.mul 18446744073709551616 (Nat.succ (Nat.div b 18446744073709551616)))) b) 18446744073709551616))) := by
  have : binQ P .sub t x y (.int .u64 (.ofNat a)) (.int .u64 (.ofNat b)) = some (.int .u64 ((Int.ofNat a - Int.ofNat b) % 18446744073709551616)) := rfl
  rw [this, sub_mod]
theorem ofInt_nat (n : Nat) : (BitVec.ofInt 64 (Int.ofNat n)).toNat = n % 18446744073709551616 := by
  show (BitVec.ofInt 64 (n : Int)).toNat = _
  rw [BitVec.toNat_ofInt]
  omega
theorem u_bits {r : Nat} (op : BinOp) (c : BitVec 64 → BitVec 64 → BitVec 64) (h1 : binQ P op t x y (.int .u64 (.ofNat a)) (.int .u64 (.ofNat b)) = some (.int .u64 (IntKind.u64.wrap ((c (BitVec.ofInt 64 (.ofNat a)) (BitVec.ofInt 64 (.ofNat b))).toNat : Int)))) (h2 : (c (BitVec.ofInt 64 (.ofNat a)) (BitVec.ofInt 64 (.ofNat b))).toNat = r) (h3 : r < 18446744073709551616) :
    binQ P op t x y (.int .u64 (.ofNat a)) (.int .u64 (.ofNat b)) = some (.int .u64 (.ofNat r)) := by
  rw [h1, h2]
  show some (Value.int .u64 (IntKind.u64.wrap (Int.ofNat r))) = _
  rw [wrap_u64, Nat.mod_eq_of_lt h3]
theorem u_and : binQ P .and t x y (.int .u64 (.ofNat a)) (.int .u64 (.ofNat b)) = some (.int .u64 (.ofNat (Nat.mod (Nat.land a b) 18446744073709551616))) :=
  u_bits .and (· &&& ·) rfl (by
    show (BitVec.ofInt 64 (.ofNat a) &&& BitVec.ofInt 64 (.ofNat b)).toNat = (a &&& b) % 2 ^ 64
    rw [BitVec.toNat_and, ofInt_nat, ofInt_nat]
    exact (Nat.and_mod_two_pow (n := 64)).symm) (Nat.mod_lt _ (by decide))
theorem u_or : binQ P .or t x y (.int .u64 (.ofNat a)) (.int .u64 (.ofNat b)) = some (.int .u64 (.ofNat (Nat.mod (Nat.lor a b) 18446744073709551616))) :=
  u_bits .or (· ||| ·) rfl (by
    show (BitVec.ofInt 64 (.ofNat a) ||| BitVec.ofInt 64 (.ofNat b)).toNat = (a ||| b) % 2 ^ 64
    rw [BitVec.toNat_or, ofInt_nat, ofInt_nat]
    exact (Nat.or_mod_two_pow (n := 64)).symm) (Nat.mod_lt _ (by decide))
theorem u_xor : binQ P .xor t x y (.int .u64 (.ofNat a)) (.int .u64 (.ofNat b)) = some (.int .u64 (.ofNat (Nat.mod (Nat.xor a b) 18446744073709551616))) :=
  u_bits .xor (· ^^^ ·) rfl (by
    show (BitVec.ofInt 64 (.ofNat a) ^^^ BitVec.ofInt 64 (.ofNat b)).toNat = (a ^^^ b) % 2 ^ 64
    rw [BitVec.toNat_xor, ofInt_nat, ofInt_nat]
    exact (Nat.xor_mod_two_pow (n := 64)).symm) (Nat.mod_lt _ (by decide))
theorem c_eql (k : IntKind) : binQ P .eql t x y (.int k (.ofNat a)) (.int k (.ofNat b)) = some (.bool (Nat.beq a b)) := by
  rw [binQ_int]
  have : pureRun P (binOp .eql t (.int k (.ofNat a)) (.int k (.ofNat b))) = some (.bool ((Int.ofNat a) == (Int.ofNat b))) := by cases k <;> rfl
  rw [this]
  have h2 : ((Int.ofNat a) == (Int.ofNat b)) = Nat.beq a b := by
    rw [Bool.eq_iff_iff]
    simp only [beq_iff_eq, Int.ofNat_eq_natCast]
    rw [Nat.beq_eq]
    omega
  rw [h2]
  rfl
theorem binQ_cmp (op : BinOp) (k : IntKind) {m n : Int} {c : Bool} (h : ∀ k, pureRun P (binOp op t (.int k m) (.int k n)) = some (.bool c)) : binQ P op t x y (.int k m) (.int k n) = some (.bool c) := by
  rw [binQ_int, h]
  rfl
theorem ble_iff {m n : Nat} : Nat.ble m n = true ↔ m ≤ n := ⟨Nat.le_of_ble_eq_true, Nat.ble_eq_true_of_le⟩
theorem c_neq (k : IntKind) : binQ P .neq t x y (.int k (.ofNat a)) (.int k (.ofNat b)) = some (.bool (Bool.rec true false (Nat.beq a b))) :=
  binQ_cmp .neq k fun k => by
    have h1 : pureRun P (binOp .neq t (.int k (.ofNat a)) (.int k (.ofNat b))) = some (.bool ((Int.ofNat a) != (Int.ofNat b))) := by cases k <;> rfl
    have h2 : ((Int.ofNat a) == (Int.ofNat b)) = Nat.beq a b := by
      rw [Bool.eq_iff_iff]
      simp only [beq_iff_eq, Int.ofNat_eq_natCast]
      rw [Nat.beq_eq]
      omega
    rw [h1, bne, h2]
    cases Nat.beq a b <;> rfl
theorem c_lss (k : IntKind) : binQ P .lss t x y (.int k (.ofNat a)) (.int k (.ofNat b)) = some (.bool (Nat.ble (Nat.succ a) b)) :=
  binQ_cmp .lss k fun k => by
    have h1 : pureRun P (binOp .lss t (.int k (.ofNat a)) (.int k (.ofNat b))) = some (.bool (decide ((Int.ofNat a) < (Int.ofNat b)))) := by cases k <;> rfl
    have h2 : decide ((Int.ofNat a) < (Int.ofNat b)) = Nat.ble (Nat.succ a) b := by
      rw [Bool.eq_iff_iff, ble_iff]
      simp only [decide_eq_true_eq, Int.ofNat_eq_natCast]
      omega
    rw [h1, h2]
theorem c_leq (k : IntKind) : binQ P .leq t x y (.int k (.ofNat a)) (.int k (.ofNat b)) = some (.bool (Nat.ble a b)) :=
  binQ_cmp .leq k fun k => by
    have h1 : pureRun P (binOp .leq t (.int k (.ofNat a)) (.int k (.ofNat b))) = some (.bool (decide ((Int.ofNat a) ≤ (Int.ofNat b)))) := by cases k <;> rfl
    have h2 : decide ((Int.ofNat a) ≤ (Int.ofNat b)) = Nat.ble a b := by
      rw [Bool.eq_iff_iff, ble_iff]
      simp only [decide_eq_true_eq, Int.ofNat_eq_natCast]
      omega
    rw [h1, h2]
theorem c_gtr (k : IntKind) : binQ P .gtr t x y (.int k (.ofNat a)) (.int k (.ofNat b)) = some (.bool (Nat.ble (Nat.succ b) a)) :=
  binQ_cmp .gtr k fun k => by
    have h1 : pureRun P (binOp .gtr t (.int k (.ofNat a)) (.int k (.ofNat b))) = some (.bool (decide ((Int.ofNat b) < (Int.ofNat a)))) := by cases k <;> rfl
    have h2 : decide ((Int.ofNat b) < (Int.ofNat a)) = Nat.ble (Nat.succ b) a := by
      rw [Bool.eq_iff_iff, ble_iff]
      simp only [decide_eq_true_eq, Int.ofNat_eq_natCast]
      omega
    rw [h1, h2]
theorem c_geq (k : IntKind) : binQ P .geq t x y (.int k (.ofNat a)) (.int k (.ofNat b)) = some (.bool (Nat.ble b a)) :=
  binQ_cmp .geq k fun k => by
    have h1 : pureRun P (binOp .geq t (.int k (.ofNat a)) (.int k (.ofNat b))) = some (.bool (decide ((Int.ofNat b) ≤ (Int.ofNat a)))) := by cases k <;> rfl
    have h2 : decide ((Int.ofNat b) ≤ (Int.ofNat a)) = Nat.ble b a := by
      rw [Bool.eq_iff_iff, ble_iff]
      simp only [decide_eq_true_eq, Int.ofNat_eq_natCast]
      omega
    rw [h1, h2]
theorem i_add (h : Nat.add a b ≤ 9223372036854775807) : binQ P .add t x y (.int .i64 (.ofNat a)) (.int .i64 (.ofNat b)) = some (.int .i64 (.ofNat (Nat.add a b))) := by
  have : binQ P .add t x y (.int .i64 (.ofNat a)) (.int .i64 (.ofNat b)) = some (.int .i64 (IntKind.i64.wrap (Int.ofNat (Nat.add a b)))) := rfl
  rw [this, wrap_i64 h]
theorem i_mul (h : Nat.mul a b ≤ 9223372036854775807) : binQ P .mul t x y (.int .i64 (.ofNat a)) (.int .i64 (.ofNat b)) = some (.int .i64 (.ofNat (Nat.mul a b))) := by
  have : binQ P .mul t x y (.int .i64 (.ofNat a)) (.int .i64 (.ofNat b)) = some (.int .i64 (IntKind.i64.wrap (Int.ofNat (Nat.mul a b)))) := rfl
  rw [this, wrap_i64 h]
theorem i_sub (h : (Bool.rec 18446744073709551616 (Nat.sub a b) (Nat.ble b a) : Nat) ≤ 9223372036854775807) : binQ P .sub t x y (.int .i64 (.ofNat a)) (.int .i64 (.ofNat b)) = some (.int .i64 (.ofNat (Bool.rec 18446744073709551616 (Nat.sub a b) (Nat.ble b a)))) := by
  have h0 : binQ P .sub t x y (.int .i64 (.ofNat a)) (.int .i64 (.ofNat b)) = some (.int .i64 (IntKind.i64.wrap (Int.ofNat a - Int.ofNat b))) := rfl
  cases hb : Nat.ble b a with
  | false =>
    rw [hb] at h
    exact absurd (show (18446744073709551616 : Nat) ≤ 9223372036854775807 from h) (by decide)
  | true =>
    rw [hb] at h
    have hle : b ≤ a := Nat.le_of_ble_eq_true hb
    have e : (Int.ofNat a - Int.ofNat b) = Int.ofNat (Nat.sub a b) := by
      show (a : Int) - (b : Int) = ((a - b : Nat) : Int)
      omega
    rw [h0, e, wrap_i64 h]
theorem u_quo (hb : Nat.beq b 0 = false) : binQ P .quo t x y (.int .u64 (.ofNat a)) (.int .u64 (.ofNat b)) = some (.int .u64 (.ofNat (Nat.mod (Nat.div a b) 18446744073709551616))) := by
  have hne : b ≠ 0 := fun e => by rw [e] at hb; cases hb
  have h1 : pureRun P (binOp .quo t (.int .u64 (.ofNat a)) (.int .u64 (.ofNat b))) = some (.int .u64 (IntKind.u64.wrap ((Int.ofNat a).tdiv (Int.ofNat b)))) := by
    have : binOp .quo t (.int .u64 (.ofNat a)) (.int .u64 (.ofNat b)) = Op.intDiv .quo .u64 (.ofNat a) (.ofNat b) := rfl
    rw [this]
    unfold Op.intDiv
    have hz : ¬ (Int.ofNat b = 0) := by simp only [Int.ofNat_eq_natCast]; omega
    rw [if_neg hz]
    rfl
  rw [binQ_int, h1]
  have h2 : (Int.ofNat a).tdiv (Int.ofNat b) = Int.ofNat (Nat.div a b) := rfl
  rw [h2, wrap_u64]
  rfl
theorem u_rem (hb : Nat.beq b 0 = false) : binQ P .rem t x y (.int .u64 (.ofNat a)) (.int .u64 (.ofNat b)) = some (.int .u64 (.ofNat (Nat.mod a b))) := by
  have hne : b ≠ 0 := fun e => by rw [e] at hb; cases hb
  have h1 : pureRun P (binOp .rem t (.int .u64 (.ofNat a)) (.int .u64 (.ofNat b))) = some (.int .u64 ((Int.ofNat a).tmod (Int.ofNat b))) := by
    have : binOp .rem t (.int .u64 (.ofNat a)) (.int .u64 (.ofNat b)) = Op.intDiv .rem .u64 (.ofNat a) (.ofNat b) := rfl
    rw [this]
    unfold Op.intDiv
    have hz : ¬ (Int.ofNat b = 0) := by simp only [Int.ofNat_eq_natCast]; omega
    rw [if_neg hz]
    rfl
  rw [binQ_int, h1]
  rfl
theorem i_quo (h : (Bool.rec (Nat.div a b) 18446744073709551616 (Nat.beq b 0) : Nat) ≤ 9223372036854775807) : binQ P .quo t x y (.int .i64 (.ofNat a)) (.int .i64 (.ofNat b)) = some (.int .i64 (.ofNat (Bool.rec (Nat.div a b) 18446744073709551616 (Nat.beq b 0)))) := by
  cases hb : Nat.beq b 0 with
  | true =>
    rw [hb] at h
    exact absurd (show (18446744073709551616 : Nat) ≤ 9223372036854775807 from h) (by decide)
  | false =>
    rw [hb] at h
    have hne : b ≠ 0 := fun e => by rw [e] at hb; cases hb
    have h1 : pureRun P (binOp .quo t (.int .i64 (.ofNat a)) (.int .i64 (.ofNat b))) = some (.int .i64 (IntKind.i64.wrap ((Int.ofNat a).tdiv (Int.ofNat b)))) := by
      have : binOp .quo t (.int .i64 (.ofNat a)) (.int .i64 (.ofNat b)) = Op.intDiv .quo .i64 (.ofNat a) (.ofNat b) := rfl
      rw [this]
      unfold Op.intDiv
      have hz : ¬ (Int.ofNat b = 0) := by simp only [Int.ofNat_eq_natCast]; omega
      rw [if_neg hz]
      rfl
    rw [binQ_int, h1]
    have h2 : (Int.ofNat a).tdiv (Int.ofNat b) = Int.ofNat (Nat.div a b) := rfl
    rw [h2, wrap_i64 h]
    rfl
theorem i_rem (h : (Bool.rec (Nat.mod a b) 18446744073709551616 (Nat.beq b 0) : Nat) ≤ 9223372036854775807) : binQ P .rem t x y (.int .i64 (.ofNat a)) (.int .i64 (.ofNat b)) = some (.int .i64 (.ofNat (Bool.rec (Nat.mod a b) 18446744073709551616 (Nat.beq b 0)))) := by
  cases hb : Nat.beq b 0 with
  | true =>
    rw [hb] at h
    exact absurd (show (18446744073709551616 : Nat) ≤ 9223372036854775807 from h) (by decide)
  | false =>
    have hne : b ≠ 0 := fun e => by rw [e] at hb; cases hb
    have h1 : pureRun P (binOp .rem t (.int .i64 (.ofNat a)) (.int .i64 (.ofNat b))) = some (.int .i64 ((Int.ofNat a).tmod (Int.ofNat b))) := by
      have : binOp .rem t (.int .i64 (.ofNat a)) (.int .i64 (.ofNat b)) = Op.intDiv .rem .i64 (.ofNat a) (.ofNat b) := rfl
      rw [this]
      unfold Op.intDiv
      have hz : ¬ (Int.ofNat b = 0) := by simp only [Int.ofNat_eq_natCast]; omega
      rw [if_neg hz]
      rfl
    rw [binQ_int, h1]
    rfl
theorem min64 (b : Nat) : Nat.min b 64 = min b 64 := rfl
theorem u_shl {k : IntKind} : binQ P .shl t x y (.int .u64 (.ofNat a)) (.int k (.ofNat b)) = some (.int .u64 (.ofNat (Nat.mod (Nat.shiftLeft a (Nat.min b 64)) 18446744073709551616))) := by
  have h1 : pureRun P (binOp .shl t (.int .u64 (.ofNat a)) (.int k (.ofNat b))) = some (.int .u64 (IntKind.u64.wrap (Int.ofNat a * 2 ^ (min b 64)))) := by
    have : binOp .shl t (.int .u64 (.ofNat a)) (.int k (.ofNat b)) = Op.shift .shl .u64 (.ofNat a) k (.ofNat b) := rfl
    rw [this]
    unfold Op.shift
    have hn : ¬ ((Int.ofNat b) < 0) := by simp
    rw [if_neg hn]
    rfl
  rw [binQ_int, h1]
  have h2 : (Int.ofNat a * 2 ^ (min b 64) : Int) = Int.ofNat (a <<< (min b 64)) := by
    rw [Nat.shiftLeft_eq]
    simp
  rw [h2, wrap_u64]
  rfl
theorem u_shr {k : IntKind} : binQ P .shr t x y (.int .u64 (.ofNat a)) (.int k (.ofNat b)) = some (.int .u64 (.ofNat (Nat.shiftRight a (Nat.min b 64)))) := by
  have h1 : pureRun P (binOp .shr t (.int .u64 (.ofNat a)) (.int k (.ofNat b))) = some (.int .u64 ((Int.ofNat a).fdiv (2 ^ (min b 64)))) := by
    have : binOp .shr t (.int .u64 (.ofNat a)) (.int k (.ofNat b)) = Op.shift .shr .u64 (.ofNat a) k (.ofNat b) := rfl
    rw [this]
    unfold Op.shift
    have hn : ¬ ((Int.ofNat b) < 0) := by simp
    rw [if_neg hn]
    rfl
  rw [binQ_int, h1]
  have h2 : (Int.ofNat a).fdiv (2 ^ (min b 64)) = Int.ofNat (a >>> (min b 64)) := by
    rw [Nat.shiftRight_eq_div_pow]
    have hp : (2 ^ (min b 64) : Int) = ((2 ^ (min b 64) : Nat) : Int) := by simp
    rw [hp]
    show Int.fdiv ((a : Nat) : Int) _ = _
    exact (Int.ofNat_fdiv a _).symm
  rw [h2]
  rfl
end ints
end Go.Proofs.YtlagmjdifilheaaGreat.Exe
