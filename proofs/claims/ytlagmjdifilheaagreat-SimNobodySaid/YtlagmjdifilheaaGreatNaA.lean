/- Functions whose calls are told without their code: what they do, by names. Definitions alone; no condition. -/
import Derived.Test.YtlagmjdifilheaaGreatExN
namespace Go.Proofs.YtlagmjdifilheaaGreat.Exe
open Go Go.RowKit
/-- The number of limbs, the lowest first; none if they are no limbs. -/
def limbsN : List Value → Option Nat
  | [] => some 0
  | .int .u64 (.ofNat a) :: vs => match limbsN vs with
    | some n => bif Nat.blt a 18446744073709551616 then some (Nat.add a (Nat.mul 18446744073709551616 n)) else none
    | none => none
  | _ => none
def limb (n k : Nat) : Nat := Nat.mod (Nat.div n (Nat.pow 18446744073709551616 k)) 18446744073709551616
def nat4 (n : Nat) : Value := .agg #[.int .u64 (.ofNat (limb n 0)), .int .u64 (.ofNat (limb n 1)), .int .u64 (.ofNat (limb n 2)), .int .u64 (.ofNat (limb n 3))]
def nat4? : Value → Option Nat
  | .agg cs => bif Nat.beq cs.size 4 then limbsN cs.toList else none
  | _ => none
def B64 : Nat := 18446744073709551616
def B256 : Nat := 115792089237316195423570985008687907853269984665640564039457584007913129639936
def B384 : Nat := Nat.pow 2 384
/-- One round of the product. -/
def roundN (m inv b t ai : Nat) : Nat :=
  let t1 := Nat.mod (Nat.add t (Nat.mul ai b)) B384
  let u := Nat.mod (Nat.mul (Nat.mod t1 B64) inv) B64
  Nat.div (Nat.mod (Nat.add t1 (Nat.mul u m)) B384) B64
def redcN (m inv a b : Nat) : Nat :=
  let t0 := roundN m inv b 0 (limb a 0)
  let t1 := roundN m inv b t0 (limb a 1)
  let t2 := roundN m inv b t1 (limb a 2)
  let t3 := roundN m inv b t2 (limb a 3)
  let out := Nat.mod t3 B256
  bif Nat.beq (limb t3 4) 0 && Nat.blt out m then out else Nat.mod (Nat.sub (Nat.add out B256) m) B256
/-- (*mont.Ring).redc. -/
noncomputable def redcF (args : List Value) (h : Hp) (q : Value → Hp → Bool) : Bool := match args with
  | [.pointer (some ⟨i, off, none⟩), a, b] => match nat4? a, nat4? b, cellsAt h i off 5 with
    | some x, some y, some cs => match limbsN (cs.take 4), cs.drop 4 with
      | some m, [.int .u64 (.ofNat inv)] => q (nat4 (redcN m inv x y)) h
      | _, _ => false
    | _, _, _ => false
  | _ => false
/-- nat.Cmp. -/
noncomputable def cmpF (args : List Value) (h : Hp) (q : Value → Hp → Bool) : Bool := match args with
  | [a, b] => match nat4? a, nat4? b with
    | some x, some y => bif Nat.blt x y then q (.int .i64 (-1)) h else bif Nat.beq x y then q (.int .i64 0) h else q (.int .i64 1) h
    | _, _ => false
  | _ => false
/-- abi.NoEscape. -/
def sameF (args : List Value) (h : Hp) (q : Value → Hp → Bool) : Bool := match args with
  | [x] => q x h
  | _ => false
/-- poly.Eval. -/
noncomputable def evalG (fMul fAdd : FuncId) (F : CallC) (g x : Value) (i off : Nat) (q : Value → Hp → Bool) : Nat → Value → Hp → Bool
  | 0, out, h => q out h
  | k + 1, out, h => match cellsAt h i (off + k * 4) 4 with
    | some cs => F fMul [g, out, x] h fun m h1 => F fAdd [g, m, .agg cs.toArray] h1 fun r h2 => evalG fMul fAdd F g x i off q k r h2
    | none => false
noncomputable def evalF (fMul fAdd : FuncId) (F : CallC) (args : List Value) (h : Hp) (q : Value → Hp → Bool) : Bool := match args with
  | [g, xs, x] => match xs with
    | .slice none _ _ => q (nat4 0) h
    | .slice (some ⟨i, off, none⟩) len _ => evalG fMul fAdd F g x i off q len (nat4 0) h
    | _ => false
  | _ => false
/-- wire.Take, where nothing is wrong. -/
noncomputable def takeF (fMsg : FuncId) (tReader : TypeId) (F : CallC) (args : List Value) (h : Hp) (q : Value → Hp → Bool) : Bool := match args with
  | [.string s] => bif Nat.ble s.size 8192 then (match h.alloc (Blk.of [.string s] tReader false) with
    | some (i, h1) => F fMsg [.pointer (some ⟨i, 0, none⟩)] h1 fun v h2 => q (.tuple #[v, .int .i64 0]) h2
    | none => false) else false
  | _ => false
end Go.Proofs.YtlagmjdifilheaaGreat.Exe
