/- Is a float the infinity above; a float with the sign minus. Conditions: words of 64 bits. -/
import Derived.Test.YtagjgofnaplefaaWeC
namespace Go.Proofs.Ytagjgofnaplefaa.Wei
open Go.RowKit
open Flo
/-- Is a float the infinity above? -/
def inf (a : Nat) : Bool := decide (rung a = top) && !ng a
theorem order_max (a : Nat) : (Ieee.Format.order Ieee.double a 9218868437227405311 == some .gt) = inf a := by
  have ht : top = 9218868437227405312 := rfl
  unfold inf
  by_cases h : top < rung a
  · rw [order_nan a _ (.inl h), show decide (rung a = top) = false from decide_eq_false (by omega)]
    rfl
  · rw [order_is a 9218868437227405311 (by omega) (by decide)]
    rw [show rung 9218868437227405311 = 9218868437227405311 by decide, show ng 9218868437227405311 = false by decide]
    cases hg : ng a
    · by_cases h2 : rung a = top
      · rw [h2]
        decide
      · rw [show decide (rung a = top) = false from decide_eq_false h2]
        simp only [sg, Bool.false_eq_true, if_false, compare, compareOfLessAndEq]
        by_cases h3 : (rung a : Int) < (9218868437227405311 : Nat)
        · rw [if_pos h3]; rfl
        · rw [if_neg h3, if_pos (by omega)]; rfl
    · simp only [sg, Bool.false_eq_true, if_false, if_true, compare, compareOfLessAndEq]
      rw [if_pos (by omega)]
      cases decide (rung a = top) <;> rfl
set_option maxHeartbeats 4000000 in
theorem isinf_any (a : Nat) (w : World) : Calls Try.prog 32 #[.float .f64 a, .int .i64 1] w fun e w' => e = .returned (.bool (inf a)) ∧ w = w' := by
  have h := Lib.hid (order_max a)
  go_enter Try.func32, Try.ntmps32
  go_wp2
  exact bodyPost_ret (results_tmp rfl _ _ _) rfl ⟨by rw [← h.out]; rfl, rfl⟩
theorem or63 (r : Nat) (hr : r < 9223372036854775808) : bits .or .u64 (r : Int) 9223372036854775808 = ((r + 9223372036854775808 : Nat) : Int) := by
  show IntKind.u64.wrap ((BitVec.ofInt 64 (r : Int) ||| BitVec.ofInt 64 9223372036854775808).toNat : Nat) = _
  have e : (BitVec.ofInt 64 9223372036854775808).toNat = 2 ^ 63 * 1 := by decide
  have e2 : (BitVec.ofInt 64 (r : Int)).toNat = r := by rw [BitVec.toNat_ofInt]; omega
  rw [BitVec.toNat_or, e, e2, Nat.or_comm, ← Nat.two_pow_add_eq_or_of_lt (by omega), IntKind.wrap_u64]
  omega
set_option maxHeartbeats 4000000 in
theorem copysign_any (r s : Nat) (hr : r < 9223372036854775808) (hs : r + 9223372036854775808 = s) (w : World) : Calls Try.prog 33 #[.float .f64 r, .float .f64 13830554455654793216] w fun e w' => e = .returned (.float .f64 s) ∧ w = w' := by
  have h := run_bits r w
  have h0 := run_bits 13830554455654793216 w
  have h2 := andNot63 r
  rw [show rung r = r from Nat.mod_eq_of_lt hr] at h2
  have h4 := or63 r hr
  rw [hs] at h4
  have h3 := run_frombits s w
  have h5 : bits .and .u64 13830554455654793216 9223372036854775808 = 9223372036854775808 := by decide
  clear hs
  go_enter Try.func33, Try.ntmps33
  go_wp2
  exact bodyPost_ret (results_tmp rfl _ _ _) rfl ⟨rfl, rfl⟩
end Go.Proofs.Ytagjgofnaplefaa.Wei
