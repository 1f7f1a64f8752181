/- Floats by their bits: what the leaves give. Conditions: words of 64 bits. -/
import Derived.Test.YtagjgofnaplefaaProg
import Derived.Test.YtagjgofnaplefaaFlo
import Derived.Test.YtagjgofnaplefaaBlk
import Derived.BigQuiet
namespace Go.Proofs.Ytagjgofnaplefaa.Wei
open Go.RowKit
open Flo
/-- Is a word a float that is no number? -/
def nan (a : Nat) : Prop := top < rung a
instance (a : Nat) : Decidable (nan a) := by unfold nan; infer_instance
/-- The key of a float. -/
def key (a : Nat) : Int := if nan a then 9223372036854775807 else if ng a then -1 - (rung a : Int) else (rung a : Int)
theorem order_self (a : Nat) : Ieee.Format.order Ieee.double a a = if nan a then none else some .eq := by
  by_cases h : nan a
  · rw [if_pos h, order_nan a a (.inl h)]
  · rw [if_neg h, order_is a a (by unfold nan at h; omega) (by unfold nan at h; omega)]
    congr 1
    simp [compare, compareOfLessAndEq]
set_option maxHeartbeats 4000000 in
theorem isnan_any (a : Nat) (w : World) : Calls Try.prog 25 #[.float .f64 a] w fun e w' => e = .returned (.bool (decide (nan a))) ∧ w = w' := by
  have h : (Ieee.Format.order Ieee.double a a != some .eq) = decide (nan a) := by
    rw [order_self]
    by_cases h : nan a <;> simp [h]
  go_enter Try.func25, Try.ntmps25
  go_wp2
  exact bodyPost_ret (results_tmp rfl _ _ _) rfl ⟨by rw [← h]; rfl, rfl⟩
set_option maxHeartbeats 4000000 in
theorem none_any (a : Nat) (w : World) : Calls Try.prog 27 #[.float .f64 a] w fun e w' => e = .returned (.bool (decide (nan a))) ∧ w = w' := by
  have h : (Ieee.Format.order Ieee.double a a != some .eq) = decide (nan a) := by
    rw [order_self]
    by_cases h : nan a <;> simp [h]
  go_enter Try.func27, Try.ntmps27
  go_wp2
  exact bodyPost_ret (results_tmp rfl _ _ _) rfl ⟨by rw [← h]; rfl, rfl⟩
theorem run_frombits (a : Nat) (w : World) : (callFunc 23 #[.int .u64 a]).run Try.prog w = .ok (.value (.float .f64 a)) w := by kernel_rfl
theorem run_bits (a : Nat) (w : World) : (callFunc 26 #[.float .f64 a]).run Try.prog w = .ok (.value (.int .u64 a)) w := by kernel_rfl
set_option maxHeartbeats 4000000 in
theorem of_any (a : Nat) (w : World) : Calls Try.prog 7 #[.int .u64 a] w fun e w' => e = .returned (.float .f64 a) ∧ w = w' := by
  have h := run_frombits a w
  go_enter Try.func7, Try.ntmps7
  go_wp2
  exact bodyPost_ret (results_tmp rfl _ _ _) rfl ⟨rfl, rfl⟩
theorem and63 (n : Int) : bits .and .i64 n 9223372036854775807 = n % 9223372036854775808 := by
  show IntKind.i64.wrap ((BitVec.ofInt 64 n &&& BitVec.ofInt 64 9223372036854775807).toNat : Nat) = _
  have e : (BitVec.ofInt 64 9223372036854775807).toNat = 2 ^ 63 - 1 := by decide
  rw [BitVec.toNat_and, e, Nat.and_two_pow_sub_one_eq_mod, BitVec.toNat_ofInt, IntKind.wrap_i64]
  omega
/-- A word as a signed number. -/
def sw (a : Nat) : Int := if ng a then (a : Int) - 18446744073709551616 else a
theorem sw_lt (a : Nat) (ha : a < 18446744073709551616) : decide (sw a < 0) = ng a := by
  unfold sw
  cases h : ng a
  · simp
  · have : (a : Int) - 18446744073709551616 < 0 := by omega
    simpa using this
theorem wrap_sw (a : Nat) (ha : a < 18446744073709551616) : IntKind.i64.wrap (a : Int) = sw a := by
  rw [IntKind.wrap_i64]
  unfold sw ng
  by_cases h : a / 9223372036854775808 % 2 = 1
  · simp only [h, beq_self_eq_true, if_true]; omega
  · have : (a / 9223372036854775808 % 2 == 1) = false := by simpa using h
    simp only [this, Bool.false_eq_true, if_false]; omega
theorem sw_mod (a : Nat) : sw a % 9223372036854775808 = (rung a : Int) := by
  unfold sw rung
  split <;> omega
theorem rung_lt (a : Nat) : rung a < 9223372036854775808 := Nat.mod_lt _ (by decide)
theorem sw_pos (a : Nat) (ha : a < 18446744073709551616) (h : ng a = false) : sw a = (rung a : Int) := by
  unfold ng at h
  have h' : ¬ a / 9223372036854775808 % 2 = 1 := by simpa using h
  unfold sw ng rung
  rw [h]
  simp only [Bool.false_eq_true, if_false]
  omega
set_option maxHeartbeats 4000000 in
theorem key_any (a : Nat) (w : World) (ha : a < 18446744073709551616) : Calls Try.prog 10 #[.float .f64 a] w fun e w' => e = .returned (.int .i64 (key a)) ∧ w = w' := by
  have h := run_bits a w
  have hw := wrap_sw a ha
  by_cases hn : nan a
  · have hk : Hid (key a = 9223372036854775807) := Lib.hid (by unfold key; rw [if_pos hn])
    have hd : decide (nan a) = true := decide_eq_true hn
    have HD := Lib.hid hd
    clear hn hd
    go_enter Try.func10, Try.ntmps10
    go_wp2_with fail
    refine (isnan_any a _).mono ?_
    rintro e w1 ⟨rfl, rfl⟩
    rw [HD.out]
    go_wp2
    exact bodyPost_ret (results_tmp rfl _ _ _) rfl ⟨by rw [hk.out]; rfl, rfl⟩
  · have HD : Hid (decide (nan a) = false) := Lib.hid (decide_eq_false hn)
    have hlt := sw_lt a ha
    have hm := sw_mod a
    have hr := rung_lt a
    have h63 := and63 (sw a)
    rw [hm] at h63
    cases hg : ng a
    · have hk : Hid (key a = sw a) := Lib.hid (by unfold key; rw [if_neg hn, hg, sw_pos a ha hg]; rfl)
      rw [hg] at hlt
      clear hn hm h63 hg
      generalize sw a = n at hw hlt hk
      go_enter Try.func10, Try.ntmps10
      go_wp2_with fail
      refine (isnan_any a _).mono ?_
      rintro e w1 ⟨rfl, rfl⟩
      rw [HD.out]
      go_wp2
      exact bodyPost_ret (results_tmp rfl _ _ _) rfl ⟨by rw [hk.out]; rfl, rfl⟩
    · have hk : Hid (key a = -1 - (rung a : Int)) := Lib.hid (by unfold key; rw [if_neg hn, hg]; rfl)
      rw [hg] at hlt
      clear hn hm hg
      generalize sw a = n at hw hlt h63
      generalize rung a = r at h63 hr hk
      go_enter Try.func10, Try.ntmps10
      go_wp2_with fail
      refine (isnan_any a _).mono ?_
      rintro e w1 ⟨rfl, rfl⟩
      rw [HD.out]
      go_wp2
      exact bodyPost_ret (results_tmp rfl _ _ _) rfl ⟨by rw [hk.out]; rfl, rfl⟩
end Go.Proofs.Ytagjgofnaplefaa.Wei
