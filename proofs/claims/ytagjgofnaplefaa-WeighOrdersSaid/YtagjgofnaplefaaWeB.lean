/- Floats by their bits: the document's key, and which of two floats stands ahead. Conditions: words of 64 bits. -/
import Derived.Test.YtagjgofnaplefaaWeA
namespace Go.Proofs.Ytagjgofnaplefaa.Wei
open Go.RowKit
open Flo
theorem andNot63 (a : Nat) : bits .andNot .u64 (a : Int) 9223372036854775808 = (rung a : Int) := by
  show IntKind.u64.wrap ((BitVec.ofInt 64 (a : Int) &&& ~~~ (BitVec.ofInt 64 9223372036854775808)).toNat : Nat) = _
  have e : (~~~ (BitVec.ofInt 64 9223372036854775808)).toNat = 2 ^ 63 - 1 := by decide
  rw [BitVec.toNat_and, e, Nat.and_two_pow_sub_one_eq_mod, BitVec.toNat_ofInt, IntKind.wrap_u64]
  unfold rung
  omega
set_option maxHeartbeats 4000000 in
theorem abs_any (a : Nat) (w : World) : Calls Try.prog 28 #[.float .f64 a] w fun e w' => e = .returned (.float .f64 (rung a)) ∧ w = w' := by
  have h := run_bits a w
  have h2 := andNot63 a
  have h3 := run_frombits (rung a) w
  generalize rung a = r at h2 h3 ⊢
  go_enter Try.func28, Try.ntmps28
  go_wp2
  exact bodyPost_ret (results_tmp rfl _ _ _) rfl ⟨rfl, rfl⟩
set_option maxHeartbeats 4000000 in
theorem signbit_any (a : Nat) (w : World) (ha : a < 18446744073709551616) : Calls Try.prog 29 #[.float .f64 a] w fun e w' => e = .returned (.bool (ng a)) ∧ w = w' := by
  have h := run_bits a w
  have hw := wrap_sw a ha
  have hlt := Lib.hid (sw_lt a ha)
  generalize sw a = n at hw hlt
  go_enter Try.func29, Try.ntmps29
  go_wp2
  exact bodyPost_ret (results_tmp rfl _ _ _) rfl ⟨by rw [← hlt.out]; rfl, rfl⟩
set_option maxHeartbeats 4000000 in
theorem rkey_any (a : Nat) (w : World) (ha : a < 18446744073709551616) : Calls Try.prog 11 #[.float .f64 a] w fun e w' => e = .returned (.int .i64 (key a)) ∧ w = w' := by
  by_cases hn : nan a
  · have hk : Hid (key a = 9223372036854775807) := Lib.hid (by unfold key; rw [if_pos hn])
    have HD : Hid (decide (nan a) = true) := Lib.hid (decide_eq_true hn)
    clear hn
    go_enter Try.func11, Try.ntmps11
    go_wp2_with fail
    refine (none_any a _).mono ?_
    rintro e w1 ⟨rfl, rfl⟩
    rw [HD.out]
    go_wp2
    exact bodyPost_ret (results_tmp rfl _ _ _) rfl ⟨by rw [hk.out]; rfl, rfl⟩
  · have HD : Hid (decide (nan a) = false) := Lib.hid (decide_eq_false hn)
    have HS := Lib.hid (signbit_any a w ha)
    have HA := Lib.hid (abs_any a w)
    have hr := rung_lt a
    have h := run_bits (rung a) w
    have hw : IntKind.i64.wrap (rung a : Int) = (rung a : Int) := by rw [IntKind.wrap_i64]; omega
    cases hg : ng a
    · have hk : Hid (key a = (rung a : Int)) := Lib.hid (by unfold key; rw [if_neg hn, hg]; rfl)
      rw [hg] at HS
      clear hn hg
      generalize rung a = r at hk HA hr h hw
      go_enter Try.func11, Try.ntmps11
      go_wp2_with fail
      refine (none_any a _).mono ?_
      rintro e w1 ⟨rfl, rfl⟩
      rw [HD.out]
      go_wp2_with fail
      refine HA.out.mono ?_
      rintro e w1 ⟨rfl, rfl⟩
      go_wp2_with fail
      refine HS.out.mono ?_
      rintro e w1 ⟨rfl, rfl⟩
      go_wp2
      exact bodyPost_ret (results_tmp rfl _ _ _) rfl ⟨by rw [hk.out]; rfl, rfl⟩
    · have hk : Hid (key a = -1 - (rung a : Int)) := Lib.hid (by unfold key; rw [if_neg hn, hg]; rfl)
      rw [hg] at HS
      clear hn hg
      generalize rung a = r at hk HA hr h hw
      go_enter Try.func11, Try.ntmps11
      go_wp2_with fail
      refine (none_any a _).mono ?_
      rintro e w1 ⟨rfl, rfl⟩
      rw [HD.out]
      go_wp2_with fail
      refine HA.out.mono ?_
      rintro e w1 ⟨rfl, rfl⟩
      go_wp2_with fail
      refine HS.out.mono ?_
      rintro e w1 ⟨rfl, rfl⟩
      go_wp2
      exact bodyPost_ret (results_tmp rfl _ _ _) rfl ⟨by rw [hk.out]; rfl, rfl⟩
/-- How two numbers stand. -/
def cmp3 (x y : Int) : Int := if x < y then -1 else if x > y then 1 else 0
set_option maxHeartbeats 4000000 in
theorem isnani_any (x : Int) (w : World) : Calls Try.prog 34 #[.int .i64 x] w fun e w' => e = .returned (.bool false) ∧ w = w' := by
  go_enter Try.func34, Try.ntmps34
  go_wp2
  exact bodyPost_ret (results_tmp rfl _ _ _) rfl ⟨rfl, rfl⟩
set_option maxHeartbeats 4000000 in
theorem cmp_any (x y : Int) (w : World) : Calls Try.prog 24 #[.int .i64 x, .int .i64 y] w fun e w' => e = .returned (.int .i64 (cmp3 x y)) ∧ w = w' := by
  unfold cmp3
  by_cases h1 : x < y
  · rw [if_pos h1]
    have d1 : decide (x < y) = true := decide_eq_true h1
    go_enter Try.func24, Try.ntmps24
    go_wp2_with fail
    refine (isnani_any x _).mono ?_
    rintro e w1 ⟨rfl, rfl⟩
    go_wp2_with fail
    refine (isnani_any y _).mono ?_
    rintro e w1 ⟨rfl, rfl⟩
    go_wp2
    exact bodyPost_ret (results_tmp rfl _ _ _) rfl ⟨rfl, rfl⟩
  · rw [if_neg h1]
    have d1 : decide (x < y) = false := decide_eq_false h1
    by_cases h2 : x > y
    · rw [if_pos h2]
      have d2 : decide (x > y) = true := decide_eq_true h2
      go_enter Try.func24, Try.ntmps24
      go_wp2_with fail
      refine (isnani_any x _).mono ?_
      rintro e w1 ⟨rfl, rfl⟩
      go_wp2_with fail
      refine (isnani_any y _).mono ?_
      rintro e w1 ⟨rfl, rfl⟩
      go_wp2
      exact bodyPost_ret (results_tmp rfl _ _ _) rfl ⟨rfl, rfl⟩
    · rw [if_neg h2]
      have d2 : decide (x > y) = false := decide_eq_false h2
      go_enter Try.func24, Try.ntmps24
      go_wp2_with fail
      refine (isnani_any x _).mono ?_
      rintro e w1 ⟨rfl, rfl⟩
      go_wp2_with fail
      refine (isnani_any y _).mono ?_
      rintro e w1 ⟨rfl, rfl⟩
      go_wp2
      exact bodyPost_ret (results_tmp rfl _ _ _) rfl ⟨rfl, rfl⟩
set_option maxHeartbeats 4000000 in
theorem compare_any (a b : Nat) (w : World) (ha : a < 18446744073709551616) (hb : b < 18446744073709551616) : Calls Try.prog 8 #[.float .f64 a, .float .f64 b] w fun e w' => e = .returned (.int .i64 (cmp3 (key a) (key b))) ∧ w = w' := by
  go_enter Try.func8, Try.ntmps8
  go_wp2_with fail
  refine (key_any a _ ha).mono ?_
  rintro e w1 ⟨rfl, rfl⟩
  go_wp2_with fail
  refine (key_any b _ hb).mono ?_
  rintro e w1 ⟨rfl, rfl⟩
  go_wp2_with fail
  refine (cmp_any _ _ _).mono ?_
  rintro e w1 ⟨rfl, rfl⟩
  go_wp2
  exact bodyPost_ret (results_tmp rfl _ _ _) rfl ⟨rfl, rfl⟩
end Go.Proofs.Ytagjgofnaplefaa.Wei
