/- The document's Compare and Same. Conditions: words of 64 bits. -/
import Derived.Test.YtagjgofnaplefaaWeB
namespace Go.Proofs.Ytagjgofnaplefaa.Wei
open Go.RowKit
open Flo
set_option maxHeartbeats 4000000 in
theorem rcompare_any (a b : Nat) (w : World) (ha : a < 18446744073709551616) (hb : b < 18446744073709551616) : Calls Try.prog 12 #[.float .f64 a, .float .f64 b] w fun e w' => e = .returned (.int .i64 (cmp3 (key a) (key b))) ∧ w = w' := by
  have HA := Lib.hid (rkey_any a w ha)
  have HB := Lib.hid (rkey_any b w hb)
  generalize key a = x at HA ⊢
  generalize key b = y at HB ⊢
  unfold cmp3
  by_cases h1 : x < y
  · rw [if_pos h1]
    have d1 : decide (x < y) = true := decide_eq_true h1
    go_enter Try.func12, Try.ntmps12
    go_wp2_with fail
    refine HA.out.mono ?_
    rintro e w1 ⟨rfl, rfl⟩
    go_wp2_with fail
    refine HB.out.mono ?_
    rintro e w1 ⟨rfl, rfl⟩
    go_wp2
    exact bodyPost_ret (results_tmp rfl _ _ _) rfl ⟨rfl, rfl⟩
  · rw [if_neg h1]
    have d1 : decide (x < y) = false := decide_eq_false h1
    by_cases h2 : x > y
    · rw [if_pos h2]
      have d2 : decide (x > y) = true := decide_eq_true h2
      go_enter Try.func12, Try.ntmps12
      go_wp2_with fail
      refine HA.out.mono ?_
      rintro e w1 ⟨rfl, rfl⟩
      go_wp2_with fail
      refine HB.out.mono ?_
      rintro e w1 ⟨rfl, rfl⟩
      go_wp2
      exact bodyPost_ret (results_tmp rfl _ _ _) rfl ⟨rfl, rfl⟩
    · rw [if_neg h2]
      have d2 : decide (x > y) = false := decide_eq_false h2
      go_enter Try.func12, Try.ntmps12
      go_wp2_with fail
      refine HA.out.mono ?_
      rintro e w1 ⟨rfl, rfl⟩
      go_wp2_with fail
      refine HB.out.mono ?_
      rintro e w1 ⟨rfl, rfl⟩
      go_wp2
      exact bodyPost_ret (results_tmp rfl _ _ _) rfl ⟨rfl, rfl⟩
/-- Are two floats the same? -/
def same (a b : Nat) : Bool := (decide (nan a) && decide (nan b)) || ((a : Int) == (b : Int))
set_option maxHeartbeats 4000000 in
theorem same_any (a b : Nat) (w : World) : Calls Try.prog 22 #[.float .f64 a, .float .f64 b] w fun e w' => e = .returned (.bool (same a b)) ∧ w = w' := by
  have h1 := run_bits a w
  have h2 := run_bits b w
  by_cases ha : nan a
  · have HA : Hid (decide (nan a) = true) := Lib.hid (decide_eq_true ha)
    by_cases hb : nan b
    · have HB : Hid (decide (nan b) = true) := Lib.hid (decide_eq_true hb)
      have hs : Hid (same a b = true) := Lib.hid (by unfold same; rw [HA.out, HB.out]; rfl)
      clear ha hb
      go_enter Try.func22, Try.ntmps22
      go_wp2_with fail
      refine (none_any a _).mono ?_
      rintro e w1 ⟨rfl, rfl⟩
      rw [HA.out]
      go_wp2_with fail
      refine (none_any b _).mono ?_
      rintro e w1 ⟨rfl, rfl⟩
      rw [HB.out]
      go_wp2
      exact bodyPost_ret (results_tmp rfl _ _ _) rfl ⟨by rw [hs.out]; rfl, rfl⟩
    · have HB : Hid (decide (nan b) = false) := Lib.hid (decide_eq_false hb)
      have hs : Hid (same a b = ((a : Int) == (b : Int))) := Lib.hid (by unfold same; rw [HA.out, HB.out]; rfl)
      clear ha hb
      go_enter Try.func22, Try.ntmps22
      go_wp2_with fail
      refine (none_any a _).mono ?_
      rintro e w1 ⟨rfl, rfl⟩
      rw [HA.out]
      go_wp2_with fail
      refine (none_any b _).mono ?_
      rintro e w1 ⟨rfl, rfl⟩
      rw [HB.out]
      go_wp2
      exact bodyPost_ret (results_tmp rfl _ _ _) rfl ⟨by rw [hs.out]; rfl, rfl⟩
  · have HA : Hid (decide (nan a) = false) := Lib.hid (decide_eq_false ha)
    have hs : Hid (same a b = ((a : Int) == (b : Int))) := Lib.hid (by unfold same; rw [HA.out]; rfl)
    clear ha
    go_enter Try.func22, Try.ntmps22
    go_wp2_with fail
    refine (none_any a _).mono ?_
    rintro e w1 ⟨rfl, rfl⟩
    rw [HA.out]
    go_wp2
    exact bodyPost_ret (results_tmp rfl _ _ _) rfl ⟨by rw [hs.out]; rfl, rfl⟩
end Go.Proofs.Ytagjgofnaplefaa.Wei
