/- The law on which of two floats stands ahead, walked. Conditions: words of 64 bits. -/
import Derived.Test.YtagjgofnaplefaaWeO
import Derived.OpenShut
namespace Go.Proofs.Ytagjgofnaplefaa.Wei
open Go.RowKit
open Flo
set_option maxHeartbeats 4000000 in
set_option maxRecDepth 100000 in
theorem compares_walk (a b : Nat) (w : World) (ha : a < 18446744073709551616) (hb : b < 18446744073709551616) : Calls Try.prog 4 #[.int .u64 a, .int .u64 b] w fun e w' => e = .returned (.bool true) ∧ Below w.heap.size w w' := by
  have H1 := Lib.hid (fun w => key_any a w ha)
  have H2 := Lib.hid (fun w => rkey_any a w ha)
  have H3 := Lib.hid (fun w => compare_any a b w ha hb)
  have H4 := Lib.hid (fun w => rcompare_any a b w ha hb)
  generalize cmp3 (key a) (key b) = z at H3 H4
  generalize key a = x at H1 H2
  go_enter Try.func4, Try.ntmps4
  go_wp2_with fail
  refine (of_any a _).mono ?_
  rintro e w1 ⟨rfl, rfl⟩
  go_wp2_with fail
  refine (of_any b _).mono ?_
  rintro e w1 ⟨rfl, rfl⟩
  go_wp2_with fail
  refine (H1.out _).mono ?_
  rintro e w1 ⟨rfl, rfl⟩
  go_wp2_with fail
  refine (H2.out _).mono ?_
  rintro e w1 ⟨rfl, rfl⟩
  go_wp2_with fail
  refine (H3.out _).mono ?_
  rintro e w1 ⟨rfl, rfl⟩
  go_wp2_with fail
  refine (H4.out _).mono ?_
  rintro e w1 ⟨rfl, rfl⟩
  go_wp2_with fail
  refine (awake_any _).mono ?_
  rintro e w1 ⟨rfl, k1⟩
  go_wp2
  exact bodyPost_ret (results_tmp rfl _ _ _) rfl ⟨rfl, k1⟩
theorem compares_int (a b : Int) (w : World) (ha : (Lit.int .u64 a).wf = true) (hb : (Lit.int .u64 b).wf = true) : Calls Try.prog 4 #[.int .u64 a, .int .u64 b] w fun e w' => e = .returned (.bool true) ∧ Below w.heap.size w w' := by
  have h1 := Go.bounds_u64 ha
  have h2 := Go.bounds_u64 hb
  obtain ⟨c, rfl⟩ := Int.eq_ofNat_of_zero_le h1.1
  obtain ⟨n, rfl⟩ := Int.eq_ofNat_of_zero_le h2.1
  exact compares_walk c n w (by omega) (by omega)
end Go.Proofs.Ytagjgofnaplefaa.Wei
