/- The law that it is a total order, walked. Conditions: words of 64 bits. -/
import Derived.Test.YtagjgofnaplefaaWeP
namespace Go.Proofs.Ytagjgofnaplefaa.Wei
open Go.RowKit
open Flo
/-- What the comparison of two floats tells. -/
def Tells (a b : Nat) (z : Int) : Prop := ∀ w, Calls Try.prog 8 #[.float .f64 a, .float .f64 b] w fun e w' => e = .returned (.int .i64 z) ∧ w = w'
set_option maxHeartbeats 4000000 in
set_option maxRecDepth 100000 in
theorem total_lll (a b c : Nat) (w : World) (H1 : Tells a b (-1)) (H2 : Tells b c (-1)) (H3 : Tells a c (-1)) (H4 : Tells b a (1)) (H5 : Tells a a 0) (hgt : ¬ FloatKind.f64.format.order a b = some .gt) :
    Calls Try.prog 3 #[.int .u64 a, .int .u64 b, .int .u64 c] w fun e w' => e = .returned (.bool true) ∧ Below w.heap.size w w' := by
  have HA := Lib.hid H1
  have HB := Lib.hid H2
  have HC := Lib.hid H3
  have HD := Lib.hid H4
  have HE := Lib.hid H5
  clear H1 H2 H3 H4 H5
  go_enter Try.func3, Try.ntmps3
  go_wp2_with fail
  refine (of_any a _).mono ?_
  rintro e w1 ⟨rfl, rfl⟩
  go_wp2_with fail
  refine (of_any b _).mono ?_
  rintro e w1 ⟨rfl, rfl⟩
  go_wp2_with fail
  refine (of_any c _).mono ?_
  rintro e w1 ⟨rfl, rfl⟩
  go_wp2_with fail
  refine (HA.out _).mono ?_
  rintro e w1 ⟨rfl, rfl⟩
  go_wp2_with fail
  refine (HB.out _).mono ?_
  rintro e w1 ⟨rfl, rfl⟩
  go_wp2_with fail
  refine (HC.out _).mono ?_
  rintro e w1 ⟨rfl, rfl⟩
  go_wp2_with fail
  refine (HD.out _).mono ?_
  rintro e w1 ⟨rfl, rfl⟩
  go_wp2_with fail
  refine (HE.out _).mono ?_
  rintro e w1 ⟨rfl, rfl⟩
  go_wp2_with fail
  all_goals (refine (awake_any _).mono ?_; rintro e w1 ⟨rfl, k1⟩; go_wp2; exact bodyPost_ret (results_tmp rfl _ _ _) rfl ⟨rfl, k1⟩)
set_option maxHeartbeats 4000000 in
set_option maxRecDepth 100000 in
theorem total_lel (a b c : Nat) (w : World) (H1 : Tells a b (-1)) (H2 : Tells b c (0)) (H3 : Tells a c (-1)) (H4 : Tells b a (1)) (H5 : Tells a a 0) (hgt : ¬ FloatKind.f64.format.order a b = some .gt) :
    Calls Try.prog 3 #[.int .u64 a, .int .u64 b, .int .u64 c] w fun e w' => e = .returned (.bool true) ∧ Below w.heap.size w w' := by
  have HA := Lib.hid H1
  have HB := Lib.hid H2
  have HC := Lib.hid H3
  have HD := Lib.hid H4
  have HE := Lib.hid H5
  clear H1 H2 H3 H4 H5
  go_enter Try.func3, Try.ntmps3
  go_wp2_with fail
  refine (of_any a _).mono ?_
  rintro e w1 ⟨rfl, rfl⟩
  go_wp2_with fail
  refine (of_any b _).mono ?_
  rintro e w1 ⟨rfl, rfl⟩
  go_wp2_with fail
  refine (of_any c _).mono ?_
  rintro e w1 ⟨rfl, rfl⟩
  go_wp2_with fail
  refine (HA.out _).mono ?_
  rintro e w1 ⟨rfl, rfl⟩
  go_wp2_with fail
  refine (HB.out _).mono ?_
  rintro e w1 ⟨rfl, rfl⟩
  go_wp2_with fail
  refine (HC.out _).mono ?_
  rintro e w1 ⟨rfl, rfl⟩
  go_wp2_with fail
  refine (HD.out _).mono ?_
  rintro e w1 ⟨rfl, rfl⟩
  go_wp2_with fail
  refine (HE.out _).mono ?_
  rintro e w1 ⟨rfl, rfl⟩
  go_wp2_with fail
  all_goals (refine (awake_any _).mono ?_; rintro e w1 ⟨rfl, k1⟩; go_wp2; exact bodyPost_ret (results_tmp rfl _ _ _) rfl ⟨rfl, k1⟩)
set_option maxHeartbeats 4000000 in
set_option maxRecDepth 100000 in
theorem total_lgl (a b c : Nat) (w : World) (H1 : Tells a b (-1)) (H2 : Tells b c (1)) (H3 : Tells a c (-1)) (H4 : Tells b a (1)) (H5 : Tells a a 0) (hgt : ¬ FloatKind.f64.format.order a b = some .gt) :
    Calls Try.prog 3 #[.int .u64 a, .int .u64 b, .int .u64 c] w fun e w' => e = .returned (.bool true) ∧ Below w.heap.size w w' := by
  have HA := Lib.hid H1
  have HB := Lib.hid H2
  have HC := Lib.hid H3
  have HD := Lib.hid H4
  have HE := Lib.hid H5
  clear H1 H2 H3 H4 H5
  go_enter Try.func3, Try.ntmps3
  go_wp2_with fail
  refine (of_any a _).mono ?_
  rintro e w1 ⟨rfl, rfl⟩
  go_wp2_with fail
  refine (of_any b _).mono ?_
  rintro e w1 ⟨rfl, rfl⟩
  go_wp2_with fail
  refine (of_any c _).mono ?_
  rintro e w1 ⟨rfl, rfl⟩
  go_wp2_with fail
  refine (HA.out _).mono ?_
  rintro e w1 ⟨rfl, rfl⟩
  go_wp2_with fail
  refine (HB.out _).mono ?_
  rintro e w1 ⟨rfl, rfl⟩
  go_wp2_with fail
  refine (HC.out _).mono ?_
  rintro e w1 ⟨rfl, rfl⟩
  go_wp2_with fail
  refine (HD.out _).mono ?_
  rintro e w1 ⟨rfl, rfl⟩
  go_wp2_with fail
  refine (HE.out _).mono ?_
  rintro e w1 ⟨rfl, rfl⟩
  go_wp2_with fail
  all_goals (refine (awake_any _).mono ?_; rintro e w1 ⟨rfl, k1⟩; go_wp2; exact bodyPost_ret (results_tmp rfl _ _ _) rfl ⟨rfl, k1⟩)
set_option maxHeartbeats 4000000 in
set_option maxRecDepth 100000 in
theorem total_lge (a b c : Nat) (w : World) (H1 : Tells a b (-1)) (H2 : Tells b c (1)) (H3 : Tells a c (0)) (H4 : Tells b a (1)) (H5 : Tells a a 0) (hgt : ¬ FloatKind.f64.format.order a b = some .gt) :
    Calls Try.prog 3 #[.int .u64 a, .int .u64 b, .int .u64 c] w fun e w' => e = .returned (.bool true) ∧ Below w.heap.size w w' := by
  have HA := Lib.hid H1
  have HB := Lib.hid H2
  have HC := Lib.hid H3
  have HD := Lib.hid H4
  have HE := Lib.hid H5
  clear H1 H2 H3 H4 H5
  go_enter Try.func3, Try.ntmps3
  go_wp2_with fail
  refine (of_any a _).mono ?_
  rintro e w1 ⟨rfl, rfl⟩
  go_wp2_with fail
  refine (of_any b _).mono ?_
  rintro e w1 ⟨rfl, rfl⟩
  go_wp2_with fail
  refine (of_any c _).mono ?_
  rintro e w1 ⟨rfl, rfl⟩
  go_wp2_with fail
  refine (HA.out _).mono ?_
  rintro e w1 ⟨rfl, rfl⟩
  go_wp2_with fail
  refine (HB.out _).mono ?_
  rintro e w1 ⟨rfl, rfl⟩
  go_wp2_with fail
  refine (HC.out _).mono ?_
  rintro e w1 ⟨rfl, rfl⟩
  go_wp2_with fail
  refine (HD.out _).mono ?_
  rintro e w1 ⟨rfl, rfl⟩
  go_wp2_with fail
  refine (HE.out _).mono ?_
  rintro e w1 ⟨rfl, rfl⟩
  go_wp2_with fail
  all_goals (refine (awake_any _).mono ?_; rintro e w1 ⟨rfl, k1⟩; go_wp2; exact bodyPost_ret (results_tmp rfl _ _ _) rfl ⟨rfl, k1⟩)
set_option maxHeartbeats 4000000 in
set_option maxRecDepth 100000 in
theorem total_lgg (a b c : Nat) (w : World) (H1 : Tells a b (-1)) (H2 : Tells b c (1)) (H3 : Tells a c (1)) (H4 : Tells b a (1)) (H5 : Tells a a 0) (hgt : ¬ FloatKind.f64.format.order a b = some .gt) :
    Calls Try.prog 3 #[.int .u64 a, .int .u64 b, .int .u64 c] w fun e w' => e = .returned (.bool true) ∧ Below w.heap.size w w' := by
  have HA := Lib.hid H1
  have HB := Lib.hid H2
  have HC := Lib.hid H3
  have HD := Lib.hid H4
  have HE := Lib.hid H5
  clear H1 H2 H3 H4 H5
  go_enter Try.func3, Try.ntmps3
  go_wp2_with fail
  refine (of_any a _).mono ?_
  rintro e w1 ⟨rfl, rfl⟩
  go_wp2_with fail
  refine (of_any b _).mono ?_
  rintro e w1 ⟨rfl, rfl⟩
  go_wp2_with fail
  refine (of_any c _).mono ?_
  rintro e w1 ⟨rfl, rfl⟩
  go_wp2_with fail
  refine (HA.out _).mono ?_
  rintro e w1 ⟨rfl, rfl⟩
  go_wp2_with fail
  refine (HB.out _).mono ?_
  rintro e w1 ⟨rfl, rfl⟩
  go_wp2_with fail
  refine (HC.out _).mono ?_
  rintro e w1 ⟨rfl, rfl⟩
  go_wp2_with fail
  refine (HD.out _).mono ?_
  rintro e w1 ⟨rfl, rfl⟩
  go_wp2_with fail
  refine (HE.out _).mono ?_
  rintro e w1 ⟨rfl, rfl⟩
  go_wp2_with fail
  all_goals (refine (awake_any _).mono ?_; rintro e w1 ⟨rfl, k1⟩; go_wp2; exact bodyPost_ret (results_tmp rfl _ _ _) rfl ⟨rfl, k1⟩)
set_option maxHeartbeats 4000000 in
set_option maxRecDepth 100000 in
theorem total_ell (a b c : Nat) (w : World) (H1 : Tells a b (0)) (H2 : Tells b c (-1)) (H3 : Tells a c (-1)) (H4 : Tells b a (0)) (H5 : Tells a a 0) (haa : FloatKind.f64.format.order a a = some .eq) (hab : FloatKind.f64.format.order a b = some .eq) :
    Calls Try.prog 3 #[.int .u64 a, .int .u64 b, .int .u64 c] w fun e w' => e = .returned (.bool true) ∧ Below w.heap.size w w' := by
  have HA := Lib.hid H1
  have HB := Lib.hid H2
  have HC := Lib.hid H3
  have HD := Lib.hid H4
  have HE := Lib.hid H5
  clear H1 H2 H3 H4 H5
  go_enter Try.func3, Try.ntmps3
  go_wp2_with fail
  refine (of_any a _).mono ?_
  rintro e w1 ⟨rfl, rfl⟩
  go_wp2_with fail
  refine (of_any b _).mono ?_
  rintro e w1 ⟨rfl, rfl⟩
  go_wp2_with fail
  refine (of_any c _).mono ?_
  rintro e w1 ⟨rfl, rfl⟩
  go_wp2_with fail
  refine (HA.out _).mono ?_
  rintro e w1 ⟨rfl, rfl⟩
  go_wp2_with fail
  refine (HB.out _).mono ?_
  rintro e w1 ⟨rfl, rfl⟩
  go_wp2_with fail
  refine (HC.out _).mono ?_
  rintro e w1 ⟨rfl, rfl⟩
  go_wp2_with fail
  refine (HD.out _).mono ?_
  rintro e w1 ⟨rfl, rfl⟩
  go_wp2_with fail
  refine (HE.out _).mono ?_
  rintro e w1 ⟨rfl, rfl⟩
  go_wp2_with fail
  all_goals (refine (awake_any _).mono ?_; rintro e w1 ⟨rfl, k1⟩; go_wp2; exact bodyPost_ret (results_tmp rfl _ _ _) rfl ⟨rfl, k1⟩)
set_option maxHeartbeats 4000000 in
set_option maxRecDepth 100000 in
theorem total_ell1 (a b c : Nat) (w : World) (H1 : Tells a b (0)) (H2 : Tells b c (-1)) (H3 : Tells a c (-1)) (H4 : Tells b a (0)) (H5 : Tells a a 0) (hlt : ¬ FloatKind.f64.format.order a b = some .lt) (hgt : ¬ FloatKind.f64.format.order a b = some .gt) (haa : ¬ FloatKind.f64.format.order a a = some .eq) :
    Calls Try.prog 3 #[.int .u64 a, .int .u64 b, .int .u64 c] w fun e w' => e = .returned (.bool true) ∧ Below w.heap.size w w' := by
  have HA := Lib.hid H1
  have HB := Lib.hid H2
  have HC := Lib.hid H3
  have HD := Lib.hid H4
  have HE := Lib.hid H5
  clear H1 H2 H3 H4 H5
  go_enter Try.func3, Try.ntmps3
  go_wp2_with fail
  refine (of_any a _).mono ?_
  rintro e w1 ⟨rfl, rfl⟩
  go_wp2_with fail
  refine (of_any b _).mono ?_
  rintro e w1 ⟨rfl, rfl⟩
  go_wp2_with fail
  refine (of_any c _).mono ?_
  rintro e w1 ⟨rfl, rfl⟩
  go_wp2_with fail
  refine (HA.out _).mono ?_
  rintro e w1 ⟨rfl, rfl⟩
  go_wp2_with fail
  refine (HB.out _).mono ?_
  rintro e w1 ⟨rfl, rfl⟩
  go_wp2_with fail
  refine (HC.out _).mono ?_
  rintro e w1 ⟨rfl, rfl⟩
  go_wp2_with fail
  refine (HD.out _).mono ?_
  rintro e w1 ⟨rfl, rfl⟩
  go_wp2_with fail
  refine (HE.out _).mono ?_
  rintro e w1 ⟨rfl, rfl⟩
  go_wp2_with fail
  all_goals (refine (awake_any _).mono ?_; rintro e w1 ⟨rfl, k1⟩; go_wp2; exact bodyPost_ret (results_tmp rfl _ _ _) rfl ⟨rfl, k1⟩)
set_option maxHeartbeats 4000000 in
set_option maxRecDepth 100000 in
theorem total_eee (a b c : Nat) (w : World) (H1 : Tells a b (0)) (H2 : Tells b c (0)) (H3 : Tells a c (0)) (H4 : Tells b a (0)) (H5 : Tells a a 0) (haa : FloatKind.f64.format.order a a = some .eq) (hab : FloatKind.f64.format.order a b = some .eq) :
    Calls Try.prog 3 #[.int .u64 a, .int .u64 b, .int .u64 c] w fun e w' => e = .returned (.bool true) ∧ Below w.heap.size w w' := by
  have HA := Lib.hid H1
  have HB := Lib.hid H2
  have HC := Lib.hid H3
  have HD := Lib.hid H4
  have HE := Lib.hid H5
  clear H1 H2 H3 H4 H5
  go_enter Try.func3, Try.ntmps3
  go_wp2_with fail
  refine (of_any a _).mono ?_
  rintro e w1 ⟨rfl, rfl⟩
  go_wp2_with fail
  refine (of_any b _).mono ?_
  rintro e w1 ⟨rfl, rfl⟩
  go_wp2_with fail
  refine (of_any c _).mono ?_
  rintro e w1 ⟨rfl, rfl⟩
  go_wp2_with fail
  refine (HA.out _).mono ?_
  rintro e w1 ⟨rfl, rfl⟩
  go_wp2_with fail
  refine (HB.out _).mono ?_
  rintro e w1 ⟨rfl, rfl⟩
  go_wp2_with fail
  refine (HC.out _).mono ?_
  rintro e w1 ⟨rfl, rfl⟩
  go_wp2_with fail
  refine (HD.out _).mono ?_
  rintro e w1 ⟨rfl, rfl⟩
  go_wp2_with fail
  refine (HE.out _).mono ?_
  rintro e w1 ⟨rfl, rfl⟩
  go_wp2_with fail
  all_goals (refine (awake_any _).mono ?_; rintro e w1 ⟨rfl, k1⟩; go_wp2; exact bodyPost_ret (results_tmp rfl _ _ _) rfl ⟨rfl, k1⟩)
set_option maxHeartbeats 4000000 in
set_option maxRecDepth 100000 in
theorem total_eee1 (a b c : Nat) (w : World) (H1 : Tells a b (0)) (H2 : Tells b c (0)) (H3 : Tells a c (0)) (H4 : Tells b a (0)) (H5 : Tells a a 0) (hlt : ¬ FloatKind.f64.format.order a b = some .lt) (hgt : ¬ FloatKind.f64.format.order a b = some .gt) (haa : ¬ FloatKind.f64.format.order a a = some .eq) :
    Calls Try.prog 3 #[.int .u64 a, .int .u64 b, .int .u64 c] w fun e w' => e = .returned (.bool true) ∧ Below w.heap.size w w' := by
  have HA := Lib.hid H1
  have HB := Lib.hid H2
  have HC := Lib.hid H3
  have HD := Lib.hid H4
  have HE := Lib.hid H5
  clear H1 H2 H3 H4 H5
  go_enter Try.func3, Try.ntmps3
  go_wp2_with fail
  refine (of_any a _).mono ?_
  rintro e w1 ⟨rfl, rfl⟩
  go_wp2_with fail
  refine (of_any b _).mono ?_
  rintro e w1 ⟨rfl, rfl⟩
  go_wp2_with fail
  refine (of_any c _).mono ?_
  rintro e w1 ⟨rfl, rfl⟩
  go_wp2_with fail
  refine (HA.out _).mono ?_
  rintro e w1 ⟨rfl, rfl⟩
  go_wp2_with fail
  refine (HB.out _).mono ?_
  rintro e w1 ⟨rfl, rfl⟩
  go_wp2_with fail
  refine (HC.out _).mono ?_
  rintro e w1 ⟨rfl, rfl⟩
  go_wp2_with fail
  refine (HD.out _).mono ?_
  rintro e w1 ⟨rfl, rfl⟩
  go_wp2_with fail
  refine (HE.out _).mono ?_
  rintro e w1 ⟨rfl, rfl⟩
  go_wp2_with fail
  all_goals (refine (awake_any _).mono ?_; rintro e w1 ⟨rfl, k1⟩; go_wp2; exact bodyPost_ret (results_tmp rfl _ _ _) rfl ⟨rfl, k1⟩)
set_option maxHeartbeats 4000000 in
set_option maxRecDepth 100000 in
theorem total_egg (a b c : Nat) (w : World) (H1 : Tells a b (0)) (H2 : Tells b c (1)) (H3 : Tells a c (1)) (H4 : Tells b a (0)) (H5 : Tells a a 0) (haa : FloatKind.f64.format.order a a = some .eq) (hab : FloatKind.f64.format.order a b = some .eq) :
    Calls Try.prog 3 #[.int .u64 a, .int .u64 b, .int .u64 c] w fun e w' => e = .returned (.bool true) ∧ Below w.heap.size w w' := by
  have HA := Lib.hid H1
  have HB := Lib.hid H2
  have HC := Lib.hid H3
  have HD := Lib.hid H4
  have HE := Lib.hid H5
  clear H1 H2 H3 H4 H5
  go_enter Try.func3, Try.ntmps3
  go_wp2_with fail
  refine (of_any a _).mono ?_
  rintro e w1 ⟨rfl, rfl⟩
  go_wp2_with fail
  refine (of_any b _).mono ?_
  rintro e w1 ⟨rfl, rfl⟩
  go_wp2_with fail
  refine (of_any c _).mono ?_
  rintro e w1 ⟨rfl, rfl⟩
  go_wp2_with fail
  refine (HA.out _).mono ?_
  rintro e w1 ⟨rfl, rfl⟩
  go_wp2_with fail
  refine (HB.out _).mono ?_
  rintro e w1 ⟨rfl, rfl⟩
  go_wp2_with fail
  refine (HC.out _).mono ?_
  rintro e w1 ⟨rfl, rfl⟩
  go_wp2_with fail
  refine (HD.out _).mono ?_
  rintro e w1 ⟨rfl, rfl⟩
  go_wp2_with fail
  refine (HE.out _).mono ?_
  rintro e w1 ⟨rfl, rfl⟩
  go_wp2_with fail
  all_goals (refine (awake_any _).mono ?_; rintro e w1 ⟨rfl, k1⟩; go_wp2; exact bodyPost_ret (results_tmp rfl _ _ _) rfl ⟨rfl, k1⟩)
set_option maxHeartbeats 4000000 in
set_option maxRecDepth 100000 in
theorem total_egg1 (a b c : Nat) (w : World) (H1 : Tells a b (0)) (H2 : Tells b c (1)) (H3 : Tells a c (1)) (H4 : Tells b a (0)) (H5 : Tells a a 0) (hlt : ¬ FloatKind.f64.format.order a b = some .lt) (hgt : ¬ FloatKind.f64.format.order a b = some .gt) (haa : ¬ FloatKind.f64.format.order a a = some .eq) :
    Calls Try.prog 3 #[.int .u64 a, .int .u64 b, .int .u64 c] w fun e w' => e = .returned (.bool true) ∧ Below w.heap.size w w' := by
  have HA := Lib.hid H1
  have HB := Lib.hid H2
  have HC := Lib.hid H3
  have HD := Lib.hid H4
  have HE := Lib.hid H5
  clear H1 H2 H3 H4 H5
  go_enter Try.func3, Try.ntmps3
  go_wp2_with fail
  refine (of_any a _).mono ?_
  rintro e w1 ⟨rfl, rfl⟩
  go_wp2_with fail
  refine (of_any b _).mono ?_
  rintro e w1 ⟨rfl, rfl⟩
  go_wp2_with fail
  refine (of_any c _).mono ?_
  rintro e w1 ⟨rfl, rfl⟩
  go_wp2_with fail
  refine (HA.out _).mono ?_
  rintro e w1 ⟨rfl, rfl⟩
  go_wp2_with fail
  refine (HB.out _).mono ?_
  rintro e w1 ⟨rfl, rfl⟩
  go_wp2_with fail
  refine (HC.out _).mono ?_
  rintro e w1 ⟨rfl, rfl⟩
  go_wp2_with fail
  refine (HD.out _).mono ?_
  rintro e w1 ⟨rfl, rfl⟩
  go_wp2_with fail
  refine (HE.out _).mono ?_
  rintro e w1 ⟨rfl, rfl⟩
  go_wp2_with fail
  all_goals (refine (awake_any _).mono ?_; rintro e w1 ⟨rfl, k1⟩; go_wp2; exact bodyPost_ret (results_tmp rfl _ _ _) rfl ⟨rfl, k1⟩)
set_option maxHeartbeats 4000000 in
set_option maxRecDepth 100000 in
theorem total_gll (a b c : Nat) (w : World) (H1 : Tells a b (1)) (H2 : Tells b c (-1)) (H3 : Tells a c (-1)) (H4 : Tells b a (-1)) (H5 : Tells a a 0) (hlt : ¬ FloatKind.f64.format.order a b = some .lt) :
    Calls Try.prog 3 #[.int .u64 a, .int .u64 b, .int .u64 c] w fun e w' => e = .returned (.bool true) ∧ Below w.heap.size w w' := by
  have HA := Lib.hid H1
  have HB := Lib.hid H2
  have HC := Lib.hid H3
  have HD := Lib.hid H4
  have HE := Lib.hid H5
  clear H1 H2 H3 H4 H5
  go_enter Try.func3, Try.ntmps3
  go_wp2_with fail
  refine (of_any a _).mono ?_
  rintro e w1 ⟨rfl, rfl⟩
  go_wp2_with fail
  refine (of_any b _).mono ?_
  rintro e w1 ⟨rfl, rfl⟩
  go_wp2_with fail
  refine (of_any c _).mono ?_
  rintro e w1 ⟨rfl, rfl⟩
  go_wp2_with fail
  refine (HA.out _).mono ?_
  rintro e w1 ⟨rfl, rfl⟩
  go_wp2_with fail
  refine (HB.out _).mono ?_
  rintro e w1 ⟨rfl, rfl⟩
  go_wp2_with fail
  refine (HC.out _).mono ?_
  rintro e w1 ⟨rfl, rfl⟩
  go_wp2_with fail
  refine (HD.out _).mono ?_
  rintro e w1 ⟨rfl, rfl⟩
  go_wp2_with fail
  refine (HE.out _).mono ?_
  rintro e w1 ⟨rfl, rfl⟩
  go_wp2_with fail
  all_goals (refine (awake_any _).mono ?_; rintro e w1 ⟨rfl, k1⟩; go_wp2; exact bodyPost_ret (results_tmp rfl _ _ _) rfl ⟨rfl, k1⟩)
set_option maxHeartbeats 4000000 in
set_option maxRecDepth 100000 in
theorem total_gle (a b c : Nat) (w : World) (H1 : Tells a b (1)) (H2 : Tells b c (-1)) (H3 : Tells a c (0)) (H4 : Tells b a (-1)) (H5 : Tells a a 0) (hlt : ¬ FloatKind.f64.format.order a b = some .lt) :
    Calls Try.prog 3 #[.int .u64 a, .int .u64 b, .int .u64 c] w fun e w' => e = .returned (.bool true) ∧ Below w.heap.size w w' := by
  have HA := Lib.hid H1
  have HB := Lib.hid H2
  have HC := Lib.hid H3
  have HD := Lib.hid H4
  have HE := Lib.hid H5
  clear H1 H2 H3 H4 H5
  go_enter Try.func3, Try.ntmps3
  go_wp2_with fail
  refine (of_any a _).mono ?_
  rintro e w1 ⟨rfl, rfl⟩
  go_wp2_with fail
  refine (of_any b _).mono ?_
  rintro e w1 ⟨rfl, rfl⟩
  go_wp2_with fail
  refine (of_any c _).mono ?_
  rintro e w1 ⟨rfl, rfl⟩
  go_wp2_with fail
  refine (HA.out _).mono ?_
  rintro e w1 ⟨rfl, rfl⟩
  go_wp2_with fail
  refine (HB.out _).mono ?_
  rintro e w1 ⟨rfl, rfl⟩
  go_wp2_with fail
  refine (HC.out _).mono ?_
  rintro e w1 ⟨rfl, rfl⟩
  go_wp2_with fail
  refine (HD.out _).mono ?_
  rintro e w1 ⟨rfl, rfl⟩
  go_wp2_with fail
  refine (HE.out _).mono ?_
  rintro e w1 ⟨rfl, rfl⟩
  go_wp2_with fail
  all_goals (refine (awake_any _).mono ?_; rintro e w1 ⟨rfl, k1⟩; go_wp2; exact bodyPost_ret (results_tmp rfl _ _ _) rfl ⟨rfl, k1⟩)
set_option maxHeartbeats 4000000 in
set_option maxRecDepth 100000 in
theorem total_glg (a b c : Nat) (w : World) (H1 : Tells a b (1)) (H2 : Tells b c (-1)) (H3 : Tells a c (1)) (H4 : Tells b a (-1)) (H5 : Tells a a 0) (hlt : ¬ FloatKind.f64.format.order a b = some .lt) :
    Calls Try.prog 3 #[.int .u64 a, .int .u64 b, .int .u64 c] w fun e w' => e = .returned (.bool true) ∧ Below w.heap.size w w' := by
  have HA := Lib.hid H1
  have HB := Lib.hid H2
  have HC := Lib.hid H3
  have HD := Lib.hid H4
  have HE := Lib.hid H5
  clear H1 H2 H3 H4 H5
  go_enter Try.func3, Try.ntmps3
  go_wp2_with fail
  refine (of_any a _).mono ?_
  rintro e w1 ⟨rfl, rfl⟩
  go_wp2_with fail
  refine (of_any b _).mono ?_
  rintro e w1 ⟨rfl, rfl⟩
  go_wp2_with fail
  refine (of_any c _).mono ?_
  rintro e w1 ⟨rfl, rfl⟩
  go_wp2_with fail
  refine (HA.out _).mono ?_
  rintro e w1 ⟨rfl, rfl⟩
  go_wp2_with fail
  refine (HB.out _).mono ?_
  rintro e w1 ⟨rfl, rfl⟩
  go_wp2_with fail
  refine (HC.out _).mono ?_
  rintro e w1 ⟨rfl, rfl⟩
  go_wp2_with fail
  refine (HD.out _).mono ?_
  rintro e w1 ⟨rfl, rfl⟩
  go_wp2_with fail
  refine (HE.out _).mono ?_
  rintro e w1 ⟨rfl, rfl⟩
  go_wp2_with fail
  all_goals (refine (awake_any _).mono ?_; rintro e w1 ⟨rfl, k1⟩; go_wp2; exact bodyPost_ret (results_tmp rfl _ _ _) rfl ⟨rfl, k1⟩)
set_option maxHeartbeats 4000000 in
set_option maxRecDepth 100000 in
theorem total_geg (a b c : Nat) (w : World) (H1 : Tells a b (1)) (H2 : Tells b c (0)) (H3 : Tells a c (1)) (H4 : Tells b a (-1)) (H5 : Tells a a 0) (hlt : ¬ FloatKind.f64.format.order a b = some .lt) :
    Calls Try.prog 3 #[.int .u64 a, .int .u64 b, .int .u64 c] w fun e w' => e = .returned (.bool true) ∧ Below w.heap.size w w' := by
  have HA := Lib.hid H1
  have HB := Lib.hid H2
  have HC := Lib.hid H3
  have HD := Lib.hid H4
  have HE := Lib.hid H5
  clear H1 H2 H3 H4 H5
  go_enter Try.func3, Try.ntmps3
  go_wp2_with fail
  refine (of_any a _).mono ?_
  rintro e w1 ⟨rfl, rfl⟩
  go_wp2_with fail
  refine (of_any b _).mono ?_
  rintro e w1 ⟨rfl, rfl⟩
  go_wp2_with fail
  refine (of_any c _).mono ?_
  rintro e w1 ⟨rfl, rfl⟩
  go_wp2_with fail
  refine (HA.out _).mono ?_
  rintro e w1 ⟨rfl, rfl⟩
  go_wp2_with fail
  refine (HB.out _).mono ?_
  rintro e w1 ⟨rfl, rfl⟩
  go_wp2_with fail
  refine (HC.out _).mono ?_
  rintro e w1 ⟨rfl, rfl⟩
  go_wp2_with fail
  refine (HD.out _).mono ?_
  rintro e w1 ⟨rfl, rfl⟩
  go_wp2_with fail
  refine (HE.out _).mono ?_
  rintro e w1 ⟨rfl, rfl⟩
  go_wp2_with fail
  all_goals (refine (awake_any _).mono ?_; rintro e w1 ⟨rfl, k1⟩; go_wp2; exact bodyPost_ret (results_tmp rfl _ _ _) rfl ⟨rfl, k1⟩)
set_option maxHeartbeats 4000000 in
set_option maxRecDepth 100000 in
theorem total_ggg (a b c : Nat) (w : World) (H1 : Tells a b (1)) (H2 : Tells b c (1)) (H3 : Tells a c (1)) (H4 : Tells b a (-1)) (H5 : Tells a a 0) (hlt : ¬ FloatKind.f64.format.order a b = some .lt) :
    Calls Try.prog 3 #[.int .u64 a, .int .u64 b, .int .u64 c] w fun e w' => e = .returned (.bool true) ∧ Below w.heap.size w w' := by
  have HA := Lib.hid H1
  have HB := Lib.hid H2
  have HC := Lib.hid H3
  have HD := Lib.hid H4
  have HE := Lib.hid H5
  clear H1 H2 H3 H4 H5
  go_enter Try.func3, Try.ntmps3
  go_wp2_with fail
  refine (of_any a _).mono ?_
  rintro e w1 ⟨rfl, rfl⟩
  go_wp2_with fail
  refine (of_any b _).mono ?_
  rintro e w1 ⟨rfl, rfl⟩
  go_wp2_with fail
  refine (of_any c _).mono ?_
  rintro e w1 ⟨rfl, rfl⟩
  go_wp2_with fail
  refine (HA.out _).mono ?_
  rintro e w1 ⟨rfl, rfl⟩
  go_wp2_with fail
  refine (HB.out _).mono ?_
  rintro e w1 ⟨rfl, rfl⟩
  go_wp2_with fail
  refine (HC.out _).mono ?_
  rintro e w1 ⟨rfl, rfl⟩
  go_wp2_with fail
  refine (HD.out _).mono ?_
  rintro e w1 ⟨rfl, rfl⟩
  go_wp2_with fail
  refine (HE.out _).mono ?_
  rintro e w1 ⟨rfl, rfl⟩
  go_wp2_with fail
  all_goals (refine (awake_any _).mono ?_; rintro e w1 ⟨rfl, k1⟩; go_wp2; exact bodyPost_ret (results_tmp rfl _ _ _) rfl ⟨rfl, k1⟩)
end Go.Proofs.Ytagjgofnaplefaa.Wei
