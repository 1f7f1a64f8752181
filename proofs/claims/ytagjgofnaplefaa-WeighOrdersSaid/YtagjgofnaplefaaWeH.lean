/- The order's own comparison of two places. Conditions: those that are named. -/
import Derived.Test.YtagjgofnaplefaaWeG
import Derived.Test.YtagjgofnaplefaaCls
namespace Go.Proofs.Ytagjgofnaplefaa.Wei
open Go.RowKit
open Flo
set_option maxHeartbeats 4000000 in
set_option maxRecDepth 100000 in
theorem place_any (i j n cap c a b : Nat) (g : Nat) (w : World) (hc : w.cell? ⟨c, 0, none⟩ = some (.slice (some ⟨g, 0, none⟩) n cap)) (hi : i < n) (hj : j < n) (ha : w.cell? ⟨g, i, none⟩ = some (.float .f64 a)) (hb : w.cell? ⟨g, j, none⟩ = some (.float .f64 b)) (la : a < 18446744073709551616) (lb : b < 18446744073709551616) :
    Calls Try.prog 31 #[.int .i64 i, .int .i64 j, .pointer (some ⟨c, 0, none⟩)] w fun e w' => e = .returned (.int .i64 (cmp3 (key a) (key b))) ∧ Below w.heap.size w w' := by
  have hi' : (i : Int) < (n : Int) := by omega
  have hj' : (j : Int) < (n : Int) := by omega
  go_enter Try.func31, Try.ntmps31
  go_wp2_with fail
  have q0 := Cls.Wd.cell (w0 := w.drew) hc
  have q1 := Cls.Wd.cell (w0 := w.drew) ha
  have q2 := Cls.Wd.cell (w0 := w.drew) hb
  refine Cls.region_tail (S := Cls.Kept _) 9 (by kernel_rfl) (by kernel_rfl) (Below.refl _ _) ?_
  simp only [List.take_succ_cons, List.take_zero, List.drop_succ_cons, List.drop_zero]
  iterate 8 (go_big_quiet_step (fail))
  go_big_quiet_step ((go_at_call 8; with_reducible refine Cls.calls_same (compare_any a b _ la lb)))
  refine wpQuiet_nil ?_
  intro w1 hw1
  have k1 := ((Below.refl w.heap.size w).drew).trans (hw1.mono (Nat.le_refl _))
  go_wp2
  exact bodyPost_ret (results_tmp rfl _ _ _) rfl ⟨rfl, k1⟩
end Go.Proofs.Ytagjgofnaplefaa.Wei
