/- The check awake() of the stamps' statements returns true and changes nothing that was there. No conditions. -/
import Derived.Test.YtkkbpjkplnepiaaVouchB
import Derived.Test.YtkkbpjkplnepiaaPStampComparesx1
namespace Go.Proofs.Ytkkbpjkplnepiaa.Vou
open Go.RowKit Go.Proofs.YtkkbpjkplnepiaaW.PrintWords Go.Proofs.YtkkbpjkplnepiaaW.PrintLast Go.Proofs.YtkkbpjkplnepiaaW.PrintMore

theorem four (w : World) (a b c d : Int) : ∀ j, j < [a, b, c, d].length → (w.alloc (.cells #[.int .i64 a, .int .i64 b, .int .i64 c, .int .i64 d] 3)).cell? ((⟨w.heap.size, 0, none⟩ : Addr).add j) = some (.int .i64 ([a, b, c, d].getD j 0)) := by
  intro j hj
  rw [add_plain, World.cell?_alloc_at _ _ _ _ rfl]
  match j, hj with
  | 0, _ => rfl
  | 1, _ => rfl
  | 2, _ => rfl
  | 3, _ => rfl
theorem voted (w : World) (a b c d : Int) (v : Int) (ok : Bool) (h : vouched 1 [a, b, c, d] = (v, ok)) :
    Calls Try.prog 14 #[.int .i64 1, .slice (some ⟨w.heap.size, 0, none⟩) 4 4] (w.alloc (.cells #[.int .i64 a, .int .i64 b, .int .i64 c, .int .i64 d] 3)) fun e w' => e = .returned (.tuple #[.int .i64 v, .bool ok]) ∧ Below w.heap.size w w' := by
  refine (vouched_yes 1 [a, b, c, d] ⟨w.heap.size, 0, none⟩ 4 _ rfl (by omega) (by omega) (by simp) (four w a b c d)).mono ?_
  rintro e w' ⟨rfl, hb⟩
  exact ⟨by rw [h], ((Below.refl _ _).alloc (Nat.le_refl _) _).trans (hb.mono (by simp))⟩

set_option maxHeartbeats 1000000 in
theorem awake_any (w : World) : Calls Try.prog 13 #[] w fun e w' => e = .returned (.bool true) ∧ Below w.heap.size w w' := by
  go_enter Try.func13, Try.ntmps13
  go_wp2_with fail
  refine (voted w 9 5 4 4 5 true (by decide)).mono ?_
  rintro e w1 ⟨rfl, hb1⟩
  go_wp2_with fail
  refine (voted w1 5 5 4 (-1) 5 true (by decide)).mono ?_
  rintro e w2 ⟨rfl, hb2⟩
  go_wp2_with fail
  refine (voted w2 5 6 (-1) (-1) 0 false (by decide)).mono ?_
  rintro e w3 ⟨rfl, hb3⟩
  go_wp2_with fail
  refine (PStampCompares.stamp_Next.calls 5 4 2 5 2 0 _ (by decide +kernel)).mono ?_
  rintro e w4 ⟨rfl, hb4⟩
  go_wp2_with fail
  refine (PStampCompares.stamp_Compare.calls 9 5 2 5 1 1 _ (by decide +kernel)).mono ?_
  rintro e w5 ⟨rfl, hb5⟩
  have c0 : w5.cell? ⟨w4.heap.size, 0, none⟩ = some (.int .i64 5) := (hb5.cell (by simp)).trans (by rw [World.cell?_alloc_at _ _ _ _ rfl]; rfl)
  have c1 : w5.cell? ⟨w4.heap.size, 1, none⟩ = some (.int .i64 2) := (hb5.cell (by simp)).trans (by rw [World.cell?_alloc_at _ _ _ _ rfl]; rfl)
  go_wp2_with fail
  refine (PStampCompares.stamp_May.calls 5 2 true _ (by decide +kernel)).mono ?_
  rintro e w6 ⟨rfl, hb6⟩
  go_wp2
  go_ret
  have k4 := hb1.trans ((hb2.mono hb1.size).trans ((hb3.mono (by have := hb1.size; have := hb2.size; omega)).trans (hb4.mono (by have := hb1.size; have := hb2.size; have := hb3.size; omega))))
  exact ⟨rfl, (k4.alloc k4.size _).trans ((hb5.mono (by have := k4.size; simp; omega)).trans (hb6.mono (by have := k4.size; have := hb5.size; simp at this; omega)))⟩
end Go.Proofs.Ytkkbpjkplnepiaa.Vou
