/- The statement StampCompares' function returns true on any two stamps and any number, and changes nothing that was there. No conditions but that the numbers are of their kind. -/
import Derived.Test.YtkkbpjkplnepiaaAwake
namespace Go.Proofs.Ytkkbpjkplnepiaa.Vou
open Go.RowKit Go.Proofs.YtkkbpjkplnepiaaW.PrintWords Go.Proofs.YtkkbpjkplnepiaaW.PrintLast Go.Proofs.YtkkbpjkplnepiaaW.PrintMore

/-- Which of two stamps is later. -/
def cmpS (a b c d : Int) : Int := if a < c then -1 else if c < a then 1 else if b < d then -1 else if d < b then 1 else 0
theorem compare_is (a b c d : Int) : PStampCompares.stamp_Compare.f 9 a b c d = some (cmpS a b c d) := by
  have e : ∀ x y : Int, PStampCompares.cmp_Compare_int.f x y = some (if x < y then -1 else if y < x then 1 else 0) := by
    intro x y
    simp only [PStampCompares.cmp_Compare_int.f, PStampCompares.cmp_isNaN_int.f, Option.bind_some, bne_self_eq_false, Bool.false_eq_true, if_false, gt_iff_lt]
    split
    · rfl
    · split <;> rfl
  unfold PStampCompares.stamp_Compare.f cmpS
  rw [e, e]
  by_cases h1 : a < c
  · by_cases h3 : b < d <;> by_cases h4 : d < b <;> simp [h1, h3, h4, PStampCompares.cmp_Or_int.f, PStampCompares.cmp_Or_int.l0, rd]
  · by_cases h2 : c < a
    · by_cases h3 : b < d <;> by_cases h4 : d < b <;> simp [h1, h2, h3, h4, PStampCompares.cmp_Or_int.f, PStampCompares.cmp_Or_int.l0, rd]
    · by_cases h3 : b < d
      · simp [h1, h2, h3, PStampCompares.cmp_Or_int.f, PStampCompares.cmp_Or_int.l0, rd, wrap64]
      · by_cases h4 : d < b
        · simp [h1, h2, h3, h4, PStampCompares.cmp_Or_int.f, PStampCompares.cmp_Or_int.l0, rd, wrap64]
        · simp [h1, h2, h3, h4, PStampCompares.cmp_Or_int.f, PStampCompares.cmp_Or_int.l0, rd, wrap64]
theorem refCompare_is (a b c d : Int) : PStampCompares.sacristyref20_Compare.f a b c d = some (cmpS a b c d) := by
  unfold PStampCompares.sacristyref20_Compare.f cmpS
  simp only [gt_iff_lt]
  repeat' split
  all_goals first | rfl | omega
/-- Whether a stamp may be. -/
def mayS (a b : Int) : Bool := decide (1 ≤ a ∧ a ≤ 1099511627776 ∧ 1 ≤ b ∧ b ≤ 4)
theorem may_is (a b : Int) : PStampCompares.stamp_May.f a b = some (mayS a b) := by
  unfold PStampCompares.stamp_May.f PStampCompares.stamp_client.f mayS
  by_cases h1 : 1 ≤ a <;> by_cases h2 : a ≤ 1099511627776 <;> by_cases h3 : 1 ≤ b <;> by_cases h4 : b ≤ 4 <;> simp [h1, h2, h3, h4]
theorem refMay_is (a b : Int) : PStampCompares.sacristyref20_May.f a b = some (mayS a b) := by
  unfold PStampCompares.sacristyref20_May.f mayS
  by_cases h1 : 1 ≤ a <;> by_cases h2 : a ≤ 1099511627776 <;> by_cases h3 : 1 ≤ b <;> by_cases h4 : b ≤ 4 <;> simp [h1, h2, h3, h4]
/-- The stamp behind a number. -/
def nextS (n c : Int) : Int × Int × Int := if n < 0 ∨ c < 1 ∨ 4 < c then (0, 0, 1) else if 1099511627776 ≤ n then (0, 0, 2) else (n + 1, c, 0)
theorem next_is (n c : Int) (h : n ≤ 9223372036854775807) : PStampCompares.stamp_Next.f 9 n c = some (nextS n c) := by
  unfold PStampCompares.stamp_Next.f PStampCompares.stamp_client.f nextS
  by_cases h1 : n < 0
  · simp [h1, PStampCompares.stamp_Next.j0]
  · have w1 : n < 1099511627776 → wrap64 (n + 1) = n + 1 := fun h => by unfold wrap64; omega
    by_cases h2 : c < 1
    · simp [h1, h2, show ¬ 1 ≤ c by omega, PStampCompares.stamp_Next.j0]
    · by_cases h3 : 4 < c
      · simp [h1, h2, h3, show 1 ≤ c by omega, show ¬ c ≤ 4 by omega, PStampCompares.stamp_Next.j0]
      · by_cases h4 : 1099511627776 ≤ n
        · simp [h1, h2, h3, h4, show 1 ≤ c by omega, show c ≤ 4 by omega, PStampCompares.stamp_Next.j0]
        · simp [h1, h2, h3, h4, show 1 ≤ c by omega, show c ≤ 4 by omega, PStampCompares.stamp_Next.j0, w1 (by omega)]
theorem refNext_is (n c : Int) (h : n ≤ 9223372036854775807) : PStampCompares.sacristyref20_Next.f 9 n c = some (nextS n c) := by
  unfold PStampCompares.sacristyref20_Next.f nextS
  by_cases h1 : n < 0
  · simp [h1, PStampCompares.sacristyref20_Next.j0]
  · by_cases h2 : c < 1 <;> by_cases h3 : 4 < c <;> by_cases h4 : 1099511627776 ≤ n <;> simp [h1, h2, h3, h4, PStampCompares.sacristyref20_Next.j0, wrap64] <;> omega
theorem next_may (n c : Int) (h : (nextS n c).2.2 = 0) : mayS (nextS n c).1 (nextS n c).2.1 = true := by
  unfold nextS at h ⊢
  split at h
  · simp at h
  · split at h
    · simp at h
    · rename_i h1 h2
      rw [if_neg h1, if_neg h2]
      simp only [mayS, decide_eq_true_eq]
      omega
end Go.Proofs.Ytkkbpjkplnepiaa.Vou
