/- What the reference's Vouched answers is what the program's answers, on lists of at most twelve numbers. Condition: at most twelve numbers. -/
import Derived.Test.YtkkbpjkplnepiaaPStampVouchesx2
import Derived.Test.YtkkbpjkplnepiaaVouchB
namespace Go.Proofs.Ytkkbpjkplnepiaa.Vou
open Go.RowKit Go.Proofs.YtkkbpjkplnepiaaW.PrintWords Go.Proofs.YtkkbpjkplnepiaaW.PrintLast Go.Proofs.YtkkbpjkplnepiaaW.PrintMore
open PStampVouches

theorem w64 {n : Int} (h0 : -9223372036854775808 ≤ n) (h : n ≤ 9223372036854775807) : wrap64 n = n := by unfold wrap64; omega
theorem rd_at (l : List Int) (i : Nat) : rd l (i : Int) = l.getD i 0 := by unfold rd; simp
theorem reach_loop (l : List Int) (v : Int) (hl : l.length ≤ 12) : ∀ (d k i : Nat), i + d = l.length → d < k →
    sacristyref20_reach.l0 k l v (cnt (fun n => decide (v ≤ n)) (l.take i)) (cnt (fun n => decide (n ≤ v)) (l.take i)) i = some (cnt (fun n => decide (v ≤ n)) l, cnt (fun n => decide (n ≤ v)) l) := by
  intro d
  induction d with
  | zero =>
    intro k i hi hk
    obtain ⟨k, rfl⟩ : ∃ m, k = m + 1 := ⟨k - 1, by omega⟩
    simp only [sacristyref20_reach.l0]
    rw [if_neg (by omega), List.take_of_length_le (by omega)]
  | succ d ih =>
    intro k i hi hk
    obtain ⟨k, rfl⟩ : ∃ m, k = m + 1 := ⟨k - 1, by omega⟩
    have b1 := cnt_bd (fun n => decide (v ≤ n)) (l.take i)
    have b2 := cnt_bd (fun n => decide (n ≤ v)) (l.take i)
    have hti : (l.take i).length ≤ 12 := by rw [List.length_take]; omega
    have h := ih k (i + 1) (by omega) (by omega)
    rw [cnt_snoc _ _ _ (by omega), cnt_snoc _ _ _ (by omega)] at h
    simp only [sacristyref20_reach.l0]
    rw [if_pos (by omega), if_pos (by omega), w64 (n := (i : Int) + 1) (by omega) (by omega), w64 (n := cnt (fun n => decide (v ≤ n)) (l.take i) + 1) (by omega) (by omega), w64 (n := cnt (fun n => decide (n ≤ v)) (l.take i) + 1) (by omega) (by omega), rd_at]
    generalize l.getD i 0 = x at *
    rw [show ((i + 1 : Nat) : Int) = (i : Int) + 1 by omega] at h
    by_cases h0 : x < 0
    · rw [if_pos h0]
      simp only [show ¬ 0 ≤ x by omega, if_false] at h
      simpa using h
    · rw [if_neg h0]
      simp only [show 0 ≤ x by omega, if_true] at h
      by_cases h1 : v ≤ x <;> by_cases h2 : x ≤ v <;> simp [h1, h2] at h ⊢ <;> exact h
theorem reach_is (l : List Int) (v : Int) (hl : l.length ≤ 12) (k : Nat) (hk : 13 ≤ k) : sacristyref20_reach.f k l v = some (cnt (fun n => decide (v ≤ n)) l, cnt (fun n => decide (n ≤ v)) l) := by
  have h := reach_loop l v hl l.length k 0 (by omega) (by omega)
  simpa [cnt, sacristyref20_reach.f] using h
theorem best_lo (t : Int) (l : List Int) (k : Nat) : -1 ≤ bestOf t l k := by
  induction k with
  | zero => simp [bestOf]
  | succ k ih => rw [bestOf]; split <;> omega
theorem vouched_loop (t : Int) (l : List Int) (hl : l.length ≤ 12) (h1 : 1 ≤ t) (h2 : t ≤ 2) : ∀ (d k i : Nat), i + d = l.length → 13 + d < k →
    sacristyref20_Vouched.l0 k t l (bestOf t l i) i = some (if bestOf t l l.length < 0 ∨ cnt (fun n => decide (n ≤ bestOf t l l.length)) l ≤ 2 * t then (0, false) else (bestOf t l l.length, true)) := by
  intro d
  induction d with
  | zero =>
    intro k i hi hk
    obtain ⟨k, rfl⟩ : ∃ m, k = m + 1 := ⟨k - 1, by omega⟩
    obtain rfl : i = l.length := by omega
    simp only [sacristyref20_Vouched.l0]
    rw [if_neg (by omega), reach_is l _ hl k (by omega)]
    simp only [Option.bind_some]
    rw [w64 (n := 2 * t) (by omega) (by omega), w64 (by omega) (by omega)]
    by_cases h3 : bestOf t l l.length < 0
    · rw [if_neg (by omega), if_pos (Or.inl h3)]
    · rw [if_pos (by omega)]
      by_cases h4 : cnt (fun n => decide (n ≤ bestOf t l l.length)) l ≤ 2 * t
      · rw [if_neg (by omega), if_pos (Or.inr h4)]
      · rw [if_pos (by omega), if_neg (by omega)]
  | succ d ih =>
    intro k i hi hk
    obtain ⟨k, rfl⟩ : ∃ m, k = m + 1 := ⟨k - 1, by omega⟩
    have h := ih k (i + 1) (by omega) (by omega)
    have hb := best_lo t l i
    simp only [sacristyref20_Vouched.l0]
    rw [if_pos (by omega), if_pos (by omega), rd_at, reach_is l _ hl k (by omega)]
    simp only [Option.bind_some]
    rw [w64 (n := t + 1) (by omega) (by omega), w64 (n := (i : Int) + 1) (by omega) (by omega)]
    rw [show ((i + 1 : Nat) : Int) = (i : Int) + 1 by omega] at h
    rw [bestOf] at h
    generalize l.getD i 0 = x at *
    generalize bestOf t l i = b at *
    by_cases h3 : 0 ≤ x
    · rw [if_pos h3]
      by_cases h4 : t < cnt (fun n => decide (x ≤ n)) l
      · rw [if_pos (by omega)]
        unfold mx
        by_cases h5 : b < x
        · rw [if_pos ⟨h5, h4⟩] at h
          simpa [h5] using h
        · rw [if_neg (fun hh => h5 hh.1)] at h
          simpa [h5] using h
      · rw [if_neg (by omega)]
        rw [if_neg (fun hh => h4 hh.2)] at h
        exact h
    · rw [if_neg (by omega)]
      rw [if_neg (fun hh => by omega)] at h
      exact h
theorem vouched_is (t : Int) (l : List Int) (hl : l.length ≤ 12) : sacristyref20_Vouched.f 30 t l = some (vouched t l) := by
  unfold sacristyref20_Vouched.f vouched
  by_cases h1 : t < 1
  · rw [if_pos h1, if_pos (Or.inl h1)]
    simp [sacristyref20_Vouched.j0]
  · rw [if_neg h1]
    by_cases h2 : t > 2
    · rw [if_pos h2, if_pos (Or.inr (Or.inl h2))]
      simp [sacristyref20_Vouched.j0]
    · rw [if_neg h2, w64 (n := 3 * t) (by omega) (by omega), w64 (by omega) (by omega)]
      by_cases h3 : (l.length : Int) = 3 * t + 1
      · rw [if_neg (by omega)]
        have h := vouched_loop t l hl (by omega) (by omega) l.length 29 0 (by omega) (by omega)
        simpa [sacristyref20_Vouched.j0, h3, bestOf] using h
      · rw [if_pos (Or.inr (Or.inr h3))]
        have : ((l.length : Int) != 3 * t + 1) = true := by simpa using h3
        rw [this]
        simp [sacristyref20_Vouched.j0]
end Go.Proofs.Ytkkbpjkplnepiaa.Vou
