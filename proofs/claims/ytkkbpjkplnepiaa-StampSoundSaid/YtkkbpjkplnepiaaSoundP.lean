/- Whatever liars tell, what is vouched for is no more than some other server told, and no less than what enough others had reached: on counts alone. Conditions: what servers hold is not below 0. -/
import Derived.Test.YtkkbpjkplnepiaaVouchB
namespace Go.Proofs.Ytkkbpjkplnepiaa.Vou
open Go.RowKit

/-- How many below n meet p. -/
def num (p : Nat → Bool) : Nat → Nat
  | 0 => 0
  | k + 1 => num p k + (if p k = true then 1 else 0)
theorem num_le (p : Nat → Bool) (n : Nat) : num p n ≤ n := by
  induction n with
  | zero => simp [num]
  | succ n ih => rw [num]; split <;> omega
theorem num_both (p q : Nat → Bool) (n : Nat) : num p n + num q n ≤ n + num (fun k => p k && q k) n := by
  induction n with
  | zero => simp [num]
  | succ n ih =>
    simp only [num]
    by_cases h1 : p n = true <;> by_cases h2 : q n = true <;> simp [h1, h2] <;> omega
theorem num_split (p q : Nat → Bool) (n : Nat) : num p n ≤ num q n + num (fun k => p k && !q k) n := by
  induction n with
  | zero => simp [num]
  | succ n ih =>
    simp only [num]
    by_cases h1 : p n = true <;> by_cases h2 : q n = true <;> simp [h1, h2] <;> omega
theorem num_some (p : Nat → Bool) (n : Nat) (h : 0 < num p n) : ∃ k, k < n ∧ p k = true := by
  induction n with
  | zero => simp [num] at h
  | succ n ih =>
    rw [num] at h
    by_cases hp : p n = true
    · exact ⟨n, by omega, hp⟩
    · rw [if_neg hp] at h
      obtain ⟨k, hk, hpk⟩ := ih (by omega)
      exact ⟨k, by omega, hpk⟩
theorem cnt_num (P : Int → Bool) (g : Nat → Int) (n : Nat) : cnt P ((List.range n).map g) = num (fun k => decide (0 ≤ g k) && P (g k)) n := by
  induction n with
  | zero => simp [cnt, num]
  | succ n ih =>
    rw [List.range_succ, List.map_append, cnt_append, ih]
    simp only [num, cnt, List.map_cons, List.map_nil]
    by_cases h0 : 0 ≤ g n <;> by_cases h1 : P (g n) = true <;> simp [h0, h1]

section
variable (hv s : Nat → Int) (q z : Nat → Bool) (f : Nat)
/-- How many of the first ones lie. -/
def lc : Nat → Nat
  | 0 => 0
  | k + 1 => if z k = true ∧ lc k < f then lc k + 1 else lc k
def liar (k : Nat) : Bool := z k && decide (lc z f k < f)
theorem lc_le (k : Nat) : lc z f k ≤ f ∧ lc z f k ≤ k := by
  induction k with
  | zero => simp [lc]
  | succ k ih => rw [lc]; split <;> omega
theorem lc_num (k : Nat) : lc z f k = num (liar z f) k := by
  induction k with
  | zero => rfl
  | succ k ih =>
    rw [lc, num, ← ih]
    unfold liar
    by_cases h1 : z k = true <;> by_cases h2 : lc z f k < f <;> simp [h1, h2]
theorem lc_min (k : Nat) : lc z f k = min (num z k) f := by
  induction k with
  | zero => simp [lc, num]
  | succ k ih =>
    rw [lc, num]
    by_cases h1 : z k = true <;> by_cases h2 : lc z f k < f <;> simp [h1, h2] <;> omega
theorem liar_is (k : Nat) : liar z f k = (z k && decide (num z k < f)) := by
  unfold liar
  rw [lc_min]
  congr 1
  apply decide_eq_decide.2
  omega
/-- What a server tells. -/
def tells (k : Nat) : Int := if liar z f k = true then s k else if q k = true then -1 else hv k
/-- The most that others told. -/
def most : Nat → Int
  | 0 => -1
  | k + 1 => if liar z f k = true then most k else if 0 ≤ tells hv s q z f k then max (most k) (hv k) else most k
theorem most_ge (n k : Nat) (hk : k < n) (h1 : liar z f k = false) (h2 : 0 ≤ tells hv s q z f k) : hv k ≤ most hv s q z f n := by
  induction n with
  | zero => omega
  | succ n ih =>
    rw [most]
    by_cases hkn : k = n
    · subst hkn
      rw [if_neg (by simp [h1]), if_pos h2]
      omega
    · have := ih (by omega)
      split
      · exact this
      · split <;> omega
theorem tells_own (k : Nat) (h1 : liar z f k = false) (h2 : 0 ≤ tells hv s q z f k) : tells hv s q z f k = hv k := by
  unfold tells at h2 ⊢
  rw [if_neg (by simp [h1])] at h2 ⊢
  split at h2
  · omega
  · rename_i h
    rw [if_neg h]
/-- How many others hold as much. -/
def reached (w : Int) (n : Nat) : Nat := num (fun k => !liar z f k && decide (w ≤ hv k)) n
theorem best_ok (t : Int) (l : List Int) (k : Nat) (h : bestOf t l k ≠ -1) : t < cnt (fun n => decide (bestOf t l k ≤ n)) l := by
  induction k with
  | zero => simp [bestOf] at h
  | succ k ih =>
    rw [bestOf] at h ⊢
    split
    · rename_i hh
      exact hh.2
    · rename_i hh
      rw [if_neg hh] at h
      exact ih h
theorem vouched_true (t : Int) (l : List Int) (v : Int) (h : vouched t l = (v, true)) : 0 ≤ v ∧ t < cnt (fun n => decide (v ≤ n)) l ∧ 2 * t < cnt (fun n => decide (n ≤ v)) l := by
  unfold vouched at h
  split at h
  · simp at h
  · split at h
    · simp at h
    · rename_i h1 h2
      simp only [Prod.mk.injEq] at h
      obtain ⟨rfl, _⟩ := h
      exact ⟨by omega, best_ok t l _ (by omega), by omega⟩
theorem vouched_false (t : Int) (l : List Int) (v : Int) (h : vouched t l = (v, false)) : v = 0 := by
  unfold vouched at h
  split at h
  · simp at h; omega
  · split at h
    · simp at h; omega
    · simp at h
theorem sound_up (v : Int) (h : vouched f ((List.range (3 * f + 1)).map (tells hv s q z f)) = (v, true)) : 0 ≤ v ∧ v ≤ most hv s q z f (3 * f + 1) := by
  obtain ⟨h0, h1, _⟩ := vouched_true _ _ _ h
  refine ⟨h0, ?_⟩
  rw [cnt_num] at h1
  have h2 := num_split (fun k => decide (0 ≤ tells hv s q z f k) && decide (v ≤ tells hv s q z f k)) (liar z f) (3 * f + 1)
  have h3 := lc_le z f (3 * f + 1)
  rw [lc_num] at h3
  obtain ⟨k, hk, hp⟩ := num_some _ _ (show 0 < num (fun k => (decide (0 ≤ tells hv s q z f k) && decide (v ≤ tells hv s q z f k)) && !liar z f k) (3 * f + 1) by omega)
  simp only [Bool.and_eq_true, decide_eq_true_eq, Bool.not_eq_true'] at hp
  have h4 := most_ge hv s q z f (3 * f + 1) k hk hp.2 hp.1.1
  have h5 := tells_own hv s q z f k hp.2 hp.1.1
  omega
theorem sound_down (v w : Int) (h : vouched f ((List.range (3 * f + 1)).map (tells hv s q z f)) = (v, true)) (hr : f + 1 ≤ reached hv z f w (3 * f + 1)) : w ≤ v := by
  obtain ⟨h0, _, h1⟩ := vouched_true _ _ _ h
  rw [cnt_num] at h1
  unfold reached at hr
  have h2 := num_both (fun k => decide (0 ≤ tells hv s q z f k) && decide (tells hv s q z f k ≤ v)) (fun k => !liar z f k && decide (w ≤ hv k)) (3 * f + 1)
  obtain ⟨k, hk, hp⟩ := num_some _ _ (show 0 < num (fun k => (decide (0 ≤ tells hv s q z f k) && decide (tells hv s q z f k ≤ v)) && (!liar z f k && decide (w ≤ hv k))) (3 * f + 1) by omega)
  simp only [Bool.and_eq_true, decide_eq_true_eq, Bool.not_eq_true'] at hp
  have h5 := tells_own hv s q z f k hp.2.1 hp.1.1
  omega
end
end Go.Proofs.Ytkkbpjkplnepiaa.Vou
