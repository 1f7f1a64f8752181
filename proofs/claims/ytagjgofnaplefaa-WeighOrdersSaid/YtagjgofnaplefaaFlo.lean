/- How two floats of 64 bits stand to each other, by their bits: by their sign and their rung. No conditions but those that are named. -/
import Derived.Laws.Cover2
import Derived.WalkKit
namespace Go.Proofs.Ytagjgofnaplefaa.Flo
open Go
/-- The rung of a word. -/
def rung (a : Nat) : Nat := a % 9223372036854775808
/-- Is a word's sign minus? -/
def ng (a : Nat) : Bool := a / 9223372036854775808 % 2 == 1
/-- The rung of infinity. -/
def top : Nat := 9218868437227405312
/-- A number with a sign. -/
def sg (s : Bool) (x : Nat) : Int := if s then -(x : Int) else (x : Int)
/-- What a rung stands for, in units of the least float. -/
def mag (r : Nat) : Nat := if r < 4503599627370496 then r else (4503599627370496 + r % 4503599627370496) * 2 ^ (r / 4503599627370496 - 1)
theorem mag_succ (r : Nat) : mag r < mag (r + 1) := by
  unfold mag
  by_cases h1 : r + 1 < 4503599627370496
  · rw [if_pos (by omega), if_pos h1]; omega
  · by_cases h2 : r < 4503599627370496
    · obtain rfl : r = 4503599627370495 := by omega
      decide
    · rw [if_neg h2, if_neg h1]
      by_cases h3 : r % 4503599627370496 = 4503599627370495
      · have e1 : (r + 1) % 4503599627370496 = 0 := by omega
        have e2 : (r + 1) / 4503599627370496 - 1 = (r / 4503599627370496 - 1) + 1 := by omega
        rw [e1, e2, h3, Nat.pow_succ]
        have : 0 < 2 ^ (r / 4503599627370496 - 1) := Nat.pow_pos (by decide)
        generalize 2 ^ (r / 4503599627370496 - 1) = p at this ⊢
        omega
      · have e1 : (r + 1) % 4503599627370496 = r % 4503599627370496 + 1 := by omega
        have e2 : (r + 1) / 4503599627370496 = r / 4503599627370496 := by omega
        rw [e1, e2]
        exact Nat.mul_lt_mul_of_pos_right (by omega) (Nat.pow_pos (by decide))
theorem mag_lt (r d : Nat) : mag r < mag (r + d + 1) := by
  induction d with
  | zero => exact mag_succ r
  | succ d ih => exact Nat.lt_trans ih (mag_succ _)
theorem mag_mono {r q : Nat} (h : r < q) : mag r < mag q := by
  obtain ⟨d, rfl⟩ : ∃ d, q = r + d + 1 := ⟨q - r - 1, by omega⟩
  exact mag_lt r d
theorem mag_zero : mag 0 = 0 := by decide
theorem compare_of (x y u v : Int) (h1 : x < y → u < v) (h2 : x = y → u = v) (h3 : y < x → v < u) : compare u v = compare x y := by
  rcases Int.lt_trichotomy x y with h | h | h
  · have hv := h1 h
    simp only [compare, compareOfLessAndEq]
    rw [if_pos h, if_pos hv]
  · rw [h, h2 h]
    simp [compare, compareOfLessAndEq]
  · have hv := h3 h
    simp only [compare, compareOfLessAndEq]
    rw [if_neg (by omega), if_neg (by omega), if_neg (by omega), if_neg (by omega)]
theorem sg_mag (s t : Bool) (r q : Nat) : compare (sg s (mag r)) (sg t (mag q)) = compare (sg s r) (sg t q) := by
  have m := @mag_mono r q
  have m' := @mag_mono q r
  have z := mag_zero
  have z1 : 0 < r → 0 < mag r := fun h => by have := @mag_mono 0 r h; omega
  have z2 : 0 < q → 0 < mag q := fun h => by have := @mag_mono 0 q h; omega
  have e : r = q → mag r = mag q := fun h => by rw [h]
  have e1 : r = 0 → mag r = 0 := fun h => by rw [h]; exact z
  have e2 : q = 0 → mag q = 0 := fun h => by rw [h]; exact z
  apply compare_of
  · intro h
    cases s <;> cases t <;> simp only [sg, if_true, Bool.false_eq_true, if_false] at h ⊢ <;> omega
  · intro h
    cases s <;> cases t <;> simp only [sg, if_true, Bool.false_eq_true, if_false] at h ⊢
    · have := e (by omega); omega
    · have := e1 (by omega); have := e2 (by omega); omega
    · have := e1 (by omega); have := e2 (by omega); omega
    · have := e (by omega); omega
  · intro h
    cases s <;> cases t <;> simp only [sg, if_true, Bool.false_eq_true, if_false] at h ⊢ <;> omega
theorem signed_is (s : Bool) (m i : Nat) : Ieee.signed s m i = sg s (m * 2 ^ i) := by
  unfold Ieee.signed sg
  rw [Nat.shiftLeft_eq]
/-- A number's datum, in units of the least float. -/
theorem order_number (L : Int) (s t : Bool) (m n i j : Nat) : Ieee.Datum.order (.number s m (L + i)) (.number t n (L + j)) = some (compare (sg s (m * 2 ^ i)) (sg t (n * 2 ^ j))) := by
  show some (compare _ _) = _
  congr 1
  have e1 : (L + (i : Int) - min (L + i) (L + j)).toNat = i - min i j := by omega
  have e2 : (L + (j : Int) - min (L + i) (L + j)).toNat = j - min i j := by omega
  rw [e1, e2, signed_is, signed_is]
  obtain ⟨k, hk⟩ : ∃ k, k = min i j := ⟨_, rfl⟩
  have hi : m * 2 ^ i = (m * 2 ^ (i - min i j)) * 2 ^ min i j := by rw [Nat.mul_assoc, ← Nat.pow_add, show i - min i j + min i j = i by omega]
  have hj : n * 2 ^ j = (n * 2 ^ (j - min i j)) * 2 ^ min i j := by rw [Nat.mul_assoc, ← Nat.pow_add, show j - min i j + min i j = j by omega]
  rw [hi, hj]
  have hp : 0 < 2 ^ min i j := Nat.pow_pos (by decide)
  generalize m * 2 ^ (i - min i j) = u
  generalize n * 2 ^ (j - min i j) = v
  generalize 2 ^ min i j = p at hp
  have su : ∀ (s : Bool) (x : Nat), sg s (x * p) = sg s x * p := fun s x => by cases s <;> simp [sg, Int.neg_mul]
  rw [su, su]
  have hp' : (0 : Int) < (p : Int) := by omega
  exact (compare_of _ _ _ _ (fun h => Int.mul_lt_mul_of_pos_right h hp') (fun h => by rw [h]) (fun h => Int.mul_lt_mul_of_pos_right h hp')).symm
theorem read_number (a : Nat) (h : rung a < top) : ∃ m e : Nat, Ieee.Format.read Ieee.double a = .number (ng a) m (Ieee.double.leastPlace + e) ∧ m * 2 ^ e = mag (rung a) := by
  by_cases h1 : rung a < 4503599627370496
  · refine ⟨rung a, 0, ?_, by simp [mag, h1]⟩
    show (if rung a < 4503599627370496 then _ else _) = _
    rw [if_pos h1]
    simp [ng, rung, Ieee.Format.signWeight, Ieee.double]
  · refine ⟨4503599627370496 + rung a % 4503599627370496, rung a / 4503599627370496 - 1, ?_, by simp [mag, h1]⟩
    show (if rung a < 4503599627370496 then _ else if rung a < 9218868437227405312 then _ else _) = _
    have ht : top = 9218868437227405312 := rfl
    rw [if_neg h1, if_pos (by omega)]
    rfl
theorem read_infinity (a : Nat) (h : rung a = top) : Ieee.Format.read Ieee.double a = .infinity (ng a) := by
  show (if rung a < 4503599627370496 then _ else if rung a < 9218868437227405312 then _ else if rung a = 9218868437227405312 then _ else _) = _
  have ht : top = 9218868437227405312 := rfl
  rw [if_neg (by omega), if_neg (by omega), if_pos (by omega)]
  rfl
theorem read_nan (a : Nat) (h : top < rung a) : ∃ s f, Ieee.Format.read Ieee.double a = .nan s f := by
  refine ⟨ng a, rung a - top, ?_⟩
  show (if rung a < 4503599627370496 then _ else if rung a < 9218868437227405312 then _ else if rung a = 9218868437227405312 then _ else _) = _
  have ht : top = 9218868437227405312 := rfl
  rw [if_neg (by omega), if_neg (by omega), if_neg (by omega)]
  rfl
/-- Two floats, neither a NaN. -/
theorem order_is (a b : Nat) (ha : rung a ≤ top) (hb : rung b ≤ top) : Ieee.Format.order Ieee.double a b = some (compare (sg (ng a) (rung a)) (sg (ng b) (rung b))) := by
  unfold Ieee.Format.order
  by_cases h1 : rung a < top
  · obtain ⟨m, e, r1, m1⟩ := read_number a h1
    by_cases h2 : rung b < top
    · obtain ⟨n, f, r2, m2⟩ := read_number b h2
      rw [r1, r2, order_number, m1, m2, sg_mag]
    · have h3 : rung b = top := by omega
      rw [r1, read_infinity b h3]
      show some (if ng b then Ordering.gt else .lt) = _
      congr 1
      rw [h3]
      have ht : (top : Int) = 9218868437227405312 := rfl
      cases ng b <;> cases ng a <;> simp only [sg, if_true, Bool.false_eq_true, if_false, compare, compareOfLessAndEq]
      · rw [if_pos (by omega)]
      · rw [if_pos (by omega)]
      · rw [if_neg (by omega), if_neg (by omega)]
      · rw [if_neg (by omega), if_neg (by omega)]
  · have h3 : rung a = top := by omega
    rw [read_infinity a h3]
    by_cases h2 : rung b < top
    · obtain ⟨n, f, r2, m2⟩ := read_number b h2
      rw [r2, h3]
      show some (if ng a then Ordering.lt else .gt) = _
      congr 1
      have ht : (top : Int) = 9218868437227405312 := rfl
      cases ng b <;> cases ng a <;> simp only [sg, if_true, Bool.false_eq_true, if_false, compare, compareOfLessAndEq]
      · rw [if_neg (by omega), if_neg (by omega)]
      · rw [if_pos (by omega)]
      · rw [if_neg (by omega), if_neg (by omega)]
      · rw [if_pos (by omega)]
    · have h4 : rung b = top := by omega
      rw [read_infinity b h4, h3, h4]
      show some (compare (ng b).toNat (ng a).toNat) = _
      cases ng b <;> cases ng a <;> rfl
theorem order_nan (a b : Nat) (h : top < rung a ∨ top < rung b) : Ieee.Format.order Ieee.double a b = none := by
  unfold Ieee.Format.order
  rcases h with h | h
  · obtain ⟨s, f, r⟩ := read_nan a h
    rw [r]
    rfl
  · obtain ⟨s, f, r⟩ := read_nan b h
    rw [r]
    cases Ieee.Format.read Ieee.double a <;> rfl
end Go.Proofs.Ytagjgofnaplefaa.Flo
