/- It is a total order: the ways in which three floats may stand. Conditions: words of 64 bits. -/
import Derived.Test.YtagjgofnaplefaaWeQ
namespace Go.Proofs.Ytagjgofnaplefaa.Wei
open Go.RowKit
open Flo
theorem order_f64 (a b : Nat) : FloatKind.f64.format.order a b = Ieee.Format.order Ieee.double a b := rfl
theorem sg_key (a b : Nat) (ha : ¬ nan a) (hb : ¬ nan b) : (key a < key b → sg (ng a) (rung a) ≤ sg (ng b) (rung b)) ∧ (key a = key b → sg (ng a) (rung a) = sg (ng b) (rung b)) := by
  unfold key sg
  rw [if_neg ha, if_neg hb]
  cases ng a <;> cases ng b <;> simp only [if_true, Bool.false_eq_true, if_false] <;> omega
theorem order_not (a b : Nat) (h : key a < key b) : ¬ FloatKind.f64.format.order a b = some .gt := by
  rw [order_f64]
  by_cases hn : nan a ∨ nan b
  · rw [order_nan a b hn]; simp
  · have ha : ¬ nan a := fun h => hn (.inl h)
    have hb : ¬ nan b := fun h => hn (.inr h)
    have hs := (sg_key a b ha hb).1 h
    rw [order_is a b (by unfold nan at ha; omega) (by unfold nan at hb; omega)]
    generalize sg (ng a) (rung a) = x at hs ⊢
    generalize sg (ng b) (rung b) = y at hs ⊢
    simp only [compare, compareOfLessAndEq]
    split
    · simp
    · rw [if_pos (by omega)]; simp
theorem order_not' (a b : Nat) (h : key b < key a) : ¬ FloatKind.f64.format.order a b = some .lt := by
  rw [order_f64]
  by_cases hn : nan a ∨ nan b
  · rw [order_nan a b hn]; simp
  · have ha : ¬ nan a := fun h => hn (.inl h)
    have hb : ¬ nan b := fun h => hn (.inr h)
    have hs := (sg_key b a hb ha).1 h
    rw [order_is a b (by unfold nan at ha; omega) (by unfold nan at hb; omega)]
    generalize sg (ng a) (rung a) = x at hs ⊢
    generalize sg (ng b) (rung b) = y at hs ⊢
    simp only [compare, compareOfLessAndEq]
    rw [if_neg (by omega)]
    split <;> simp
theorem order_eq (a b : Nat) (h : key a = key b) (ha : ¬ nan a) : FloatKind.f64.format.order a b = some .eq := by
  rw [order_f64]
  have hb : ¬ nan b := fun hb => by
    have h1 := key_fits a ha
    have h2 : key b = 9223372036854775807 := by unfold key; rw [if_pos hb]
    omega
  have hs := (sg_key a b ha hb).2 h
  rw [order_is a b (by unfold nan at ha; omega) (by unfold nan at hb; omega), hs]
  simp [compare, compareOfLessAndEq]
theorem order_none (a b : Nat) (ha : nan a) : FloatKind.f64.format.order a b = none := by
  rw [order_f64, order_nan a b (.inl ha)]
theorem tells (a b : Nat) (z : Int) (ha : a < 18446744073709551616) (hb : b < 18446744073709551616) (h : cmp3 (key a) (key b) = z) : Tells a b z := fun w => by
  have := compare_any a b w ha hb
  rw [h] at this
  exact this
theorem cmp3_lt {x y : Int} (h : x < y) : cmp3 x y = -1 := by unfold cmp3; rw [if_pos h]
theorem cmp3_eq {x y : Int} (h : x = y) : cmp3 x y = 0 := by unfold cmp3; rw [if_neg (by omega), if_neg (by omega)]
theorem cmp3_gt {x y : Int} (h : y < x) : cmp3 x y = 1 := by unfold cmp3; rw [if_neg (by omega), if_pos h]
theorem total_walk (a b c : Nat) (w : World) (ha : a < 18446744073709551616) (hb : b < 18446744073709551616) (hc : c < 18446744073709551616) :
    Calls Try.prog 3 #[.int .u64 a, .int .u64 b, .int .u64 c] w fun e w' => e = .returned (.bool true) ∧ Below w.heap.size w w' := by
  have T := fun z h => tells a b z ha hb h
  have T' := fun z h => tells b a z hb ha h
  have U := fun z h => tells b c z hb hc h
  have V := fun z h => tells a c z ha hc h
  have E := tells a a 0 ha ha (cmp3_eq rfl)
  rcases Int.lt_trichotomy (key a) (key b) with h1 | h1 | h1
  · have n := order_not a b h1
    rcases Int.lt_trichotomy (key b) (key c) with h2 | h2 | h2
    · exact total_lll a b c w (T _ (cmp3_lt h1)) (U _ (cmp3_lt h2)) (V _ (cmp3_lt (by omega))) (T' _ (cmp3_gt h1)) E n
    · exact total_lel a b c w (T _ (cmp3_lt h1)) (U _ (cmp3_eq h2)) (V _ (cmp3_lt (by omega))) (T' _ (cmp3_gt h1)) E n
    · rcases Int.lt_trichotomy (key a) (key c) with h3 | h3 | h3
      · exact total_lgl a b c w (T _ (cmp3_lt h1)) (U _ (cmp3_gt h2)) (V _ (cmp3_lt h3)) (T' _ (cmp3_gt h1)) E n
      · exact total_lge a b c w (T _ (cmp3_lt h1)) (U _ (cmp3_gt h2)) (V _ (cmp3_eq h3)) (T' _ (cmp3_gt h1)) E n
      · exact total_lgg a b c w (T _ (cmp3_lt h1)) (U _ (cmp3_gt h2)) (V _ (cmp3_gt h3)) (T' _ (cmp3_gt h1)) E n
  · by_cases hn : nan a
    · have n := order_none a b hn
      have m := order_none a a hn
      have n1 : ¬ FloatKind.f64.format.order a b = some .lt := by rw [n]; simp
      have n2 : ¬ FloatKind.f64.format.order a b = some .gt := by rw [n]; simp
      have n3 : ¬ FloatKind.f64.format.order a a = some .eq := by rw [m]; simp
      rcases Int.lt_trichotomy (key b) (key c) with h2 | h2 | h2
      · exact total_ell1 a b c w (T _ (cmp3_eq h1)) (U _ (cmp3_lt h2)) (V _ (cmp3_lt (by omega))) (T' _ (cmp3_eq h1.symm)) E n1 n2 n3
      · exact total_eee1 a b c w (T _ (cmp3_eq h1)) (U _ (cmp3_eq h2)) (V _ (cmp3_eq (by omega))) (T' _ (cmp3_eq h1.symm)) E n1 n2 n3
      · exact total_egg1 a b c w (T _ (cmp3_eq h1)) (U _ (cmp3_gt h2)) (V _ (cmp3_gt (by omega))) (T' _ (cmp3_eq h1.symm)) E n1 n2 n3
    · have n := order_eq a b h1 hn
      have m := order_eq a a rfl hn
      rcases Int.lt_trichotomy (key b) (key c) with h2 | h2 | h2
      · exact total_ell a b c w (T _ (cmp3_eq h1)) (U _ (cmp3_lt h2)) (V _ (cmp3_lt (by omega))) (T' _ (cmp3_eq h1.symm)) E m n
      · exact total_eee a b c w (T _ (cmp3_eq h1)) (U _ (cmp3_eq h2)) (V _ (cmp3_eq (by omega))) (T' _ (cmp3_eq h1.symm)) E m n
      · exact total_egg a b c w (T _ (cmp3_eq h1)) (U _ (cmp3_gt h2)) (V _ (cmp3_gt (by omega))) (T' _ (cmp3_eq h1.symm)) E m n
  · have n := order_not' a b h1
    rcases Int.lt_trichotomy (key b) (key c) with h2 | h2 | h2
    · rcases Int.lt_trichotomy (key a) (key c) with h3 | h3 | h3
      · exact total_gll a b c w (T _ (cmp3_gt h1)) (U _ (cmp3_lt h2)) (V _ (cmp3_lt h3)) (T' _ (cmp3_lt h1)) E n
      · exact total_gle a b c w (T _ (cmp3_gt h1)) (U _ (cmp3_lt h2)) (V _ (cmp3_eq h3)) (T' _ (cmp3_lt h1)) E n
      · exact total_glg a b c w (T _ (cmp3_gt h1)) (U _ (cmp3_lt h2)) (V _ (cmp3_gt h3)) (T' _ (cmp3_lt h1)) E n
    · exact total_geg a b c w (T _ (cmp3_gt h1)) (U _ (cmp3_eq h2)) (V _ (cmp3_gt (by omega))) (T' _ (cmp3_lt h1)) E n
    · exact total_ggg a b c w (T _ (cmp3_gt h1)) (U _ (cmp3_gt h2)) (V _ (cmp3_gt (by omega))) (T' _ (cmp3_lt h1)) E n
theorem total_int (a b c : Int) (w : World) (ha : (Lit.int .u64 a).wf = true) (hb : (Lit.int .u64 b).wf = true) (hc : (Lit.int .u64 c).wf = true) : Calls Try.prog 3 #[.int .u64 a, .int .u64 b, .int .u64 c] w fun e w' => e = .returned (.bool true) ∧ Below w.heap.size w w' := by
  have h1 := Go.bounds_u64 ha
  have h2 := Go.bounds_u64 hb
  have h3 := Go.bounds_u64 hc
  obtain ⟨x, rfl⟩ := Int.eq_ofNat_of_zero_le h1.1
  obtain ⟨y, rfl⟩ := Int.eq_ofNat_of_zero_le h2.1
  obtain ⟨z, rfl⟩ := Int.eq_ofNat_of_zero_le h3.1
  exact total_walk x y z w (by omega) (by omega) (by omega)
end Go.Proofs.Ytagjgofnaplefaa.Wei
