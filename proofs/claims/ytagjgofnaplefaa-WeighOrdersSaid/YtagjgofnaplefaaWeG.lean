/- How many floats lie between two: the document's. Conditions: words of 64 bits. -/
import Derived.Test.YtagjgofnaplefaaWeF
namespace Go.Proofs.Ytagjgofnaplefaa.Wei
open Go.RowKit
open Flo
set_option maxHeartbeats 8000000 in
theorem rsteps_core (a b : Nat) (x y : Int) (w : World) (ha : a < 18446744073709551616) (hb : b < 18446744073709551616) (na : ¬ nan a) (nb : ¬ nan b) (hx : key a = x) (hy : key b = y) (r : Int) (ok : Bool)
    (b1 : -9223372036854775807 ≤ x ∧ x < 9223372036854775807) (b2 : -9223372036854775807 ≤ y ∧ y < 9223372036854775807)
    (h : ok = decide (fits (y - x))) (hr : r = if ok then y - x else 0) :
    Calls Try.prog 21 #[.float .f64 a, .float .f64 b] w fun e w' => e = .returned (.tuple #[.int .i64 r, .bool ok]) ∧ w = w' := by
  have HA : Hid (decide (nan a) = false) := Lib.hid (decide_eq_false na)
  have HB : Hid (decide (nan b) = false) := Lib.hid (decide_eq_false nb)
  have HX := Lib.hid (rkey_any a w ha)
  have HY := Lib.hid (rkey_any b w hb)
  rw [hx] at HX
  rw [hy] at HY
  have HR := Lib.hid hr
  unfold fits at h
  have HO := Lib.hid h
  obtain ⟨b11, b12⟩ := b1
  obtain ⟨b21, b22⟩ := b2
  by_cases c1 : x < 0
  · have e1 : decide (x < 0) = true := decide_eq_true c1
    have e2 : decide (x ≥ 0) = false := decide_eq_false (by omega)
    by_cases c2 : y ≥ 0
    · have e3 : decide (y ≥ 0) = true := decide_eq_true c2
      by_cases c3 : y > 9223372036854775807 + x
      · have e4 : decide (y > 9223372036854775807 + x) = true := decide_eq_true c3
        have hok : ok = false := by rw [h]; exact decide_eq_false (by omega)
        subst hok
        clear h hr hx hy na nb HO
        go_enter Try.func21, Try.ntmps21
        go_wp2_with fail
        refine HX.out.mono ?_
        rintro e w1 ⟨rfl, rfl⟩
        go_wp2_with fail
        refine HY.out.mono ?_
        rintro e w1 ⟨rfl, rfl⟩
        go_wp2_with fail
        refine (none_any a _).mono ?_
        rintro e w1 ⟨rfl, rfl⟩
        rw [HA.out]
        go_wp2_with fail
        refine (none_any b _).mono ?_
        rintro e w1 ⟨rfl, rfl⟩
        rw [HB.out]
        go_wp2
        exact bodyPost_ret (results_pair rfl _ _ _ _ rfl rfl) rfl ⟨by rw [HR.out]; rfl, rfl⟩
      · have e4 : decide (y > 9223372036854775807 + x) = false := decide_eq_false c3
        have hok : ok = true := by rw [h]; exact decide_eq_true (by omega)
        subst hok
        clear h hr hx hy na nb HO
        go_enter Try.func21, Try.ntmps21
        go_wp2_with fail
        refine HX.out.mono ?_
        rintro e w1 ⟨rfl, rfl⟩
        go_wp2_with fail
        refine HY.out.mono ?_
        rintro e w1 ⟨rfl, rfl⟩
        go_wp2_with fail
        refine (none_any a _).mono ?_
        rintro e w1 ⟨rfl, rfl⟩
        rw [HA.out]
        go_wp2_with fail
        refine (none_any b _).mono ?_
        rintro e w1 ⟨rfl, rfl⟩
        rw [HB.out]
        go_wp2
        exact bodyPost_ret (results_pair rfl _ _ _ _ rfl rfl) rfl ⟨by rw [HR.out]; rfl, rfl⟩
    · have e3 : decide (y ≥ 0) = false := decide_eq_false c2
      have hok : ok = true := by rw [h]; exact decide_eq_true (by omega)
      subst hok
      clear h hr hx hy na nb HO
      go_enter Try.func21, Try.ntmps21
      go_wp2_with fail
      refine HX.out.mono ?_
      rintro e w1 ⟨rfl, rfl⟩
      go_wp2_with fail
      refine HY.out.mono ?_
      rintro e w1 ⟨rfl, rfl⟩
      go_wp2_with fail
      refine (none_any a _).mono ?_
      rintro e w1 ⟨rfl, rfl⟩
      rw [HA.out]
      go_wp2_with fail
      refine (none_any b _).mono ?_
      rintro e w1 ⟨rfl, rfl⟩
      rw [HB.out]
      go_wp2
      exact bodyPost_ret (results_pair rfl _ _ _ _ rfl rfl) rfl ⟨by rw [HR.out]; rfl, rfl⟩
  · have e1 : decide (x < 0) = false := decide_eq_false c1
    have e2 : decide (x ≥ 0) = true := decide_eq_true (by omega)
    by_cases c2 : y < 0
    · have e3 : decide (y < 0) = true := decide_eq_true c2
      by_cases c3 : x > y - -9223372036854775808
      · have e4 : decide (x > y - -9223372036854775808) = true := decide_eq_true c3
        have hok : ok = false := by rw [h]; exact decide_eq_false (by omega)
        subst hok
        clear h hr hx hy na nb HO
        go_enter Try.func21, Try.ntmps21
        go_wp2_with fail
        refine HX.out.mono ?_
        rintro e w1 ⟨rfl, rfl⟩
        go_wp2_with fail
        refine HY.out.mono ?_
        rintro e w1 ⟨rfl, rfl⟩
        go_wp2_with fail
        refine (none_any a _).mono ?_
        rintro e w1 ⟨rfl, rfl⟩
        rw [HA.out]
        go_wp2_with fail
        refine (none_any b _).mono ?_
        rintro e w1 ⟨rfl, rfl⟩
        rw [HB.out]
        go_wp2
        exact bodyPost_ret (results_pair rfl _ _ _ _ rfl rfl) rfl ⟨by rw [HR.out]; rfl, rfl⟩
      · have e4 : decide (x > y - -9223372036854775808) = false := decide_eq_false c3
        have hok : ok = true := by rw [h]; exact decide_eq_true (by omega)
        subst hok
        clear h hr hx hy na nb HO
        go_enter Try.func21, Try.ntmps21
        go_wp2_with fail
        refine HX.out.mono ?_
        rintro e w1 ⟨rfl, rfl⟩
        go_wp2_with fail
        refine HY.out.mono ?_
        rintro e w1 ⟨rfl, rfl⟩
        go_wp2_with fail
        refine (none_any a _).mono ?_
        rintro e w1 ⟨rfl, rfl⟩
        rw [HA.out]
        go_wp2_with fail
        refine (none_any b _).mono ?_
        rintro e w1 ⟨rfl, rfl⟩
        rw [HB.out]
        go_wp2
        exact bodyPost_ret (results_pair rfl _ _ _ _ rfl rfl) rfl ⟨by rw [HR.out]; rfl, rfl⟩
    · have e3 : decide (y < 0) = false := decide_eq_false c2
      have hok : ok = true := by rw [h]; exact decide_eq_true (by omega)
      subst hok
      clear h hr hx hy na nb HO
      go_enter Try.func21, Try.ntmps21
      go_wp2_with fail
      refine HX.out.mono ?_
      rintro e w1 ⟨rfl, rfl⟩
      go_wp2_with fail
      refine HY.out.mono ?_
      rintro e w1 ⟨rfl, rfl⟩
      go_wp2_with fail
      refine (none_any a _).mono ?_
      rintro e w1 ⟨rfl, rfl⟩
      rw [HA.out]
      go_wp2_with fail
      refine (none_any b _).mono ?_
      rintro e w1 ⟨rfl, rfl⟩
      rw [HB.out]
      go_wp2
      exact bodyPost_ret (results_pair rfl _ _ _ _ rfl rfl) rfl ⟨by rw [HR.out]; rfl, rfl⟩
set_option maxHeartbeats 4000000 in
theorem rsteps_any (a b : Nat) (w : World) (ha : a < 18446744073709551616) (hb : b < 18446744073709551616) :
    Calls Try.prog 21 #[.float .f64 a, .float .f64 b] w fun e w' => e = .returned (.tuple #[.int .i64 (stp a b), .bool (stok a b)]) ∧ w = w' := by
  have HX := Lib.hid (rkey_any a w ha)
  have HY := Lib.hid (rkey_any b w hb)
  by_cases na : nan a
  · have HS : Hid (stp a b = 0 ∧ stok a b = false) := Lib.hid ⟨by unfold stp; rw [if_pos (.inl na)], by unfold stok; rw [if_pos (.inl na)]⟩
    have HA : Hid (decide (nan a) = true) := Lib.hid (decide_eq_true na)
    clear na
    generalize key a = x at HX
    generalize key b = y at HY
    go_enter Try.func21, Try.ntmps21
    go_wp2_with fail
    refine HX.out.mono ?_
    rintro e w1 ⟨rfl, rfl⟩
    go_wp2_with fail
    refine HY.out.mono ?_
    rintro e w1 ⟨rfl, rfl⟩
    go_wp2_with fail
    refine (none_any a _).mono ?_
    rintro e w1 ⟨rfl, rfl⟩
    rw [HA.out]
    go_wp2
    exact bodyPost_ret (results_pair rfl _ _ _ _ rfl rfl) rfl ⟨by rw [HS.out.1, HS.out.2]; rfl, rfl⟩
  · by_cases nb : nan b
    · have HS : Hid (stp a b = 0 ∧ stok a b = false) := Lib.hid ⟨by unfold stp; rw [if_pos (.inr nb)], by unfold stok; rw [if_pos (.inr nb)]⟩
      have HA : Hid (decide (nan a) = false) := Lib.hid (decide_eq_false na)
      have HB : Hid (decide (nan b) = true) := Lib.hid (decide_eq_true nb)
      clear na nb
      generalize key a = x at HX
      generalize key b = y at HY
      go_enter Try.func21, Try.ntmps21
      go_wp2_with fail
      refine HX.out.mono ?_
      rintro e w1 ⟨rfl, rfl⟩
      go_wp2_with fail
      refine HY.out.mono ?_
      rintro e w1 ⟨rfl, rfl⟩
      go_wp2_with fail
      refine (none_any a _).mono ?_
      rintro e w1 ⟨rfl, rfl⟩
      rw [HA.out]
      go_wp2_with fail
      refine (none_any b _).mono ?_
      rintro e w1 ⟨rfl, rfl⟩
      rw [HB.out]
      go_wp2
      exact bodyPost_ret (results_pair rfl _ _ _ _ rfl rfl) rfl ⟨by rw [HS.out.1, HS.out.2]; rfl, rfl⟩
    · have hnn : ¬ (nan a ∨ nan b) := by rintro (h | h); exact na h; exact nb h
      have h1 : stp a b = if fits (key b - key a) then key b - key a else 0 := by unfold stp; rw [if_neg hnn]
      have h2 : stok a b = decide (fits (key b - key a)) := by unfold stok; rw [if_neg hnn]
      refine rsteps_core a b _ _ w ha hb na nb rfl rfl (stp a b) (stok a b) (key_fits a na) (key_fits b nb) h2 ?_
      rw [h1, h2]
      by_cases hf : fits (key b - key a)
      · rw [if_pos hf, decide_eq_true hf]; rfl
      · rw [if_neg hf, decide_eq_false hf]; rfl
end Go.Proofs.Ytagjgofnaplefaa.Wei
