/- The least float above another one. Conditions: words of 64 bits. -/
import Derived.Test.YtagjgofnaplefaaWeD
namespace Go.Proofs.Ytagjgofnaplefaa.Wei
open Go.RowKit
open Flo
/-- The least float above. -/
def next (a : Nat) : Nat := if nan a ∨ inf a = true then a else if ng a then (if rung a = 0 then 0 else 9223372036854775808 + (rung a - 1)) else rung a + 1
theorem inf_is (a : Nat) : inf a = true ↔ rung a = top ∧ ng a = false := by
  unfold inf
  cases ng a <;> simp
set_option maxHeartbeats 8000000 in
theorem next_any (a : Nat) (w : World) (ha : a < 18446744073709551616) : Calls Try.prog 19 #[.float .f64 a] w fun e w' => e = .returned (.float .f64 (next a)) ∧ w = w' := by
  have ht : top = 9218868437227405312 := rfl
  have hr := rung_lt a
  by_cases hn : nan a
  · have hk : Hid (next a = a) := Lib.hid (by unfold next; rw [if_pos (.inl hn)])
    have HD : Hid (decide (nan a) = true) := Lib.hid (decide_eq_true hn)
    have HK : Hid (key a = 9223372036854775807) := Lib.hid (by unfold key; rw [if_pos hn])
    clear hn
    go_enter Try.func19, Try.ntmps19
    go_wp2_with fail
    refine (key_any a _ ha).mono ?_
    rintro e w1 ⟨rfl, rfl⟩
    rw [HK.out]
    go_wp2_with fail
    refine (isnan_any a _).mono ?_
    rintro e w1 ⟨rfl, rfl⟩
    rw [HD.out]
    go_wp2
    exact bodyPost_ret (results_tmp rfl _ _ _) rfl ⟨by rw [hk.out]; rfl, rfl⟩
  · have HD : Hid (decide (nan a) = false) := Lib.hid (decide_eq_false hn)
    have hrt : rung a ≤ top := by unfold nan at hn; omega
    by_cases hi : inf a = true
    · have hk : Hid (next a = a) := Lib.hid (by unfold next; rw [if_pos (.inr hi)])
      have HI := Lib.hid hi
      generalize hka : key a = n
      have HK := Lib.hid hka
      clear hn hi hka
      go_enter Try.func19, Try.ntmps19
      go_wp2_with fail
      refine (key_any a _ ha).mono ?_
      rintro e w1 ⟨rfl, rfl⟩
      rw [HK.out]
      go_wp2_with fail
      refine (isnan_any a _).mono ?_
      rintro e w1 ⟨rfl, rfl⟩
      rw [HD.out]
      go_wp2_with fail
      refine (isinf_any a _).mono ?_
      rintro e w1 ⟨rfl, rfl⟩
      rw [HI.out]
      go_wp2
      exact bodyPost_ret (results_tmp rfl _ _ _) rfl ⟨by rw [hk.out]; rfl, rfl⟩
    · have hi' : inf a = false := by simpa using hi
      have HI := Lib.hid hi'
      have hnx : next a = if ng a then (if rung a = 0 then 0 else 9223372036854775808 + (rung a - 1)) else rung a + 1 := by unfold next; rw [if_neg (by rintro (h | h); exact hn h; exact hi h)]
      have hke : key a = if ng a then -1 - (rung a : Int) else (rung a : Int) := by unfold key; rw [if_neg hn]
      have fin : ∀ n : Nat, key a + 1 = (n : Int) → n ≤ 9218868437227405313 → next a = n → Calls Try.prog 19 #[.float .f64 a] w fun e w' => e = .returned (.float .f64 (next a)) ∧ w = w' := by
        intro n h1 h2 h3
        have hk : Hid (next a = n) := Lib.hid h3
        have hkn : key a = (n : Int) - 1 := by omega
        have HK := Lib.hid hkn
        have h4 := run_frombits n w
        have d1 : decide ((n : Int) < 0) = false := decide_eq_false (by omega)
        have e1 : (n : Int) - 1 + 1 = (n : Int) := by omega
        clear hn hi hi' hnx hke h1 h3 hkn
        go_enter Try.func19, Try.ntmps19
        go_wp2_with fail
        refine (key_any a _ ha).mono ?_
        rintro e w1 ⟨rfl, rfl⟩
        rw [HK.out]
        go_wp2_with fail
        refine (isnan_any a _).mono ?_
        rintro e w1 ⟨rfl, rfl⟩
        rw [HD.out]
        go_wp2_with fail
        refine (isinf_any a _).mono ?_
        rintro e w1 ⟨rfl, rfl⟩
        rw [HI.out]
        go_wp2
        exact bodyPost_ret (results_tmp rfl _ _ _) rfl ⟨by rw [hk.out]; rfl, rfl⟩
      have neg : ∀ m : Nat, key a = -(m : Int) - 2 → m < 9223372036854775807 → next a = m + 9223372036854775808 → Calls Try.prog 19 #[.float .f64 a] w fun e w' => e = .returned (.float .f64 (next a)) ∧ w = w' := by
        intro m h1 h2 h3
        obtain ⟨s, hs⟩ : ∃ s, m + 9223372036854775808 = s := ⟨_, rfl⟩
        have hk : Hid (next a = s) := Lib.hid (by omega)
        have HK := Lib.hid h1
        have HC := Lib.hid (copysign_any m s (by omega) hs w)
        have h4 := run_frombits m w
        have e1 : -(m : Int) - 2 + 1 = -(m : Int) - 1 := by omega
        have d1 : decide (-(m : Int) - 1 < 0) = true := decide_eq_true (by omega)
        have e2 : -1 - (-(m : Int) - 1) = (m : Int) := by omega
        clear hn hi hi' hnx hke h1 h3 hs fin
        go_enter Try.func19, Try.ntmps19
        go_wp2_with fail
        refine (key_any a _ ha).mono ?_
        rintro e w1 ⟨rfl, rfl⟩
        rw [HK.out]
        go_wp2_with fail
        refine (isnan_any a _).mono ?_
        rintro e w1 ⟨rfl, rfl⟩
        rw [HD.out]
        go_wp2_with fail
        refine (isinf_any a _).mono ?_
        rintro e w1 ⟨rfl, rfl⟩
        rw [HI.out]
        go_wp2_with fail
        refine HC.out.mono ?_
        rintro e w1 ⟨rfl, rfl⟩
        go_wp2
        exact bodyPost_ret (results_tmp rfl _ _ _) rfl ⟨by rw [hk.out]; rfl, rfl⟩
      cases hg : ng a
      · rw [hg] at hnx hke
        exact fin (rung a + 1) (by rw [hke]; simp) (by omega) (by rw [hnx]; rfl)
      · rw [hg] at hnx hke
        simp only [if_true] at hnx hke
        by_cases h0 : rung a = 0
        · rw [if_pos h0] at hnx
          exact fin 0 (by rw [hke, h0]; rfl) (by omega) hnx
        · rw [if_neg h0] at hnx
          exact neg (rung a - 1) (by rw [hke]; omega) (by omega) (by rw [hnx]; omega)
end Go.Proofs.Ytagjgofnaplefaa.Wei
