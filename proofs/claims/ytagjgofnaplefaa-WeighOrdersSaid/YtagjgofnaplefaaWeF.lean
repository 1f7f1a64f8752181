/- How many floats lie between two: the program's. Conditions: words of 64 bits. -/
import Derived.Test.YtagjgofnaplefaaWeE
namespace Go.Proofs.Ytagjgofnaplefaa.Wei
open Go.RowKit
open Flo
/-- Is a number one of 64 bits? -/
def fits (x : Int) : Prop := -9223372036854775808 ≤ x ∧ x ≤ 9223372036854775807
instance (x : Int) : Decidable (fits x) := by unfold fits; infer_instance
/-- How many floats lie from one to another. -/
def stp (a b : Nat) : Int := if nan a ∨ nan b then 0 else if fits (key b - key a) then key b - key a else 0
/-- .. and whether it can be told. -/
def stok (a b : Nat) : Bool := if nan a ∨ nan b then false else decide (fits (key b - key a))
theorem key_fits (a : Nat) (h : ¬ nan a) : -9223372036854775807 ≤ key a ∧ key a < 9223372036854775807 := by
  have ht : top = 9218868437227405312 := rfl
  have h' : ¬ top < rung a := h
  unfold key
  rw [if_neg h]
  split <;> omega
theorem results_pair {P : Program} {fn : Func} {t u : Tmp} (h : fn.results = #[.tmp t, .tmp u]) (tmps : Array Value) (w : World) (x y : Value) (hx : tmps.getD t undef = x) (hy : tmps.getD u undef = y) : (results fn tmps).run P w = .ok (.tuple #[x, y]) w := by
  rw [results_tmp2 h, hx, hy]
set_option maxHeartbeats 8000000 in
theorem steps_core (a b : Nat) (x y n : Int) (w : World) (ha : a < 18446744073709551616) (hb : b < 18446744073709551616) (na : ¬ nan a) (nb : ¬ nan b) (hx : key a = x) (hy : key b = y) (hn : IntKind.i64.wrap (y - x) = n) (r : Int) (ok : Bool)
    (p q : Bool) (hp : decide (x < 0) = p) (hq : decide (y < 0) = q) (s t : Bool) (hs : decide (n ≥ 0) = s) (ht : decide (y ≥ x) = t) (h : ((p != q) && (s != t)) = !ok) (hr : r = if ok then n else 0) :
    Calls Try.prog 20 #[.float .f64 a, .float .f64 b] w fun e w' => e = .returned (.tuple #[.int .i64 r, .bool ok]) ∧ w = w' := by
  have HA : Hid (decide (nan a) = false) := Lib.hid (decide_eq_false na)
  have HB : Hid (decide (nan b) = false) := Lib.hid (decide_eq_false nb)
  have HX := Lib.hid hx
  have HY := Lib.hid hy
  have HR := Lib.hid hr
  clear hx hy na nb hr
  cases p <;> cases q <;> cases s <;> cases t <;> cases ok <;> first | (exact absurd h (by decide)) | (
    clear h
    go_enter Try.func20, Try.ntmps20
    go_wp2_with fail
    refine (isnan_any a _).mono ?_
    rintro e w1 ⟨rfl, rfl⟩
    rw [HA.out]
    go_wp2_with fail
    refine (isnan_any b _).mono ?_
    rintro e w1 ⟨rfl, rfl⟩
    rw [HB.out]
    go_wp2_with fail
    refine (key_any a _ ha).mono ?_
    rintro e w1 ⟨rfl, rfl⟩
    rw [HX.out]
    go_wp2_with fail
    refine (key_any b _ hb).mono ?_
    rintro e w1 ⟨rfl, rfl⟩
    rw [HY.out]
    go_wp2
    exact bodyPost_ret (results_pair rfl _ _ _ _ rfl rfl) rfl ⟨by rw [HR.out]; rfl, rfl⟩)
set_option maxHeartbeats 4000000 in
theorem steps_any (a b : Nat) (w : World) (ha : a < 18446744073709551616) (hb : b < 18446744073709551616) :
    Calls Try.prog 20 #[.float .f64 a, .float .f64 b] w fun e w' => e = .returned (.tuple #[.int .i64 (stp a b), .bool (stok a b)]) ∧ w = w' := by
  by_cases na : nan a
  · have HS : Hid (stp a b = 0 ∧ stok a b = false) := Lib.hid ⟨by unfold stp; rw [if_pos (.inl na)], by unfold stok; rw [if_pos (.inl na)]⟩
    have HA : Hid (decide (nan a) = true) := Lib.hid (decide_eq_true na)
    clear na
    go_enter Try.func20, Try.ntmps20
    go_wp2_with fail
    refine (isnan_any a _).mono ?_
    rintro e w1 ⟨rfl, rfl⟩
    rw [HA.out]
    go_wp2
    exact bodyPost_ret (results_pair rfl _ _ _ _ rfl rfl) rfl ⟨by rw [HS.out.1, HS.out.2]; rfl, rfl⟩
  · by_cases nb : nan b
    · have HS : Hid (stp a b = 0 ∧ stok a b = false) := Lib.hid ⟨by unfold stp; rw [if_pos (.inr nb)], by unfold stok; rw [if_pos (.inr nb)]⟩
      have HA : Hid (decide (nan a) = false) := Lib.hid (decide_eq_false na)
      have HB : Hid (decide (nan b) = true) := Lib.hid (decide_eq_true nb)
      clear na nb
      go_enter Try.func20, Try.ntmps20
      go_wp2_with fail
      refine (isnan_any a _).mono ?_
      rintro e w1 ⟨rfl, rfl⟩
      rw [HA.out]
      go_wp2_with fail
      refine (isnan_any b _).mono ?_
      rintro e w1 ⟨rfl, rfl⟩
      rw [HB.out]
      go_wp2
      exact bodyPost_ret (results_pair rfl _ _ _ _ rfl rfl) rfl ⟨by rw [HS.out.1, HS.out.2]; rfl, rfl⟩
    · have fa := key_fits a na
      have fb := key_fits b nb
      have hnn : ¬ (nan a ∨ nan b) := by rintro (h | h); exact na h; exact nb h
      have h1 : stp a b = if fits (key b - key a) then key b - key a else 0 := by unfold stp; rw [if_neg hnn]
      have h2 : stok a b = decide (fits (key b - key a)) := by unfold stok; rw [if_neg hnn]
      refine steps_core a b (key a) (key b) _ w ha hb na nb rfl rfl rfl (stp a b) (stok a b) _ _ rfl rfl _ _ rfl rfl ?_ ?_
      · rw [h2, IntKind.wrap_i64]
        unfold fits
        generalize key a = x at fa ⊢
        generalize key b = y at fb ⊢
        by_cases c1 : x < 0 <;> by_cases c2 : y < 0 <;> by_cases c3 : -9223372036854775808 ≤ y - x ∧ y - x ≤ 9223372036854775807 <;> by_cases c4 : y ≥ x <;>
          by_cases c5 : (y - x + 9223372036854775808) % 18446744073709551616 - 9223372036854775808 ≥ 0 <;> simp [c1, c2, c3, c4] <;> omega
      · rw [h1, h2, IntKind.wrap_i64]
        by_cases hf : fits (key b - key a)
        · rw [if_pos hf, decide_eq_true hf]
          unfold fits at hf
          simp only [if_true]
          omega
        · rw [if_neg hf, decide_eq_false hf]
          rfl
end Go.Proofs.Ytagjgofnaplefaa.Wei
