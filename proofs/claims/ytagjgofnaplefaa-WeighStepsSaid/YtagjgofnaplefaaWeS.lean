/- The law that each step up is one float further, walked. Conditions: words of 64 bits. -/
import Derived.Test.YtagjgofnaplefaaWeR
namespace Go.Proofs.Ytagjgofnaplefaa.Wei
open Go.RowKit
open Flo
theorem same_self (a : Nat) : same a a = true := by simp [same]
theorem next_stay (a : Nat) (h : nan a ∨ inf a = true) : next a = a := by unfold next; rw [if_pos h]
theorem same_inf (a : Nat) (ha : a < 18446744073709551616) (hn : ¬ nan a) : same a 9218868437227405312 = inf a := by
  have hi := inf_is a
  have e : same a 9218868437227405312 = true ↔ inf a = true := by
    rw [hi]
    unfold same
    simp only [hn, decide_false, Bool.false_and, Bool.false_or, beq_iff_eq]
    unfold rung ng top
    constructor
    · intro h
      have : a = 9218868437227405312 := by omega
      subst this
      decide
    · rintro ⟨h1, h2⟩
      have : ¬ a / 9223372036854775808 % 2 = 1 := by simpa using h2
      omega
  cases h1 : same a 9218868437227405312 <;> cases h2 : inf a <;> simp_all
theorem next_up (a : Nat) (hn : ¬ nan a) (hi : ¬ inf a = true) : next a < 18446744073709551616 ∧ ¬ nan (next a) ∧ key (next a) = key a + 1 := by
  have hi' := inf_is a
  have ht : top = 9218868437227405312 := rfl
  have hr := rung_lt a
  have hn' : rung a ≤ top := by unfold nan at hn; omega
  unfold next
  rw [if_neg (by rintro (h | h); exact hn h; exact hi h)]
  cases hg : ng a with
  | true =>
    simp only [if_true]
    by_cases h0 : rung a = 0
    · rw [if_pos h0]
      refine ⟨by decide, by decide, ?_⟩
      have : key a = -1 := by unfold key; rw [if_neg hn, hg, h0]; rfl
      rw [this]
      decide
    · rw [if_neg h0]
      have e1 : rung (9223372036854775808 + (rung a - 1)) = rung a - 1 := by
        generalize rung a = r at *
        unfold rung
        omega
      have e2 : ng (9223372036854775808 + (rung a - 1)) = true := by
        generalize rung a = r at *
        unfold ng
        have : (9223372036854775808 + (r - 1)) / 9223372036854775808 % 2 = 1 := by omega
        rw [this]
        rfl
      have e3 : ¬ nan (9223372036854775808 + (rung a - 1)) := by unfold nan; rw [e1]; omega
      refine ⟨by omega, e3, ?_⟩
      unfold key
      rw [if_neg e3, if_neg hn, e1, e2, hg]
      simp only [if_true]
      omega
  | false =>
    simp only [Bool.false_eq_true, if_false]
    have hlt : rung a < top := by
      rcases Nat.lt_or_ge (rung a) top with h | h
      · exact h
      · exact absurd (hi'.2 ⟨by omega, hg⟩) hi
    have e1 : rung (rung a + 1) = rung a + 1 := by
      generalize rung a = r at *
      unfold rung
      omega
    have e2 : ng (rung a + 1) = false := by
      generalize rung a = r at *
      unfold ng
      have : (r + 1) / 9223372036854775808 % 2 = 0 := by omega
      rw [this]
      rfl
    have e3 : ¬ nan (rung a + 1) := by unfold nan; rw [e1]; omega
    refine ⟨by omega, e3, ?_⟩
    unfold key
    rw [if_neg e3, if_neg hn, e1, e2, hg]
    simp only [Bool.false_eq_true, if_false]
    omega
theorem step_one (a : Nat) (hn : ¬ nan a) (hi : ¬ inf a = true) : stp a (next a) = 1 ∧ stok a (next a) = true := by
  obtain ⟨_, h2, h3⟩ := next_up a hn hi
  have hf : fits (key (next a) - key a) := by rw [h3]; unfold fits; omega
  have hno : ¬ (nan a ∨ nan (next a)) := by rintro (h | h); exact hn h; exact h2 h
  constructor
  · unfold stp
    rw [if_neg hno, if_pos hf, h3]
    omega
  · unfold stok
    rw [if_neg hno]
    exact decide_eq_true hf
/-- What so many steps tell. -/
def StepsTell (F : Nat) (a b : Nat) (n : Int) (ok : Bool) : Prop := ∀ w, Calls Try.prog F #[.float .f64 a, .float .f64 b] w fun e w' => e = .returned (.tuple #[.int .i64 n, .bool ok]) ∧ w = w'
def NextTells (a n : Nat) : Prop := ∀ w, Calls Try.prog 19 #[.float .f64 a] w fun e w' => e = .returned (.float .f64 n) ∧ w = w'
def SameTells (a b : Nat) (z : Bool) : Prop := ∀ w, Calls Try.prog 22 #[.float .f64 a, .float .f64 b] w fun e w' => e = .returned (.bool z) ∧ w = w'
set_option maxHeartbeats 4000000 in
set_option maxRecDepth 100000 in
theorem steps_nan (a b n : Nat) (s : Int) (ok : Bool) (w : World) (H1 : NextTells a n) (H2 : StepsTell 20 a b s ok) (H3 : StepsTell 21 a b s ok) (hx : ¬ FloatKind.f64.format.order a a = some .eq) (H4 : SameTells n a true) :
    Calls Try.prog 6 #[.int .u64 a, .int .u64 b] w fun e w' => e = .returned (.bool true) ∧ Below w.heap.size w w' := by
  have HA := Lib.hid H1
  have HB := Lib.hid H2
  have HC := Lib.hid H3
  clear H1 H2 H3
  have HD := Lib.hid H4
  clear H4
  go_enter Try.func6, Try.ntmps6
  go_wp2_with fail
  refine (of_any a _).mono ?_
  rintro e w1 ⟨rfl, rfl⟩
  go_wp2_with fail
  refine (of_any b _).mono ?_
  rintro e w1 ⟨rfl, rfl⟩
  go_wp2_with fail
  refine (HA.out _).mono ?_
  rintro e w1 ⟨rfl, rfl⟩
  go_wp2_with fail
  refine (HB.out _).mono ?_
  rintro e w1 ⟨rfl, rfl⟩
  go_wp2_with fail
  refine (HC.out _).mono ?_
  rintro e w1 ⟨rfl, rfl⟩
  go_wp2_with fail
  refine (HD.out _).mono ?_
  rintro e w1 ⟨rfl, rfl⟩
  go_wp2_with fail
  refine (awake_any _).mono ?_
  rintro e w1 ⟨rfl, k1⟩
  go_wp2
  exact bodyPost_ret (results_tmp rfl _ _ _) rfl ⟨rfl, k1⟩
set_option maxHeartbeats 4000000 in
set_option maxRecDepth 100000 in
theorem steps_inf (a b n : Nat) (s : Int) (ok : Bool) (w : World) (H1 : NextTells a n) (H2 : StepsTell 20 a b s ok) (H3 : StepsTell 21 a b s ok) (hx : FloatKind.f64.format.order a a = some .eq) (H4 : SameTells n a true) (H5 : SameTells a 9218868437227405312 true) :
    Calls Try.prog 6 #[.int .u64 a, .int .u64 b] w fun e w' => e = .returned (.bool true) ∧ Below w.heap.size w w' := by
  have HA := Lib.hid H1
  have HB := Lib.hid H2
  have HC := Lib.hid H3
  clear H1 H2 H3
  have HD := Lib.hid H4
  have HE := Lib.hid H5
  clear H4 H5
  go_enter Try.func6, Try.ntmps6
  go_wp2_with fail
  refine (of_any a _).mono ?_
  rintro e w1 ⟨rfl, rfl⟩
  go_wp2_with fail
  refine (of_any b _).mono ?_
  rintro e w1 ⟨rfl, rfl⟩
  go_wp2_with fail
  refine (HA.out _).mono ?_
  rintro e w1 ⟨rfl, rfl⟩
  go_wp2_with fail
  refine (HB.out _).mono ?_
  rintro e w1 ⟨rfl, rfl⟩
  go_wp2_with fail
  refine (HC.out _).mono ?_
  rintro e w1 ⟨rfl, rfl⟩
  go_wp2_with fail
  refine (of_any 9218868437227405312 _).mono ?_
  rintro e w1 ⟨rfl, rfl⟩
  go_wp2_with fail
  refine (HE.out _).mono ?_
  rintro e w1 ⟨rfl, rfl⟩
  go_wp2_with fail
  refine (HD.out _).mono ?_
  rintro e w1 ⟨rfl, rfl⟩
  go_wp2_with fail
  refine (awake_any _).mono ?_
  rintro e w1 ⟨rfl, k1⟩
  go_wp2
  exact bodyPost_ret (results_tmp rfl _ _ _) rfl ⟨rfl, k1⟩
set_option maxHeartbeats 4000000 in
set_option maxRecDepth 100000 in
theorem steps_e (a b n : Nat) (s : Int) (ok : Bool) (w : World) (H1 : NextTells a n) (H2 : StepsTell 20 a b s ok) (H3 : StepsTell 21 a b s ok) (hx : FloatKind.f64.format.order a a = some .eq) (H4 : SameTells a 9218868437227405312 false) (H5 : StepsTell 20 a n 1 true) (H6 : Tells a n (-1)) (H7 : Tells a b 0) :
    Calls Try.prog 6 #[.int .u64 a, .int .u64 b] w fun e w' => e = .returned (.bool true) ∧ Below w.heap.size w w' := by
  have HA := Lib.hid H1
  have HB := Lib.hid H2
  have HC := Lib.hid H3
  clear H1 H2 H3
  have HD := Lib.hid H4
  have HE := Lib.hid H5
  have HF := Lib.hid H6
  have HG := Lib.hid H7
  clear H4 H5 H6 H7
  go_enter Try.func6, Try.ntmps6
  go_wp2_with fail
  refine (of_any a _).mono ?_
  rintro e w1 ⟨rfl, rfl⟩
  go_wp2_with fail
  refine (of_any b _).mono ?_
  rintro e w1 ⟨rfl, rfl⟩
  go_wp2_with fail
  refine (HA.out _).mono ?_
  rintro e w1 ⟨rfl, rfl⟩
  go_wp2_with fail
  refine (HB.out _).mono ?_
  rintro e w1 ⟨rfl, rfl⟩
  go_wp2_with fail
  refine (HC.out _).mono ?_
  rintro e w1 ⟨rfl, rfl⟩
  go_wp2_with fail
  refine (of_any 9218868437227405312 _).mono ?_
  rintro e w1 ⟨rfl, rfl⟩
  go_wp2_with fail
  refine (HD.out _).mono ?_
  rintro e w1 ⟨rfl, rfl⟩
  go_wp2_with fail
  refine (HE.out _).mono ?_
  rintro e w1 ⟨rfl, rfl⟩
  go_wp2_with fail
  refine (HF.out _).mono ?_
  rintro e w1 ⟨rfl, rfl⟩
  go_wp2_with fail
  refine (HG.out _).mono ?_
  rintro e w1 ⟨rfl, rfl⟩
  go_wp2_with fail
  refine (awake_any _).mono ?_
  rintro e w1 ⟨rfl, k1⟩
  go_wp2
  exact bodyPost_ret (results_tmp rfl _ _ _) rfl ⟨rfl, k1⟩
set_option maxHeartbeats 4000000 in
set_option maxRecDepth 100000 in
theorem steps_g (a b n : Nat) (s : Int) (ok : Bool) (w : World) (H1 : NextTells a n) (H2 : StepsTell 20 a b s ok) (H3 : StepsTell 21 a b s ok) (hx : FloatKind.f64.format.order a a = some .eq) (H4 : SameTells a 9218868437227405312 false) (H5 : StepsTell 20 a n 1 true) (H6 : Tells a n (-1)) (H7 : Tells a b 1) :
    Calls Try.prog 6 #[.int .u64 a, .int .u64 b] w fun e w' => e = .returned (.bool true) ∧ Below w.heap.size w w' := by
  have HA := Lib.hid H1
  have HB := Lib.hid H2
  have HC := Lib.hid H3
  clear H1 H2 H3
  have HD := Lib.hid H4
  have HE := Lib.hid H5
  have HF := Lib.hid H6
  have HG := Lib.hid H7
  clear H4 H5 H6 H7
  go_enter Try.func6, Try.ntmps6
  go_wp2_with fail
  refine (of_any a _).mono ?_
  rintro e w1 ⟨rfl, rfl⟩
  go_wp2_with fail
  refine (of_any b _).mono ?_
  rintro e w1 ⟨rfl, rfl⟩
  go_wp2_with fail
  refine (HA.out _).mono ?_
  rintro e w1 ⟨rfl, rfl⟩
  go_wp2_with fail
  refine (HB.out _).mono ?_
  rintro e w1 ⟨rfl, rfl⟩
  go_wp2_with fail
  refine (HC.out _).mono ?_
  rintro e w1 ⟨rfl, rfl⟩
  go_wp2_with fail
  refine (of_any 9218868437227405312 _).mono ?_
  rintro e w1 ⟨rfl, rfl⟩
  go_wp2_with fail
  refine (HD.out _).mono ?_
  rintro e w1 ⟨rfl, rfl⟩
  go_wp2_with fail
  refine (HE.out _).mono ?_
  rintro e w1 ⟨rfl, rfl⟩
  go_wp2_with fail
  refine (HF.out _).mono ?_
  rintro e w1 ⟨rfl, rfl⟩
  go_wp2_with fail
  refine (HG.out _).mono ?_
  rintro e w1 ⟨rfl, rfl⟩
  go_wp2_with fail
  refine (awake_any _).mono ?_
  rintro e w1 ⟨rfl, k1⟩
  go_wp2
  exact bodyPost_ret (results_tmp rfl _ _ _) rfl ⟨rfl, k1⟩
set_option maxHeartbeats 4000000 in
set_option maxRecDepth 100000 in
theorem steps_le (a b n : Nat) (s : Int) (ok : Bool) (w : World) (H1 : NextTells a n) (H2 : StepsTell 20 a b s ok) (H3 : StepsTell 21 a b s ok) (hx : FloatKind.f64.format.order a a = some .eq) (H4 : SameTells a 9218868437227405312 false) (H5 : StepsTell 20 a n 1 true) (H6 : Tells a n (-1)) (H7 : Tells a b (-1)) (H8 : Tells n b (0)) :
    Calls Try.prog 6 #[.int .u64 a, .int .u64 b] w fun e w' => e = .returned (.bool true) ∧ Below w.heap.size w w' := by
  have HA := Lib.hid H1
  have HB := Lib.hid H2
  have HC := Lib.hid H3
  clear H1 H2 H3
  have HD := Lib.hid H4
  have HE := Lib.hid H5
  have HF := Lib.hid H6
  have HG := Lib.hid H7
  have HH := Lib.hid H8
  clear H4 H5 H6 H7 H8
  go_enter Try.func6, Try.ntmps6
  go_wp2_with fail
  refine (of_any a _).mono ?_
  rintro e w1 ⟨rfl, rfl⟩
  go_wp2_with fail
  refine (of_any b _).mono ?_
  rintro e w1 ⟨rfl, rfl⟩
  go_wp2_with fail
  refine (HA.out _).mono ?_
  rintro e w1 ⟨rfl, rfl⟩
  go_wp2_with fail
  refine (HB.out _).mono ?_
  rintro e w1 ⟨rfl, rfl⟩
  go_wp2_with fail
  refine (HC.out _).mono ?_
  rintro e w1 ⟨rfl, rfl⟩
  go_wp2_with fail
  refine (of_any 9218868437227405312 _).mono ?_
  rintro e w1 ⟨rfl, rfl⟩
  go_wp2_with fail
  refine (HD.out _).mono ?_
  rintro e w1 ⟨rfl, rfl⟩
  go_wp2_with fail
  refine (HE.out _).mono ?_
  rintro e w1 ⟨rfl, rfl⟩
  go_wp2_with fail
  refine (HF.out _).mono ?_
  rintro e w1 ⟨rfl, rfl⟩
  go_wp2_with fail
  refine (HG.out _).mono ?_
  rintro e w1 ⟨rfl, rfl⟩
  go_wp2_with fail
  refine (HH.out _).mono ?_
  rintro e w1 ⟨rfl, rfl⟩
  go_wp2_with fail
  refine (awake_any _).mono ?_
  rintro e w1 ⟨rfl, k1⟩
  go_wp2
  exact bodyPost_ret (results_tmp rfl _ _ _) rfl ⟨rfl, k1⟩
set_option maxHeartbeats 4000000 in
set_option maxRecDepth 100000 in
theorem steps_ll (a b n : Nat) (s : Int) (ok : Bool) (w : World) (H1 : NextTells a n) (H2 : StepsTell 20 a b s ok) (H3 : StepsTell 21 a b s ok) (hx : FloatKind.f64.format.order a a = some .eq) (H4 : SameTells a 9218868437227405312 false) (H5 : StepsTell 20 a n 1 true) (H6 : Tells a n (-1)) (H7 : Tells a b (-1)) (H8 : Tells n b (-1)) :
    Calls Try.prog 6 #[.int .u64 a, .int .u64 b] w fun e w' => e = .returned (.bool true) ∧ Below w.heap.size w w' := by
  have HA := Lib.hid H1
  have HB := Lib.hid H2
  have HC := Lib.hid H3
  clear H1 H2 H3
  have HD := Lib.hid H4
  have HE := Lib.hid H5
  have HF := Lib.hid H6
  have HG := Lib.hid H7
  have HH := Lib.hid H8
  clear H4 H5 H6 H7 H8
  go_enter Try.func6, Try.ntmps6
  go_wp2_with fail
  refine (of_any a _).mono ?_
  rintro e w1 ⟨rfl, rfl⟩
  go_wp2_with fail
  refine (of_any b _).mono ?_
  rintro e w1 ⟨rfl, rfl⟩
  go_wp2_with fail
  refine (HA.out _).mono ?_
  rintro e w1 ⟨rfl, rfl⟩
  go_wp2_with fail
  refine (HB.out _).mono ?_
  rintro e w1 ⟨rfl, rfl⟩
  go_wp2_with fail
  refine (HC.out _).mono ?_
  rintro e w1 ⟨rfl, rfl⟩
  go_wp2_with fail
  refine (of_any 9218868437227405312 _).mono ?_
  rintro e w1 ⟨rfl, rfl⟩
  go_wp2_with fail
  refine (HD.out _).mono ?_
  rintro e w1 ⟨rfl, rfl⟩
  go_wp2_with fail
  refine (HE.out _).mono ?_
  rintro e w1 ⟨rfl, rfl⟩
  go_wp2_with fail
  refine (HF.out _).mono ?_
  rintro e w1 ⟨rfl, rfl⟩
  go_wp2_with fail
  refine (HG.out _).mono ?_
  rintro e w1 ⟨rfl, rfl⟩
  go_wp2_with fail
  refine (HH.out _).mono ?_
  rintro e w1 ⟨rfl, rfl⟩
  go_wp2_with fail
  refine (awake_any _).mono ?_
  rintro e w1 ⟨rfl, k1⟩
  go_wp2
  exact bodyPost_ret (results_tmp rfl _ _ _) rfl ⟨rfl, k1⟩
theorem steps_walk (a b : Nat) (w : World) (ha : a < 18446744073709551616) (hb : b < 18446744073709551616) : Calls Try.prog 6 #[.int .u64 a, .int .u64 b] w fun e w' => e = .returned (.bool true) ∧ Below w.heap.size w w' := by
  have N : NextTells a (next a) := fun w => next_any a w ha
  have S1 : StepsTell 20 a b (stp a b) (stok a b) := fun w => steps_any a b w ha hb
  have S2 : StepsTell 21 a b (stp a b) (stok a b) := fun w => rsteps_any a b w ha hb
  have Sm : ∀ z, same a 9218868437227405312 = z → SameTells a 9218868437227405312 z := fun z hz w => by
    have := same_any a 9218868437227405312 w
    rw [hz] at this
    exact this
  have Sx : next a = a → SameTells (next a) a true := fun hz w => by
    have := same_any (next a) a w
    rw [hz, same_self] at this
    rw [hz]
    exact this
  by_cases hn : nan a
  · have hx : ¬ FloatKind.f64.format.order a a = some .eq := by rw [order_none a a hn]; simp
    exact steps_nan a b _ _ _ w N S1 S2 hx (Sx (next_stay a (.inl hn)))
  · have hx := order_eq a a rfl hn
    by_cases hi : inf a = true
    · exact steps_inf a b _ _ _ w N S1 S2 hx (Sx (next_stay a (.inr hi))) (Sm _ ((same_inf a ha hn).trans hi))
    · obtain ⟨n1, n2, n3⟩ := next_up a hn hi
      have hf : same a 9218868437227405312 = false := by rw [same_inf a ha hn]; simpa using hi
      have H5 : StepsTell 20 a (next a) 1 true := fun w => by
        have := steps_any a (next a) w ha n1
        rw [(step_one a hn hi).1, (step_one a hn hi).2] at this
        exact this
      have H6 := tells a (next a) (-1) ha n1 (cmp3_lt (by omega))
      rcases Int.lt_trichotomy (key a) (key b) with h | h | h
      · have H7 := tells a b (-1) ha hb (cmp3_lt h)
        rcases Int.lt_trichotomy (key (next a)) (key b) with h' | h' | h'
        · exact steps_ll a b _ _ _ w N S1 S2 hx (Sm _ hf) H5 H6 H7 (tells _ _ _ n1 hb (cmp3_lt h'))
        · exact steps_le a b _ _ _ w N S1 S2 hx (Sm _ hf) H5 H6 H7 (tells _ _ _ n1 hb (cmp3_eq h'))
        · omega
      · exact steps_e a b _ _ _ w N S1 S2 hx (Sm _ hf) H5 H6 (tells a b _ ha hb (cmp3_eq h))
      · exact steps_g a b _ _ _ w N S1 S2 hx (Sm _ hf) H5 H6 (tells a b _ ha hb (cmp3_gt h))
theorem steps_int (a b : Int) (w : World) (ha : (Lit.int .u64 a).wf = true) (hb : (Lit.int .u64 b).wf = true) : Calls Try.prog 6 #[.int .u64 a, .int .u64 b] w fun e w' => e = .returned (.bool true) ∧ Below w.heap.size w w' := by
  have h1 := Go.bounds_u64 ha
  have h2 := Go.bounds_u64 hb
  obtain ⟨x, rfl⟩ := Int.eq_ofNat_of_zero_le h1.1
  obtain ⟨y, rfl⟩ := Int.eq_ofNat_of_zero_le h2.1
  exact steps_walk x y w (by omega) (by omega)
end Go.Proofs.Ytagjgofnaplefaa.Wei
