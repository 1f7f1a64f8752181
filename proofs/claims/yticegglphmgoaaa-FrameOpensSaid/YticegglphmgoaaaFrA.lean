/- Frames: whether they may be, their ends as bytes. Conditions: fewer than 2^39 bytes. -/
import Derived.Test.YticegglphmgoaaaHmG
import Derived.Test.YticegglphmgoaaaDep
namespace Go.Proofs.Yticegglphmgoaaa.Sha
open Go.RowKit
open Blk (nats)
/-- A frame. -/
abbrev fv (f t : Int) (b g : List UInt8) : Value := .agg #[.int .i64 f, .int .i64 t, .string ⟨b.toArray⟩, .string ⟨g.toArray⟩]
/-- A frame's cells. -/
abbrev fc (f t : Int) (b g : List UInt8) : List Value := [.int .i64 f, .int .i64 t, .string ⟨b.toArray⟩, .string ⟨g.toArray⟩]
/-- May it be? -/
def may (f t : Int) (n : Nat) : Prop := 1 ≤ f ∧ f ≤ 255 ∧ 1 ≤ t ∧ t ≤ 255 ∧ n ≤ 8192
instance (f t : Int) (n : Nat) : Decidable (may f t n) := by unfold may; infer_instance
set_option maxHeartbeats 4000000 in
set_option maxRecDepth 100000 in
theorem may_yes (f t : Int) (b g : List UInt8) (w : World) (h : may f t b.length) : Calls Try.prog 56 #[fv f t b g] w fun e w' => e = .returned (.bool true) ∧ Below w.heap.size w w' := by
  obtain ⟨h1, h2, h3, h4, h5⟩ := h
  have d1 : decide (1 ≤ f) = true := decide_eq_true h1
  have d2 : decide (f ≤ 255) = true := decide_eq_true h2
  have d3 : decide (1 ≤ t) = true := decide_eq_true h3
  have d4 : decide (t ≤ 255) = true := decide_eq_true h4
  have d5 : decide ((b.length : Int) ≤ 8192) = true := decide_eq_true (by omega)
  go_enter Try.func56, Try.ntmps56
  go_wp2
  exact bodyPost_ret (results_tmp rfl _ _ _) rfl ⟨rfl, (Below.refl _ _).alloc (Nat.le_refl _) _⟩
set_option maxHeartbeats 4000000 in
set_option maxRecDepth 100000 in
theorem may_no (f t : Int) (b g : List UInt8) (w : World) (h : ¬ may f t b.length) : Calls Try.prog 56 #[fv f t b g] w fun e w' => e = .returned (.bool false) ∧ Below w.heap.size w w' := by
  by_cases h1 : 1 ≤ f
  · have d1 : decide (1 ≤ f) = true := decide_eq_true h1
    by_cases h2 : f ≤ 255
    · have d2 : decide (f ≤ 255) = true := decide_eq_true h2
      by_cases h3 : 1 ≤ t
      · have d3 : decide (1 ≤ t) = true := decide_eq_true h3
        by_cases h4 : t ≤ 255
        · have d4 : decide (t ≤ 255) = true := decide_eq_true h4
          have h5 : ¬ b.length ≤ 8192 := fun h5 => h ⟨h1, h2, h3, h4, h5⟩
          have d5 : decide ((b.length : Int) ≤ 8192) = false := decide_eq_false (by omega)
          clear h
          go_enter Try.func56, Try.ntmps56
          go_wp2
          exact bodyPost_ret (results_tmp rfl _ _ _) rfl ⟨rfl, (Below.refl _ _).alloc (Nat.le_refl _) _⟩
        · have d4 : decide (t ≤ 255) = false := decide_eq_false h4
          clear h
          go_enter Try.func56, Try.ntmps56
          go_wp2
          exact bodyPost_ret (results_tmp rfl _ _ _) rfl ⟨rfl, (Below.refl _ _).alloc (Nat.le_refl _) _⟩
      · have d3 : decide (1 ≤ t) = false := decide_eq_false h3
        clear h
        go_enter Try.func56, Try.ntmps56
        go_wp2
        exact bodyPost_ret (results_tmp rfl _ _ _) rfl ⟨rfl, (Below.refl _ _).alloc (Nat.le_refl _) _⟩
    · have d2 : decide (f ≤ 255) = false := decide_eq_false h2
      clear h
      go_enter Try.func56, Try.ntmps56
      go_wp2
      exact bodyPost_ret (results_tmp rfl _ _ _) rfl ⟨rfl, (Below.refl _ _).alloc (Nat.le_refl _) _⟩
  · have d1 : decide (1 ≤ f) = false := decide_eq_false h1
    clear h
    go_enter Try.func56, Try.ntmps56
    go_wp2
    exact bodyPost_ret (results_tmp rfl _ _ _) rfl ⟨rfl, (Below.refl _ _).alloc (Nat.le_refl _) _⟩
/-- Two ends as bytes. -/
def ends2 (f t : Int) : List UInt8 := endsOf (f % 256).toNat (t % 256).toNat
attribute [local irreducible] endsOf
set_option maxHeartbeats 4000000 in
set_option maxRecDepth 100000 in
theorem ends_any (f t : Int) (b g : List UInt8) (w : World) : Calls Try.prog 57 #[fv f t b g] w fun e w' => e = .returned (.string ⟨(ends2 f t).toArray⟩) ∧ Below w.heap.size w w' := by
  have k0 : Below w.heap.size w (w.alloc (.cells #[.int .i64 f, .int .i64 t, .string ⟨b.toArray⟩, .string ⟨g.toArray⟩] 46)) := (Below.refl _ _).alloc (Nat.le_refl _) _
  generalize hW : w.alloc (.cells #[.int .i64 f, .int .i64 t, .string ⟨b.toArray⟩, .string ⟨g.toArray⟩] 46) = W at k0
  have k1 : Below w.heap.size w (W.alloc (.cells #[.int .u8 (f % 256), .int .u8 (t % 256)] 5)) := k0.alloc k0.size _
  subst hW
  go_enter Try.func57, Try.ntmps57
  go_wp2_with (first | (refine text_two kit rfl (.tmp 9) rfl (w.heap.size + 1) 2 (f % 256) (t % 256) rfl (by simp) (by simp) (by omega) (by omega) (by omega) (by omega) ?_) | fail)
  exact bodyPost_ret (results_tmp rfl _ _ _) rfl ⟨rfl, k1⟩
theorem end_yes (n : Int) (w : World) (h1 : 1 ≤ n) (h2 : n ≤ 255) : Calls Try.prog 58 #[.int .i64 n] w fun e w' => e = .returned (.bool true) ∧ w = w' := by
  have d1 : decide (1 ≤ n) = true := decide_eq_true h1
  have d2 : decide (n ≤ 255) = true := decide_eq_true h2
  go_enter Try.func58, Try.ntmps58
  go_wp2
  exact bodyPost_ret (results_tmp rfl _ _ _) rfl ⟨rfl, rfl⟩
theorem end_no (n : Int) (w : World) (h : ¬ (1 ≤ n ∧ n ≤ 255)) : Calls Try.prog 58 #[.int .i64 n] w fun e w' => e = .returned (.bool false) ∧ w = w' := by
  by_cases h1 : 1 ≤ n
  · have d1 : decide (1 ≤ n) = true := decide_eq_true h1
    have d2 : decide (n ≤ 255) = false := decide_eq_false (fun h2 => h ⟨h1, h2⟩)
    clear h
    go_enter Try.func58, Try.ntmps58
    go_wp2
    exact bodyPost_ret (results_tmp rfl _ _ _) rfl ⟨rfl, rfl⟩
  · have d1 : decide (1 ≤ n) = false := decide_eq_false h1
    clear h
    go_enter Try.func58, Try.ntmps58
    go_wp2
    exact bodyPost_ret (results_tmp rfl _ _ _) rfl ⟨rfl, rfl⟩
end Go.Proofs.Yticegglphmgoaaa.Sha
