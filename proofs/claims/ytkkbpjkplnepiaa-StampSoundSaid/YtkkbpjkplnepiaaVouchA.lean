/- The closure that counts in stamp.Vouched returns how many of the numbers that were told are not negative and meet a test; for two tests. Conditions: the captured cells hold the slice and the number, the slice's cells hold the numbers, and the list has at most 2^40 numbers. -/
import Derived.Test.YtkkbpjkplnepiaaProg
import Derived.WalkKit
import Derived.Below
import Derived.KernelRfl
import Derived.RowKit3
import Derived.Deep.LoopGhost
import Derived.Deep.QuietTactic
import Derived.BigQuiet
import Derived.WideLaws
import Derived.Lib.Hide
namespace Go.Proofs.Ytkkbpjkplnepiaa.Vou
open Go.RowKit

/-- How many numbers of a list are not negative and meet a test. -/
def cnt (p : Int → Bool) : List Int → Int
  | [] => 0
  | n :: l => (if 0 ≤ n then (if p n = true then 1 else 0) else 0) + cnt p l
theorem cnt_bd (p : Int → Bool) (l : List Int) : 0 ≤ cnt p l ∧ cnt p l ≤ l.length := by
  induction l with
  | nil => simp [cnt]
  | cons n l ih =>
    simp only [cnt, List.length_cons]
    split <;> (try split) <;> omega
theorem cnt_append (p : Int → Bool) (l m : List Int) : cnt p (l ++ m) = cnt p l + cnt p m := by
  induction l with
  | nil => simp [cnt]
  | cons n l ih => simp only [List.cons_append, cnt, ih]; omega
theorem cnt_snoc (p : Int → Bool) (l : List Int) (k : Nat) (h : k < l.length) : cnt p (l.take (k + 1)) = cnt p (l.take k) + (if 0 ≤ l.getD k 0 then (if p (l.getD k 0) = true then 1 else 0) else 0) := by
  rw [List.take_succ_eq_append_getElem h, cnt_append]
  simp only [cnt, List.getD_eq_getElem?_getD, List.getElem?_eq_getElem h, Option.getD_some]
  omega

set_option maxHeartbeats 400000 in
theorem ge_any (n v : Int) (pv : Addr) (w : World) (h : w.cell? pv = some (.int .i64 v)) :
    Calls Try.prog 21 #[.int .i64 n, .pointer (some pv)] w fun e w' => e = .returned (.bool (decide (v ≤ n))) ∧ w = w' := by
  go_enter Try.func21, Try.ntmps21
  go_wp2
  go_ret
  exact ⟨rfl, rfl⟩
set_option maxHeartbeats 400000 in
theorem le_any (n v : Int) (pv : Addr) (w : World) (h : w.cell? pv = some (.int .i64 v)) :
    Calls Try.prog 22 #[.int .i64 n, .pointer (some pv)] w fun e w' => e = .returned (.bool (decide (n ≤ v))) ∧ w = w' := by
  go_enter Try.func22, Try.ntmps22
  go_wp2
  go_ret
  exact ⟨rfl, rfl⟩
theorem ret_int {k : IntKind} {a b : Int} (h : a = b) : Ending.returned (.int k a) = .returned (.int k b) := by rw [h]

set_option maxHeartbeats 400000 in
theorem count_ge (xs : List Int) (ad : Addr) (cap : Nat) (v : Int) (pt pv : Addr) (w : World) (hn : xs.length ≤ 1099511627776)
    (h1 : w.cell? pt = some (.slice (some ad) xs.length cap)) (h2 : w.cell? pv = some (.int .i64 v)) (hc : ∀ j, j < xs.length → w.cell? (ad.add j) = some (.int .i64 (xs.getD j 0))) :
    Calls Try.prog 20 #[.func (.func 21) #[] #[.pointer (some pv)], .pointer (some pt)] w fun e w' => e = .returned (.int .i64 (cnt (fun n => decide (v ≤ n)) xs)) ∧ w = w' := by
  have HC := Lib.hid hc
  clear hc
  go_enter Try.func20, Try.ntmps20
  go_wp2
  go_loop [4, 9] (fun s i => ∃ k : Nat, k ≤ xs.length ∧ i = .int .i64 k ∧ s = .int .i64 (cnt (fun n => decide (v ≤ n)) (xs.take k))) (fun _ i => xs.length - (intOf i).toNat)
  case atStart => exact ⟨0, Nat.zero_le _, rfl, rfl⟩
  case round =>
    obtain ⟨k, hk, rfl, rfl⟩ := hrel
    have hd := cnt_bd (fun n => decide (v ≤ n)) (xs.take k)
    have hl : (xs.take k).length ≤ k := List.length_take_le _ _
    by_cases hlt : k < xs.length
    · have hx := HC.out k hlt
      have HS := Lib.hid (cnt_snoc (fun n => decide (v ≤ n)) xs k hlt)
      generalize xs.getD k 0 = x at hx HS
      go_wp2_with (go_at_call 21; refine (ge_any _ _ _ _ h2).mono ?_; rintro e w' ⟨rfl, rfl⟩)
      all_goals
        go_round
        case rel => exact ⟨k + 1, by omega, by go_num, by rw [HS.out]; first | rw [if_pos ‹0 ≤ x›, if_pos (decide_eq_true ‹v ≤ x›)] | (rw [if_pos ‹0 ≤ x›, if_neg (by simp; omega)]; go_num) | (rw [if_neg ‹¬0 ≤ x›]; go_num)⟩
        case measure => simp [intOf]; omega
    · go_wp2
      go_ret
      exact ⟨ret_int (by rw [List.take_of_length_le (by omega)]), rfl⟩
set_option maxHeartbeats 400000 in
theorem count_le (xs : List Int) (ad : Addr) (cap : Nat) (v : Int) (pt pv : Addr) (w : World) (hn : xs.length ≤ 1099511627776)
    (h1 : w.cell? pt = some (.slice (some ad) xs.length cap)) (h2 : w.cell? pv = some (.int .i64 v)) (hc : ∀ j, j < xs.length → w.cell? (ad.add j) = some (.int .i64 (xs.getD j 0))) :
    Calls Try.prog 20 #[.func (.func 22) #[] #[.pointer (some pv)], .pointer (some pt)] w fun e w' => e = .returned (.int .i64 (cnt (fun n => decide (n ≤ v)) xs)) ∧ w = w' := by
  have HC := Lib.hid hc
  clear hc
  go_enter Try.func20, Try.ntmps20
  go_wp2
  go_loop [4, 9] (fun s i => ∃ k : Nat, k ≤ xs.length ∧ i = .int .i64 k ∧ s = .int .i64 (cnt (fun n => decide (n ≤ v)) (xs.take k))) (fun _ i => xs.length - (intOf i).toNat)
  case atStart => exact ⟨0, Nat.zero_le _, rfl, rfl⟩
  case round =>
    obtain ⟨k, hk, rfl, rfl⟩ := hrel
    have hd := cnt_bd (fun n => decide (n ≤ v)) (xs.take k)
    have hl : (xs.take k).length ≤ k := List.length_take_le _ _
    by_cases hlt : k < xs.length
    · have hx := HC.out k hlt
      have HS := Lib.hid (cnt_snoc (fun n => decide (n ≤ v)) xs k hlt)
      generalize xs.getD k 0 = x at hx HS
      go_wp2_with (go_at_call 22; refine (le_any _ _ _ _ h2).mono ?_; rintro e w' ⟨rfl, rfl⟩)
      all_goals
        go_round
        case rel => exact ⟨k + 1, by omega, by go_num, by rw [HS.out]; first | rw [if_pos ‹0 ≤ x›, if_pos (decide_eq_true ‹x ≤ v›)] | (rw [if_pos ‹0 ≤ x›, if_neg (by simp; omega)]; go_num) | (rw [if_neg ‹¬0 ≤ x›]; go_num)⟩
        case measure => simp [intOf]; omega
    · go_wp2
      go_ret
      exact ⟨ret_int (by rw [List.take_of_length_le (by omega)]), rfl⟩
end Go.Proofs.Ytkkbpjkplnepiaa.Vou
