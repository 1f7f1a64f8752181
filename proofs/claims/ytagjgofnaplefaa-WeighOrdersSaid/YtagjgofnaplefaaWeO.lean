/- What must come, whatever the arguments are, walked. Conditions: none. -/
import Derived.Test.YtagjgofnaplefaaWeN
namespace Go.Proofs.Ytagjgofnaplefaa.Wei
open Go.RowKit
open Flo
open Blk (nats)
/-- The five floats. -/
def five : List Nat := [9221120237041090560, 9218868437227405312, 0, 9223372036854775808, 18442240474082181120]
theorem five_few : few (kat five) (List.range 5) = [4, 3, 2, 1, 0] := by decide +kernel
theorem five_least : leastOf five 5 = 4 := by decide +kernel
theorem awake_cmp : cmp3 (key 9223372036854775808) (key 0) = -1 := by decide +kernel
theorem awake_key : key 9223372036854775808 = -1 := by decide +kernel
theorem awake_same : same (next 9223372036854775808) 0 := by decide +kernel
/-- The cells of the five words. -/
def fiveCells : List Value := [.int .u64 9221120237041090560, .int .u64 9218868437227405312, .int .u64 0, .int .u64 9223372036854775808, .int .u64 18442240474082181120]
theorem five_words (w : World) : Words (w.alloc (.cells fiveCells.toArray 22)) (.slice (some ⟨w.heap.size, 0, none⟩) 5 5) five := by
  refine ⟨_, 5, rfl, by decide, fun i a hi => ⟨_, rfl, ?_⟩, by decide⟩
  have h := (Blk.new w fiveCells 22).cell i
  have e : ((⟨w.heap.size, 0, none⟩ : Addr).add i) = ⟨w.heap.size, i, none⟩ := by by_cases h0 : i = 0 <;> simp [Addr.add, h0]
  rw [e, h]
  match i, hi with
  | 0, hi => obtain rfl := Option.some.inj hi; rfl
  | 1, hi => obtain rfl := Option.some.inj hi; rfl
  | 2, hi => obtain rfl := Option.some.inj hi; rfl
  | 3, hi => obtain rfl := Option.some.inj hi; rfl
  | 4, hi => obtain rfl := Option.some.inj hi; rfl
  | n + 5, hi => simp [five] at hi
/-- The cells of the five places. -/
def placeCells : List Value := [.int .i64 4, .int .i64 3, .int .i64 2, .int .i64 1, .int .i64 0]
theorem five_places (w : World) : Nums (w.alloc (.cells placeCells.toArray 3)) (.slice (some ⟨w.heap.size, 0, none⟩) 5 5) [4, 3, 2, 1, 0] := by
  refine ⟨_, 5, rfl, by decide, fun i a hi => ⟨_, rfl, ?_⟩⟩
  have h := (Blk.new w placeCells 3).cell i
  rw [h]
  match i, hi with
  | 0, hi => obtain rfl := Option.some.inj hi; rfl
  | 1, hi => obtain rfl := Option.some.inj hi; rfl
  | 2, hi => obtain rfl := Option.some.inj hi; rfl
  | 3, hi => obtain rfl := Option.some.inj hi; rfl
  | 4, hi => obtain rfl := Option.some.inj hi; rfl
  | n + 5, hi => simp at hi
theorem few_length (K : Nat → Int) (q : List Nat) : (few K q).length = q.length := insOuter_length _ _ _ _ _
set_option maxHeartbeats 4000000 in
set_option maxRecDepth 100000 in
theorem awake_any (w : World) : Calls Try.prog 9 #[] w fun e w' => e = .returned (.bool true) ∧ Below w.heap.size w w' := by
  have k0 : Below w.heap.size w (w.alloc (.cells fiveCells.toArray 22)) := (Below.refl _ _).alloc (Nat.le_refl _) _
  have hcall := floats_any _ five _ (five_words w)
  have HC := Lib.hid hcall
  clear hcall
  go_enter Try.func9, Try.ntmps9
  go_wp2_with fail
  refine HC.out.mono ?_
  rintro e w1 ⟨v, rfl, row, k1⟩
  have k2 : Below w.heap.size w w1 := k0.trans (k1.mono k0.size)
  have hf := row.flos (by decide) (by decide)
  have HF := Lib.hid hf
  clear hf row k0 k1 HC
  have hcall := order_of few v five w1 HF.out (sorts_few 5 (by decide)) few_length
  have HC := Lib.hid hcall
  clear hcall
  go_wp2_with fail
  refine HC.out.mono ?_
  rintro e w2 ⟨u, rfl, hnum, k3⟩
  have k4 : Below w.heap.size w w2 := k2.trans (k3.mono k2.size)
  have hnum' : Nums (w2.alloc (.cells placeCells.toArray 3)) u [4, 3, 2, 1, 0] := by
    rw [show five.length = 5 from rfl, five_few] at hnum
    exact hnum.below ((Below.refl _ _).alloc (Nat.le_refl _) _)
  have hcall := numbers_any u _ _ _ _ hnum' (five_places w2)
  rw [decide_eq_true rfl] at hcall
  have k5 : Below w.heap.size w (w2.alloc (.cells placeCells.toArray 3)) := k4.alloc k4.size _
  have hf2 := HF.out.below (k3.trans ((Below.refl _ _).alloc (k3.size) (.cells placeCells.toArray 3)))
  have HF2 := Lib.hid hf2
  have HC := Lib.hid hcall
  clear hcall hnum hnum' k2 k3 k4 HF hf2
  go_wp2_with fail
  refine HC.out.mono ?_
  rintro e w3 ⟨rfl, k6⟩
  have k7 : Below w.heap.size w w3 := k5.trans (k6.mono k5.size)
  have hf3 := HF2.out.below k6
  have hcall := least_any v five w3 hf3
  rw [show five.length = 5 from rfl, five_least] at hcall
  have HC := Lib.hid hcall
  clear hcall k5 k6 HF2 hf3
  go_wp2_with fail
  refine HC.out.mono ?_
  rintro e w4 ⟨rfl, rfl⟩
  clear HC
  go_wp2_with fail
  refine (of_any 9223372036854775808 _).mono ?_
  rintro e w4 ⟨rfl, rfl⟩
  go_wp2_with fail
  refine (of_any 0 _).mono ?_
  rintro e w4 ⟨rfl, rfl⟩
  go_wp2_with fail
  refine (compare_any 9223372036854775808 0 _ (by decide) (by decide)).mono ?_
  rintro e w4 ⟨rfl, rfl⟩
  rw [awake_cmp]
  go_wp2_with fail
  refine (of_any 9223372036854775808 _).mono ?_
  rintro e w4 ⟨rfl, rfl⟩
  go_wp2_with fail
  refine (key_any 9223372036854775808 _ (by decide)).mono ?_
  rintro e w4 ⟨rfl, rfl⟩
  rw [awake_key]
  go_wp2_with fail
  refine (of_any 9223372036854775808 _).mono ?_
  rintro e w4 ⟨rfl, rfl⟩
  go_wp2_with fail
  refine (next_any 9223372036854775808 _ (by decide)).mono ?_
  rintro e w4 ⟨rfl, rfl⟩
  go_wp2_with fail
  refine (of_any 0 _).mono ?_
  rintro e w4 ⟨rfl, rfl⟩
  go_wp2_with fail
  refine (same_any (next 9223372036854775808) 0 _).mono ?_
  rintro e w4 ⟨rfl, rfl⟩
  rw [awake_same]
  go_wp2
  exact bodyPost_ret (results_tmp rfl _ _ _) rfl ⟨rfl, k7⟩
end Go.Proofs.Ytagjgofnaplefaa.Wei
