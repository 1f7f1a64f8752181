/- Audits: comparisons of numbers and stamps, of texts, of states that are none, walked. Conditions: those that are named. -/
import Derived.Test.YthkibccfdpbojaaProg
import Derived.Test.YthkibccfdpbojaaBlk
import Derived.Test.YthkibccfdpbojaaCls
import Derived.Test.YthkibccfdpbojaaDep
import Derived.BigQuiet
import Derived.Deep.Cut
import Derived.Laws.ResultCell
namespace Go.Proofs.Ythkibccfdpbojaa.Au
open Go.RowKit
/-- How two numbers stand. -/
def cmp3 (x y : Int) : Int := if x < y then -1 else if x > y then 1 else 0
set_option maxHeartbeats 4000000 in
theorem isnani_any (x : Int) (w : World) : Calls Try.prog 56 #[.int .i64 x] w fun e w' => e = .returned (.bool false) ∧ w = w' := by
  go_enter Try.func56, Try.ntmps56
  go_wp2
  exact bodyPost_ret (results_tmp rfl _ _ _) rfl ⟨rfl, rfl⟩
set_option maxHeartbeats 4000000 in
theorem cmp_any (x y : Int) (w : World) : Calls Try.prog 38 #[.int .i64 x, .int .i64 y] w fun e w' => e = .returned (.int .i64 (cmp3 x y)) ∧ w = w' := by
  unfold cmp3
  by_cases h1 : x < y
  · rw [if_pos h1]
    have d1 : decide (x < y) = true := decide_eq_true h1
    go_enter Try.func38, Try.ntmps38
    go_wp2_with fail
    refine (isnani_any x _).mono ?_
    rintro e w1 ⟨rfl, rfl⟩
    go_wp2_with fail
    refine (isnani_any y _).mono ?_
    rintro e w1 ⟨rfl, rfl⟩
    go_wp2
    exact bodyPost_ret (results_tmp rfl _ _ _) rfl ⟨rfl, rfl⟩
  · rw [if_neg h1]
    have d1 : decide (x < y) = false := decide_eq_false h1
    by_cases h2 : x > y
    · rw [if_pos h2]
      have d2 : decide (x > y) = true := decide_eq_true h2
      go_enter Try.func38, Try.ntmps38
      go_wp2_with fail
      refine (isnani_any x _).mono ?_
      rintro e w1 ⟨rfl, rfl⟩
      go_wp2_with fail
      refine (isnani_any y _).mono ?_
      rintro e w1 ⟨rfl, rfl⟩
      go_wp2
      exact bodyPost_ret (results_tmp rfl _ _ _) rfl ⟨rfl, rfl⟩
    · rw [if_neg h2]
      have d2 : decide (x > y) = false := decide_eq_false h2
      go_enter Try.func38, Try.ntmps38
      go_wp2_with fail
      refine (isnani_any x _).mono ?_
      rintro e w1 ⟨rfl, rfl⟩
      go_wp2_with fail
      refine (isnani_any y _).mono ?_
      rintro e w1 ⟨rfl, rfl⟩
      go_wp2
      exact bodyPost_ret (results_tmp rfl _ _ _) rfl ⟨rfl, rfl⟩
set_option maxHeartbeats 4000000 in
set_option maxRecDepth 100000 in
theorem or_any (g : Nat) (x y : Int) (w : World) (hg : Blk.Is w g [.int .i64 x, .int .i64 y] 3) : Calls Try.prog 37 #[.slice (some ⟨g, 0, none⟩) 2 2] w fun e w' => e = .returned (.int .i64 (if x = 0 then y else x)) ∧ w = w' := by
  have c0 := hg.cell 0
  have c1 := hg.cell 1
  simp only [List.getElem?_cons_zero, List.getElem?_cons_succ] at c0 c1
  clear hg
  by_cases hx : x = 0
  · subst hx
    rw [if_pos rfl]
    go_enter Try.func37, Try.ntmps37
    go_wp2_with fail
    go_loopw [5, 8] (fun _ vi wr => ∃ k : Nat, vi = .int .i64 k ∧ k ≤ 2 ∧ (k = 2 → y = 0) ∧ wr = w) (fun _ i _ => 2 - (intOf i).toNat)
    case atStart => exact ⟨0, rfl, by omega, fun h => by omega, rfl⟩
    case round =>
      obtain ⟨k, rfl, hk, hy, rfl⟩ := hrel
      match k, hk with
      | 0, _ =>
        go_wp2_with fail
        go_roundw
        case rel => exact ⟨1, by go_num, by omega, fun h => by omega, by trivial⟩
        case measure => simp [intOf]
      | 1, _ =>
        by_cases hy0 : y = 0
        · subst hy0
          go_wp2_with fail
          go_roundw
          case rel => exact ⟨2, by go_num, by omega, by simp, by trivial⟩
          case measure => simp [intOf]
        · have hn : (y != 0) = true := by simp [hy0]
          go_wp2
          exact bodyPost_ret (results_tmp rfl _ _ _) rfl ⟨rfl, rfl⟩
      | 2, _ =>
        have := hy rfl
        subst this
        go_wp2
        exact bodyPost_ret (results_tmp rfl _ _ _) rfl ⟨rfl, rfl⟩
      | k + 3, h => omega
  · rw [if_neg hx]
    have hn : (x != 0) = true := by simp [hx]
    go_enter Try.func37, Try.ntmps37
    go_wp2_with fail
    go_loopw [5, 8] (fun _ vi wr => vi = .int .i64 0 ∧ wr = w) (fun _ _ _ => 0)
    case atStart => exact ⟨rfl, rfl⟩
    case round =>
      obtain ⟨rfl, rfl⟩ := hrel
      go_wp2
      exact bodyPost_ret (results_tmp rfl _ _ _) rfl ⟨rfl, rfl⟩
/-- Which of two stamps is later. -/
def cmpS (a b c d : Int) : Int := if cmp3 a c = 0 then cmp3 b d else cmp3 a c
set_option maxHeartbeats 4000000 in
set_option maxRecDepth 100000 in
theorem compare_any (a b c d : Int) (w : World) : Calls Try.prog 16 #[.agg #[.int .i64 a, .int .i64 b], .agg #[.int .i64 c, .int .i64 d]] w fun e w' => e = .returned (.int .i64 (cmpS a b c d)) ∧ Below w.heap.size w w' := by
  have HS : Hid (cmpS a b c d = if cmp3 a c = 0 then cmp3 b d else cmp3 a c) := Lib.hid rfl
  generalize cmpS a b c d = r at HS
  have H1 := Lib.hid (fun w => cmp_any a c w)
  have H2 := Lib.hid (fun w => cmp_any b d w)
  generalize cmp3 a c = x at H1 HS
  generalize cmp3 b d = y at H2 HS
  have B1 : Blk.Is ((w.alloc (.cells #[.int .i64 a, .int .i64 b] 24)).alloc (.cells #[.int .i64 c, .int .i64 d] 24)) w.heap.size [.int .i64 a, .int .i64 b] 24 := (Blk.new w [.int .i64 a, .int .i64 b] 24).alloc _
  have B2 : Blk.Is ((w.alloc (.cells #[.int .i64 a, .int .i64 b] 24)).alloc (.cells #[.int .i64 c, .int .i64 d] 24)) (w.heap.size + 1) [.int .i64 c, .int .i64 d] 24 := Blk.new' _ [.int .i64 c, .int .i64 d] 24 _ (by simp)
  have k0 : Below w.heap.size w ((w.alloc (.cells #[.int .i64 a, .int .i64 b] 24)).alloc (.cells #[.int .i64 c, .int .i64 d] 24)) := ((Below.refl _ _).alloc (Nat.le_refl _) _).alloc (by simp) _
  have HB1 := Lib.hid B1
  have HB2 := Lib.hid B2
  have K0 := Lib.hid k0
  clear B1 B2 k0
  go_enter Try.func16, Try.ntmps16
  go_upto_region 1 with (fail)
  generalize (w.alloc (.cells #[.int .i64 a, .int .i64 b] 24)).alloc (.cells #[.int .i64 c, .int .i64 d] 24) = W at HB1 HB2 K0 ⊢
  have H3 : Hid (∀ h w, Blk.Is w h [.int .i64 x, .int .i64 y] 3 → Calls Try.prog 37 #[.slice (some ⟨h, 0, none⟩) 2 2] w fun e w' => e = .returned (.int .i64 r) ∧ w = w') := Lib.hid (fun h w hg => by
    have := or_any h x y w hg
    rwa [← HS.out] at this)
  refine Dep.region_hang 12 10 [0, 1, 2, 3, 4, 5, 6, 7, 8, 9] [11] 17 _ rfl (by kernel_rfl) (by kernel_rfl) (by kernel_rfl) (by decide) (by decide +kernel) (by decide +kernel) rfl (by kernel_rfl)
    (fun h : Nat => .slice (some ⟨h, 0, none⟩) 2 2) (fun w1 h => Blk.Is w1 h [.int .i64 x, .int .i64 y] 3) (fun z w1 w2 h hb => Blk.Is.below h hb) ?_
  simp only [Dep.sel, List.getElem?_cons_zero, List.getElem?_cons_succ]
  apply Exists.intro
  apply And.intro
  · intro w1 hw1
    have q0 : ∀ z : Cls.Wd (Cls.Kept w1), z.w.cell? ⟨w.heap.size, 0, none⟩ = some (.int .i64 a) := Cls.Wd.cell ((hw1.cell (World.block_lt_of_cell? _ _ (HB1.out.drew.cell 0))).trans (HB1.out.drew.cell 0))
    have q1 : ∀ z : Cls.Wd (Cls.Kept w1), z.w.cell? ⟨w.heap.size, 1, none⟩ = some (.int .i64 b) := Cls.Wd.cell ((hw1.cell (World.block_lt_of_cell? _ _ (HB1.out.drew.cell 1))).trans (HB1.out.drew.cell 1))
    have q2 : ∀ z : Cls.Wd (Cls.Kept w1), z.w.cell? ⟨w.heap.size + 1, 0, none⟩ = some (.int .i64 c) := Cls.Wd.cell ((hw1.cell (World.block_lt_of_cell? _ _ (HB2.out.drew.cell 0))).trans (HB2.out.drew.cell 0))
    have q3 : ∀ z : Cls.Wd (Cls.Kept w1), z.w.cell? ⟨w.heap.size + 1, 1, none⟩ = some (.int .i64 d) := Cls.Wd.cell ((hw1.cell (World.block_lt_of_cell? _ _ (HB2.out.drew.cell 1))).trans (HB2.out.drew.cell 1))
    iterate 4 (go_big_quiet_step (fail))
    go_big_quiet_step ((go_at_call 38; with_reducible refine Cls.calls_same (H1.out _)))
    iterate 4 (go_big_quiet_step (fail))
    go_big_quiet_step ((go_at_call 38; with_reducible refine Cls.calls_same (H2.out _)))
    exact wpQuiet_nil rfl
  refine ⟨fun w1 hw1 => ?_, ?_⟩
  · refine ⟨w1.heap.size, w1.alloc (.cells #[.int .i64 x, .int .i64 y] 3), ?_, (Below.refl _ _).alloc (Nat.le_refl _) _, Blk.new w1 [.int .i64 x, .int .i64 y] 3⟩
    go_simp
  apply Exists.intro
  apply And.intro
  · intro h w1 hw1 hm
    simp only [Act.put, List.setIfInBounds_toArray, List.set_cons_zero, List.set_cons_succ]
    have HMD := Lib.hid hm
    clear hm
    go_big_quiet_step ((go_at_call 37; with_reducible refine Cls.calls_same (H3.out h _ (HMD.out.below (Cls.Wd.ok _)))))
    exact wpQuiet_nil rfl
  intro h w1 hw1 hm
  have k2 : Below w.heap.size w w1 := K0.out.drew.trans (hw1.mono K0.out.size)
  clear hw1 hm
  go_wp2
  exact bodyPost_ret (results_tmp rfl _ _ _) rfl ⟨rfl, k2⟩
end Go.Proofs.Ythkibccfdpbojaa.Au
