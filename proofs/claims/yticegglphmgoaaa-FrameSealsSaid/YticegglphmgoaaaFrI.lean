/- The laws on sealing and opening frames, walked. No conditions but those that are named. -/
import Derived.Test.YticegglphmgoaaaFrH
namespace Go.Proofs.Yticegglphmgoaaa.Sha
open Go.RowKit
open Blk (nats)
attribute [local irreducible] endsOf ends2 hmac hkey tagOf bytesOf
set_option maxHeartbeats 4000000 in
set_option maxRecDepth 100000 in
theorem frameOpens_any (a : ByteArray) (f t : Int) (b g : ByteArray) (w : World) : Calls Try.prog 11 #[.string a, .agg #[.int .i64 f, .int .i64 t, .string b, .string g]] w fun e w' => e = .returned (.bool true) ∧ Below w.heap.size w w' := by
  obtain ⟨s, rfl⟩ : ∃ s : List UInt8, a = ⟨s.toArray⟩ := ⟨a.data.toList, rfl⟩
  obtain ⟨b, rfl⟩ : ∃ s : List UInt8, b = ⟨s.toArray⟩ := ⟨b.data.toList, rfl⟩
  obtain ⟨g, rfl⟩ : ∃ s : List UInt8, g = ⟨s.toArray⟩ := ⟨g.data.toList, rfl⟩
  have k0 : Below w.heap.size w (w.alloc (.cells (fc f t b g).toArray 46)) := (Below.refl _ _).alloc (Nat.le_refl _) _
  by_cases h1 : s.length ≤ 100
  · have d1 : decide ((100 : Int) < (s.length : Int)) = false := decide_eq_false (by omega)
    by_cases h2 : b.length ≤ 512
    · have d2 : decide ((512 : Int) < (b.length : Int)) = false := decide_eq_false (by omega)
      by_cases h3 : g.length ≤ 100
      · have d3 : decide ((100 : Int) < (g.length : Int)) = false := decide_eq_false (by omega)
        go_enter Try.func11, Try.ntmps11
        go_upto_region 3 with (fail)
        obtain ⟨c, hc⟩ : ∃ c, c = w.heap.size := ⟨_, rfl⟩
        have HI := Lib.hid (fr_new w f t b g c hc)
        rw [← hc]
        generalize w.alloc (.cells (fc f t b g).toArray 46) = W at k0 HI ⊢
        clear hc
        refine Cls.region_tail (S := Cls.Kept _) 10 (by kernel_rfl) (by kernel_rfl) (Below.refl _ _) ?_
        simp only [List.take_succ_cons, List.take_zero, List.drop_succ_cons, List.drop_zero]
        go_big_quiet_step (fail)
        go_big_quiet_want
        refine quiet_load_in 46 (.tmp 3) rfl c rfl (fc f t b g) _ HI.out.drew Try.underlying46 rfl (by kernel_rfl) ?_
        simp only [Act.put, List.setIfInBounds_toArray, List.set_cons_zero, List.set_cons_succ]
        go_big_quiet_on
        go_big_quiet_step ((go_at_call 35; with_reducible refine Cls.calls_kept (opens_any s f t b g _ (by omega) (by omega) (by omega))))
        go_big_quiet_step (fail)
        go_big_quiet_want
        refine quiet_load_in 46 (.tmp 3) rfl c rfl (fc f t b g) _ HI.out.drew Try.underlying46 rfl (by kernel_rfl) ?_
        simp only [Act.put, List.setIfInBounds_toArray, List.set_cons_zero, List.set_cons_succ]
        go_big_quiet_on
        go_big_quiet_step ((go_at_call 36; with_reducible refine Cls.calls_kept (ropens_any s f t b g _ (by omega) (by omega))))
        generalize decide (may f t b.length ∧ g = tagOf s f t b) = v
        iterate 2 (go_big_quiet_step (fail))
        go_big_quiet_step ((go_at_call 32; with_reducible refine Cls.calls_kept (fawake_any _)))
        go_big_quiet_step (fail)
        refine wpQuiet_nil ?_
        intro w4 hw4
        go_wp2
        exact bodyPost_ret (results_tmp rfl _ _ _) rfl ⟨rfl, k0.drew.trans (hw4.mono k0.size)⟩
      · have d3 : decide ((100 : Int) < (g.length : Int)) = true := decide_eq_true (by omega)
        go_enter Try.func11, Try.ntmps11
        go_wp2_with fail
        refine (fawake_any _).mono ?_
        rintro e w9 ⟨rfl, k9⟩
        have k9 := k0.trans (k9.mono k0.size)
        go_wp2
        exact bodyPost_ret (results_tmp rfl _ _ _) rfl ⟨rfl, k9⟩
    · have d2 : decide ((512 : Int) < (b.length : Int)) = true := decide_eq_true (by omega)
      go_enter Try.func11, Try.ntmps11
      go_wp2_with fail
      refine (fawake_any _).mono ?_
      rintro e w9 ⟨rfl, k9⟩
      have k9 := k0.trans (k9.mono k0.size)
      go_wp2
      exact bodyPost_ret (results_tmp rfl _ _ _) rfl ⟨rfl, k9⟩
  · have d1 : decide ((100 : Int) < (s.length : Int)) = true := decide_eq_true (by omega)
    go_enter Try.func11, Try.ntmps11
    go_wp2_with fail
    refine (fawake_any _).mono ?_
    rintro e w9 ⟨rfl, k9⟩
    have k9 := k0.trans (k9.mono k0.size)
    go_wp2
    exact bodyPost_ret (results_tmp rfl _ _ _) rfl ⟨rfl, k9⟩
set_option maxHeartbeats 4000000 in
set_option maxRecDepth 100000 in
theorem frameSeals_any (a : ByteArray) (f t : Int) (b : ByteArray) (w : World) : Calls Try.prog 10 #[.string a, .agg #[.int .i64 f, .int .i64 t], .string b] w fun e w' => e = .returned (.bool true) ∧ Below w.heap.size w w' := by
  obtain ⟨s, rfl⟩ : ∃ s : List UInt8, a = ⟨s.toArray⟩ := ⟨a.data.toList, rfl⟩
  obtain ⟨b, rfl⟩ : ∃ s : List UInt8, b = ⟨s.toArray⟩ := ⟨b.data.toList, rfl⟩
  by_cases h1 : s.length ≤ 100
  · have d1 : decide ((100 : Int) < (s.length : Int)) = false := decide_eq_false (by omega)
    by_cases h2 : b.length ≤ 512
    · have d2 : decide ((512 : Int) < (b.length : Int)) = false := decide_eq_false (by omega)
      by_cases h : may f t b.length
      · have H := Lib.hid h
        obtain ⟨tg, htg⟩ : ∃ tg, tg = tagOf s f t b := ⟨_, rfl⟩
        have HL := Lib.hid (show tg.length = 32 by rw [htg]; exact tagOf_length _ _ _ _)
        have HTG := Lib.hid htg
        clear h htg
        have HI := Lib.hid (Blk.new' w [.int .i64 f, .int .i64 t] 44 w.heap.size rfl)
        have k0 : Below w.heap.size w (w.alloc (.cells #[.int .i64 f, .int .i64 t] 44)) := (Below.refl _ _).alloc (Nat.le_refl _) _
        go_enter Try.func10, Try.ntmps10
        go_wp2_with fail
        obtain ⟨c, hc⟩ : ∃ c, c = w.heap.size := ⟨_, rfl⟩
        rw [← hc] at HI ⊢
        have HC := Lib.hid hc
        clear hc
        generalize w.alloc (.cells #[.int .i64 f, .int .i64 t] 44) = W at k0 HI ⊢
        refine (seal_yes s f t b W (by omega) (by omega) H.out).mono ?_
        rintro e w1 ⟨rfl, k1⟩
        rw [← HTG.out]
        obtain ⟨j, hj⟩ : ∃ j, j = w1.heap.size := ⟨_, rfl⟩
        have i1 := HI.out.below k1
        have k1 := k0.trans (k1.mono k0.size)
        have i2 := i1.alloc (.cells (fc f t b tg).toArray 46)
        have j2 := fr_new w1 f t b tg j hj
        have k2 := k1.alloc k1.size (.cells (fc f t b tg).toArray 46)
        have HJ := Lib.hid hj
        clear k0 k1 i1 HI hj
        go_upto_region 4 with (fail)
        rw [← HJ.out]
        generalize w1.alloc (.cells (fc f t b tg).toArray 46) = W2 at i2 j2 k2 ⊢
        have c0 : W2.cell? ⟨c, 0, none⟩ = some (.int .i64 f) := i2.cell 0
        have c1 : W2.cell? ⟨c, 1, none⟩ = some (.int .i64 t) := i2.cell 1
        have J2 := Lib.hid j2
        clear HJ i2 j2
        go_wp2_with fail
        refine (rseal_yes s f t b W2 (by omega) (by omega) H.out).mono ?_
        rintro e w3 ⟨rfl, k3⟩
        rw [← HTG.out]
        obtain ⟨i, hi⟩ : ∃ i, i = w3.heap.size := ⟨_, rfl⟩
        have j3 := J2.out.below k3
        have k3 := k2.trans (k3.mono k2.size)
        have j4 := j3.alloc (.cells (fc f t b tg).toArray 46)
        have i4 := fr_new w3 f t b tg i hi
        have k4 := k3.alloc k3.size (.cells (fc f t b tg).toArray 46)
        have HI := Lib.hid hi
        clear k2 k3 j3 J2 hi c0 c1
        go_upto_region 5 with (fail)
        rw [← HI.out]
        generalize w3.alloc (.cells (fc f t b tg).toArray 46) = W4 at i4 j4 k4 ⊢
        have I4 := Lib.hid i4
        have J4 := Lib.hid j4
        clear HI i4 j4
        go_wp2_with (first | (refine Blk.load_row 46 (.tmp 7) rfl (by rfl) j rfl 46 (fc f t b tg) _ J4.out Try.underlying46 rfl (by kernel_rfl) ?_) | (refine Blk.load_row 46 (.tmp 9) rfl (by rfl) i rfl 46 (fc f t b tg) _ I4.out Try.underlying46 rfl (by kernel_rfl) ?_) | fail)
        refine (opens_any s f t b tg W4 (by omega) (by omega) (by rw [HL.out]; decide)).mono ?_
        rintro e w5 ⟨rfl, k5⟩
        rw [show decide (may f t b.length ∧ tg = tagOf s f t b) = true from decide_eq_true ⟨H.out, HTG.out⟩]
        have k5 := k4.trans (k5.mono k4.size)
        clear k4 I4 J4
        go_wp2_with fail
        refine (fawake_any _).mono ?_
        rintro e w9 ⟨rfl, k9⟩
        have k9 := k5.trans (k9.mono k5.size)
        go_wp2
        exact bodyPost_ret (results_tmp rfl _ _ _) rfl ⟨rfl, k9⟩
      · have H := Lib.hid h
        clear h
        have HI := Lib.hid (Blk.new' w [.int .i64 f, .int .i64 t] 44 w.heap.size rfl)
        have k0 : Below w.heap.size w (w.alloc (.cells #[.int .i64 f, .int .i64 t] 44)) := (Below.refl _ _).alloc (Nat.le_refl _) _
        go_enter Try.func10, Try.ntmps10
        go_wp2_with fail
        obtain ⟨c, hc⟩ : ∃ c, c = w.heap.size := ⟨_, rfl⟩
        rw [← hc] at HI ⊢
        have HC := Lib.hid hc
        clear hc
        generalize w.alloc (.cells #[.int .i64 f, .int .i64 t] 44) = W at k0 HI ⊢
        refine (seal_no s f t b W H.out).mono ?_
        rintro e w1 ⟨rfl, k1⟩
        obtain ⟨j, hj⟩ : ∃ j, j = w1.heap.size := ⟨_, rfl⟩
        have i1 := HI.out.below k1
        have k1 := k0.trans (k1.mono k0.size)
        have i2 := i1.alloc (.cells (fc 0 0 [] []).toArray 46)
        have j2 := fr_new w1 0 0 [] [] j hj
        have k2 := k1.alloc k1.size (.cells (fc 0 0 [] []).toArray 46)
        have HJ := Lib.hid hj
        clear k0 k1 i1 HI hj
        go_upto_region 4 with (fail)
        rw [← HJ.out]
        generalize w1.alloc (.cells (fc 0 0 [] []).toArray 46) = W2 at i2 j2 k2 ⊢
        have c0 : W2.cell? ⟨c, 0, none⟩ = some (.int .i64 f) := i2.cell 0
        have c1 : W2.cell? ⟨c, 1, none⟩ = some (.int .i64 t) := i2.cell 1
        have J2 := Lib.hid j2
        clear HJ i2 j2
        go_wp2_with fail
        refine (rseal_no s f t b W2 H.out).mono ?_
        rintro e w3 ⟨rfl, k3⟩
        obtain ⟨i, hi⟩ : ∃ i, i = w3.heap.size := ⟨_, rfl⟩
        have j3 := J2.out.below k3
        have k3 := k2.trans (k3.mono k2.size)
        have j4 := j3.alloc (.cells (fc 0 0 [] []).toArray 46)
        have i4 := fr_new w3 0 0 [] [] i hi
        have k4 := k3.alloc k3.size (.cells (fc 0 0 [] []).toArray 46)
        have HI := Lib.hid hi
        clear k2 k3 j3 J2 hi c0 c1
        go_upto_region 5 with (fail)
        rw [← HI.out]
        generalize w3.alloc (.cells (fc 0 0 [] []).toArray 46) = W4 at i4 j4 k4 ⊢
        have I4 := Lib.hid i4
        have J4 := Lib.hid j4
        clear HI i4 j4
        go_wp2_with (first | (refine Blk.load_row 46 (.tmp 7) rfl (by rfl) j rfl 46 (fc 0 0 [] []) _ J4.out Try.underlying46 rfl (by kernel_rfl) ?_) | (refine Blk.load_row 46 (.tmp 9) rfl (by rfl) i rfl 46 (fc 0 0 [] []) _ I4.out Try.underlying46 rfl (by kernel_rfl) ?_) | fail)
        refine (fawake_any _).mono ?_
        rintro e w9 ⟨rfl, k9⟩
        have k9 := k4.trans (k9.mono k4.size)
        go_wp2
        exact bodyPost_ret (results_tmp rfl _ _ _) rfl ⟨rfl, k9⟩
    · have d2 : decide ((512 : Int) < (b.length : Int)) = true := decide_eq_true (by omega)
      have k0 : Below w.heap.size w (w.alloc (.cells #[.int .i64 f, .int .i64 t] 44)) := (Below.refl _ _).alloc (Nat.le_refl _) _
      go_enter Try.func10, Try.ntmps10
      go_wp2_with fail
      refine (fawake_any _).mono ?_
      rintro e w9 ⟨rfl, k9⟩
      have k9 := k0.trans (k9.mono k0.size)
      go_wp2
      exact bodyPost_ret (results_tmp rfl _ _ _) rfl ⟨rfl, k9⟩
  · have d1 : decide ((100 : Int) < (s.length : Int)) = true := decide_eq_true (by omega)
    have k0 : Below w.heap.size w (w.alloc (.cells #[.int .i64 f, .int .i64 t] 44)) := (Below.refl _ _).alloc (Nat.le_refl _) _
    go_enter Try.func10, Try.ntmps10
    go_wp2_with fail
    refine (fawake_any _).mono ?_
    rintro e w9 ⟨rfl, k9⟩
    have k9 := k0.trans (k9.mono k0.size)
    go_wp2
    exact bodyPost_ret (results_tmp rfl _ _ _) rfl ⟨rfl, k9⟩
theorem frameSeals_arr (a : ByteArray) (xs : List Int) (b : ByteArray) (w : World) (h : xs.length = 2) : Calls Try.prog 10 #[.string a, .agg (xs.map (Value.int .i64)).toArray, .string b] w fun e w' => e = .returned (.bool true) ∧ Below w.heap.size w w' := by
  match xs, h with
  | [f, t], _ => exact frameSeals_any a f t b w
end Go.Proofs.Yticegglphmgoaaa.Sha
