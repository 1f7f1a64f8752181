/- The statement StampLater's function returns true on any three stamps, and changes nothing that was there. No conditions but that the numbers are of their kind. -/
import Derived.Test.YtkkbpjkplnepiaaComparesW
namespace Go.Proofs.Ytkkbpjkplnepiaa.Vou
open Go.RowKit Go.Proofs.YtkkbpjkplnepiaaW.PrintWords Go.Proofs.YtkkbpjkplnepiaaW.PrintLast Go.Proofs.YtkkbpjkplnepiaaW.PrintMore

theorem cmp_turn (a b c d : Int) : cmpS a b c d = -cmpS c d a b := by
  unfold cmpS; repeat' split
  all_goals first | rfl | omega
theorem cmp_zero (a b c d : Int) : cmpS a b c d = 0 ↔ a = c ∧ b = d := by
  unfold cmpS; repeat' split
  all_goals omega
theorem cmp_chain (a b c d e f : Int) (h1 : 0 < cmpS a b c d) (h2 : 0 < cmpS c d e f) : 0 < cmpS a b e f := by
  unfold cmpS at *; repeat' split
  all_goals (repeat' split at h1) <;> (repeat' split at h2) <;> omega
theorem cmp_range (a b c d : Int) : -1 ≤ cmpS a b c d ∧ cmpS a b c d ≤ 1 := by
  unfold cmpS; repeat' split
  all_goals omega
theorem next_later (n d b : Int) (h : (nextS n d).2.2 = 0) : cmpS (nextS n d).1 (nextS n d).2.1 n b = 1 := by
  unfold nextS at h ⊢
  split at h
  · simp at h
  · split at h
    · simp at h
    · rename_i h1 h2
      rw [if_neg h1, if_neg h2]
      simp only [cmpS]
      rw [if_neg (by omega), if_pos (by omega)]

set_option maxHeartbeats 2000000 in
theorem later_walk (a b c d e f ab bc ac ba x y z : Int) (w : World) (ha : a ≤ 9223372036854775807)
    (h1 : cmpS a b c d = ab) (h2 : cmpS c d e f = bc) (h3 : cmpS a b e f = ac) (h4 : cmpS c d a b = ba) (t1 : ab = -ba) (t2 : ab = 0 ↔ a = c ∧ b = d) (t3 : 0 < ab → 0 < bc → 0 < ac) (t4 : -1 ≤ ab ∧ ab ≤ 1)
    (hr : nextS a d = (x, y, z)) (hz : (z = 0 ∧ cmpS x y a b = 1) ∨ z = 1 ∨ z = 2) :
    Calls Try.prog 6 #[.agg #[.int .i64 a, .int .i64 b], .agg #[.int .i64 c, .int .i64 d], .agg #[.int .i64 e, .int .i64 f]] w fun e' w' => e' = .returned (.bool true) ∧ Below w.heap.size w w' := by
  have hN := Lib.hid ((next_is a d ha).trans (congrArg some hr))
  have H1 := Lib.hid ((compare_is a b c d).trans (congrArg some h1))
  have H2 := Lib.hid ((compare_is c d e f).trans (congrArg some h2))
  have H3 := Lib.hid ((compare_is a b e f).trans (congrArg some h3))
  have H4 := Lib.hid ((compare_is c d a b).trans (congrArg some h4))
  clear hr h1 h2 h3 h4
  have kb : Below w.heap.size w (((w.alloc (.cells #[.int .i64 a, .int .i64 b] 23)).alloc (.cells #[.int .i64 c, .int .i64 d] 23)).alloc (.cells #[.int .i64 e, .int .i64 f] 23)) := (((Below.refl _ _).alloc (Nat.le_refl _) _).alloc (by simp) _).alloc (by simp; omega) _
  obtain ⟨w0, hw0⟩ : ∃ v, v = (((w.alloc (.cells #[.int .i64 a, .int .i64 b] 23)).alloc (.cells #[.int .i64 c, .int .i64 d] 23)).alloc (.cells #[.int .i64 e, .int .i64 f] 23)) := ⟨_, rfl⟩
  rw [← hw0] at kb
  have e0 : w0.drew.cell? ⟨w.heap.size, 0, none⟩ = some (.int .i64 a) := by rw [hw0]; simp [go_sem]
  have e1 : w0.drew.cell? ⟨w.heap.size, 1, none⟩ = some (.int .i64 b) := by rw [hw0]; simp [go_sem]
  have e2 : w0.drew.cell? ⟨w.heap.size + 1, 0, none⟩ = some (.int .i64 c) := by rw [hw0]; simp [go_sem]
  have e3 : w0.drew.cell? ⟨w.heap.size + 1, 1, none⟩ = some (.int .i64 d) := by rw [hw0]; simp [go_sem]
  have e4 : w0.drew.cell? ⟨w.heap.size + 2, 0, none⟩ = some (.int .i64 e) := by rw [hw0]; simp [go_sem]
  have e5 : w0.drew.cell? ⟨w.heap.size + 2, 1, none⟩ = some (.int .i64 f) := by rw [hw0]; simp [go_sem]
  have HW := Lib.hid hw0
  clear hw0
  have q0 := Cls.Wd.cell e0
  have q1 := Cls.Wd.cell e1
  have q2 := Cls.Wd.cell e2
  have q3 := Cls.Wd.cell e3
  have q4 := Cls.Wd.cell e4
  have q5 := Cls.Wd.cell e5
  go_enter Try.func6, Try.ntmps6
  go_wp2_with fail
  rw [← HW.out]
  refine Cls.region_cls (S := Cls.Kept _) (by kernel_rfl) (by kernel_rfl) (Below.refl _ _) ?_
  repeat (go_big_quiet_step (first | (go_at_call 9; with_reducible refine Cls.calls_kept (PStampCompares.stamp_Compare.calls 9 a b c d _ _ H1.out)) | (go_at_call 9; with_reducible refine Cls.calls_kept (PStampCompares.stamp_Compare.calls 9 c d e f _ _ H2.out)) | (go_at_call 9; with_reducible refine Cls.calls_kept (PStampCompares.stamp_Compare.calls 9 a b e f _ _ H3.out))))
  refine wpQuiet_nil ?_
  intro w1 hw1
  have k1 := kb.drew.trans (hw1.mono kb.size)
  have c0 := (hw1.cell (World.block_lt_of_cell? _ _ e0)).trans e0
  have c1 := (hw1.cell (World.block_lt_of_cell? _ _ e1)).trans e1
  have c2 := (hw1.cell (World.block_lt_of_cell? _ _ e2)).trans e2
  have c3 := (hw1.cell (World.block_lt_of_cell? _ _ e3)).trans e3
  clear q0 q1 q2 q3 q4 q5 e0 e1 e2 e3 e4 e5 hw1 kb
  rcases (show ab = 0 ∨ ab = 1 ∨ ab = -1 by omega) with h | h | h
  · have hb : ba = 0 := by omega
    obtain ⟨hac, hbd⟩ := t2.1 h
    subst h hb hac hbd
    clear t1 t2 t3 t4
    go_wp2_with fail
    refine (PStampCompares.stamp_Compare.calls 9 a b a b _ _ H4.out).mono ?_
    rintro e' w2 ⟨rfl, hb2⟩
    have c0 := pw_cell_below hb2 c0
    have c1 := pw_cell_below hb2 c1
    have c2 := pw_cell_below hb2 c2
    have c3 := pw_cell_below hb2 c3
    have k2 := k1.trans (hb2.mono k1.size)
    go_wp2_with fail
    have hz2 : w.heap.size < w2.heap.size := by have := k2.size; have := World.block_lt_of_cell? _ _ c0; omega
    refine (PStampCompares.stamp_Next.calls 9 a b x y z _ hN.out).mono ?_
    rintro e' w3 ⟨rfl, hb3⟩
    have c0 := pw_cell_below hb3 c0
    have c1 := pw_cell_below hb3 c1
    have k3 := k2.trans (hb3.mono k2.size)
    have hz3 : w.heap.size < w3.heap.size := by have := hb3.size; omega
    clear hb2 hb3 k1 k2 c2 c3
    rcases hz with ⟨h0, hc⟩ | h0 | h0
    · subst h0
      go_wp2_with fail
      refine (PStampCompares.stamp_Compare.calls 9 x y a b _ _ ((compare_is x y a b).trans (congrArg some hc))).mono ?_
      rintro e' w4 ⟨rfl, hb4⟩
      go_wp2_with fail
      refine (awake_any _).mono ?_
      rintro e' w5 ⟨rfl, hb5⟩
      go_wp2
      go_ret
      exact ⟨rfl, ((k3.alloc k3.size _).trans (hb4.mono (by simp; omega))).trans (hb5.mono (by have := hb4.size; simp at this; omega))⟩
    · subst h0
      go_wp2_with fail
      refine (awake_any _).mono ?_
      rintro e' w5 ⟨rfl, hb5⟩
      go_wp2
      go_ret
      exact ⟨rfl, (k3.alloc k3.size _).trans (hb5.mono (by simp; omega))⟩
    · subst h0
      go_wp2_with fail
      refine (awake_any _).mono ?_
      rintro e' w5 ⟨rfl, hb5⟩
      go_wp2
      go_ret
      exact ⟨rfl, (k3.alloc k3.size _).trans (hb5.mono (by simp; omega))⟩
  · have hb : ba = -1 := by omega
    have hne : ¬ (a = c ∧ b = d) := fun hh => by have := t2.2 hh; omega
    clear t2
    have t5 : bc ≤ 0 ∨ (0 < bc ∧ 0 < ac) := by by_cases hh : 0 < bc; exact .inr ⟨hh, t3 (by omega) hh⟩; exact .inl (by omega)
    subst h hb
    clear t1 t3 t4
    by_cases hac : a = c
    · have hbd : (b == d) = false := beq_eq_false_iff_ne.2 (fun hh => hne ⟨hac, hh⟩)
      subst hac
      clear hne
      rcases t5 with t5 | ⟨t5, t6⟩
      all_goals
        go_wp2_with fail
        refine (PStampCompares.stamp_Compare.calls 9 a d a b _ _ H4.out).mono ?_
        rintro e' w2 ⟨rfl, hb2⟩
        have c0 := pw_cell_below hb2 c0
        have c1 := pw_cell_below hb2 c1
        have c2 := pw_cell_below hb2 c2
        have c3 := pw_cell_below hb2 c3
        have k2 := k1.trans (hb2.mono k1.size)
        go_wp2_with fail
        have hz2 : w.heap.size < w2.heap.size := by have := k2.size; have := World.block_lt_of_cell? _ _ c0; omega
        refine (PStampCompares.stamp_Next.calls 9 a d x y z _ hN.out).mono ?_
        rintro e' w3 ⟨rfl, hb3⟩
        have c0 := pw_cell_below hb3 c0
        have c1 := pw_cell_below hb3 c1
        have k3 := k2.trans (hb3.mono k2.size)
        have hz3 : w.heap.size < w3.heap.size := by have := hb3.size; omega
        clear hb2 hb3 k1 k2 c2 c3
        rcases hz with ⟨h0, hc⟩ | h0 | h0
        · subst h0
          go_wp2_with fail
          refine (PStampCompares.stamp_Compare.calls 9 x y a b _ _ ((compare_is x y a b).trans (congrArg some hc))).mono ?_
          rintro e' w4 ⟨rfl, hb4⟩
          go_wp2_with fail
          refine (awake_any _).mono ?_
          rintro e' w5 ⟨rfl, hb5⟩
          go_wp2
          go_ret
          exact ⟨rfl, ((k3.alloc k3.size _).trans (hb4.mono (by simp; omega))).trans (hb5.mono (by have := hb4.size; simp at this; omega))⟩
        · subst h0
          go_wp2_with fail
          refine (awake_any _).mono ?_
          rintro e' w5 ⟨rfl, hb5⟩
          go_wp2
          go_ret
          exact ⟨rfl, (k3.alloc k3.size _).trans (hb5.mono (by simp; omega))⟩
        · subst h0
          go_wp2_with fail
          refine (awake_any _).mono ?_
          rintro e' w5 ⟨rfl, hb5⟩
          go_wp2
          go_ret
          exact ⟨rfl, (k3.alloc k3.size _).trans (hb5.mono (by simp; omega))⟩
    · have hbd : (a == c) = false := beq_eq_false_iff_ne.2 hac
      clear hne hac
      rcases t5 with t5 | ⟨t5, t6⟩
      all_goals
        go_wp2_with fail
        refine (PStampCompares.stamp_Compare.calls 9 c d a b _ _ H4.out).mono ?_
        rintro e' w2 ⟨rfl, hb2⟩
        have c0 := pw_cell_below hb2 c0
        have c1 := pw_cell_below hb2 c1
        have c2 := pw_cell_below hb2 c2
        have c3 := pw_cell_below hb2 c3
        have k2 := k1.trans (hb2.mono k1.size)
        go_wp2_with fail
        have hz2 : w.heap.size < w2.heap.size := by have := k2.size; have := World.block_lt_of_cell? _ _ c0; omega
        refine (PStampCompares.stamp_Next.calls 9 a d x y z _ hN.out).mono ?_
        rintro e' w3 ⟨rfl, hb3⟩
        have c0 := pw_cell_below hb3 c0
        have c1 := pw_cell_below hb3 c1
        have k3 := k2.trans (hb3.mono k2.size)
        have hz3 : w.heap.size < w3.heap.size := by have := hb3.size; omega
        clear hb2 hb3 k1 k2 c2 c3
        rcases hz with ⟨h0, hc⟩ | h0 | h0
        · subst h0
          go_wp2_with fail
          refine (PStampCompares.stamp_Compare.calls 9 x y a b _ _ ((compare_is x y a b).trans (congrArg some hc))).mono ?_
          rintro e' w4 ⟨rfl, hb4⟩
          go_wp2_with fail
          refine (awake_any _).mono ?_
          rintro e' w5 ⟨rfl, hb5⟩
          go_wp2
          go_ret
          exact ⟨rfl, ((k3.alloc k3.size _).trans (hb4.mono (by simp; omega))).trans (hb5.mono (by have := hb4.size; simp at this; omega))⟩
        · subst h0
          go_wp2_with fail
          refine (awake_any _).mono ?_
          rintro e' w5 ⟨rfl, hb5⟩
          go_wp2
          go_ret
          exact ⟨rfl, (k3.alloc k3.size _).trans (hb5.mono (by simp; omega))⟩
        · subst h0
          go_wp2_with fail
          refine (awake_any _).mono ?_
          rintro e' w5 ⟨rfl, hb5⟩
          go_wp2
          go_ret
          exact ⟨rfl, (k3.alloc k3.size _).trans (hb5.mono (by simp; omega))⟩
  · have hb : ba = 1 := by omega
    have hne : ¬ (a = c ∧ b = d) := fun hh => by have := t2.2 hh; omega
    clear t2
    subst h hb
    clear t1 t3 t4
    by_cases hac : a = c
    · have hbd : (b == d) = false := beq_eq_false_iff_ne.2 (fun hh => hne ⟨hac, hh⟩)
      subst hac
      clear hne
      go_wp2_with fail
      refine (PStampCompares.stamp_Compare.calls 9 a d a b _ _ H4.out).mono ?_
      rintro e' w2 ⟨rfl, hb2⟩
      have c0 := pw_cell_below hb2 c0
      have c1 := pw_cell_below hb2 c1
      have c2 := pw_cell_below hb2 c2
      have c3 := pw_cell_below hb2 c3
      have k2 := k1.trans (hb2.mono k1.size)
      go_wp2_with fail
      have hz2 : w.heap.size < w2.heap.size := by have := k2.size; have := World.block_lt_of_cell? _ _ c0; omega
      refine (PStampCompares.stamp_Next.calls 9 a d x y z _ hN.out).mono ?_
      rintro e' w3 ⟨rfl, hb3⟩
      have c0 := pw_cell_below hb3 c0
      have c1 := pw_cell_below hb3 c1
      have k3 := k2.trans (hb3.mono k2.size)
      have hz3 : w.heap.size < w3.heap.size := by have := hb3.size; omega
      clear hb2 hb3 k1 k2 c2 c3
      rcases hz with ⟨h0, hc⟩ | h0 | h0
      · subst h0
        go_wp2_with fail
        refine (PStampCompares.stamp_Compare.calls 9 x y a b _ _ ((compare_is x y a b).trans (congrArg some hc))).mono ?_
        rintro e' w4 ⟨rfl, hb4⟩
        go_wp2_with fail
        refine (awake_any _).mono ?_
        rintro e' w5 ⟨rfl, hb5⟩
        go_wp2
        go_ret
        exact ⟨rfl, ((k3.alloc k3.size _).trans (hb4.mono (by simp; omega))).trans (hb5.mono (by have := hb4.size; simp at this; omega))⟩
      · subst h0
        go_wp2_with fail
        refine (awake_any _).mono ?_
        rintro e' w5 ⟨rfl, hb5⟩
        go_wp2
        go_ret
        exact ⟨rfl, (k3.alloc k3.size _).trans (hb5.mono (by simp; omega))⟩
      · subst h0
        go_wp2_with fail
        refine (awake_any _).mono ?_
        rintro e' w5 ⟨rfl, hb5⟩
        go_wp2
        go_ret
        exact ⟨rfl, (k3.alloc k3.size _).trans (hb5.mono (by simp; omega))⟩
    · have hbd : (a == c) = false := beq_eq_false_iff_ne.2 hac
      clear hne hac
      go_wp2_with fail
      refine (PStampCompares.stamp_Compare.calls 9 c d a b _ _ H4.out).mono ?_
      rintro e' w2 ⟨rfl, hb2⟩
      have c0 := pw_cell_below hb2 c0
      have c1 := pw_cell_below hb2 c1
      have c2 := pw_cell_below hb2 c2
      have c3 := pw_cell_below hb2 c3
      have k2 := k1.trans (hb2.mono k1.size)
      go_wp2_with fail
      have hz2 : w.heap.size < w2.heap.size := by have := k2.size; have := World.block_lt_of_cell? _ _ c0; omega
      refine (PStampCompares.stamp_Next.calls 9 a d x y z _ hN.out).mono ?_
      rintro e' w3 ⟨rfl, hb3⟩
      have c0 := pw_cell_below hb3 c0
      have c1 := pw_cell_below hb3 c1
      have k3 := k2.trans (hb3.mono k2.size)
      have hz3 : w.heap.size < w3.heap.size := by have := hb3.size; omega
      clear hb2 hb3 k1 k2 c2 c3
      rcases hz with ⟨h0, hc⟩ | h0 | h0
      · subst h0
        go_wp2_with fail
        refine (PStampCompares.stamp_Compare.calls 9 x y a b _ _ ((compare_is x y a b).trans (congrArg some hc))).mono ?_
        rintro e' w4 ⟨rfl, hb4⟩
        go_wp2_with fail
        refine (awake_any _).mono ?_
        rintro e' w5 ⟨rfl, hb5⟩
        go_wp2
        go_ret
        exact ⟨rfl, ((k3.alloc k3.size _).trans (hb4.mono (by simp; omega))).trans (hb5.mono (by have := hb4.size; simp at this; omega))⟩
      · subst h0
        go_wp2_with fail
        refine (awake_any _).mono ?_
        rintro e' w5 ⟨rfl, hb5⟩
        go_wp2
        go_ret
        exact ⟨rfl, (k3.alloc k3.size _).trans (hb5.mono (by simp; omega))⟩
      · subst h0
        go_wp2_with fail
        refine (awake_any _).mono ?_
        rintro e' w5 ⟨rfl, hb5⟩
        go_wp2
        go_ret
        exact ⟨rfl, (k3.alloc k3.size _).trans (hb5.mono (by simp; omega))⟩

theorem later_code (a b d : Int) : ((nextS a d).2.2 = 0 ∧ cmpS (nextS a d).1 (nextS a d).2.1 a b = 1) ∨ (nextS a d).2.2 = 1 ∨ (nextS a d).2.2 = 2 := by
  rcases nextS_code a d with ⟨h, _⟩ | h
  · exact .inl ⟨h, next_later a d b h⟩
  · exact .inr h
theorem later_any (a b c d e f : Int) (w : World) (ha : a ≤ 9223372036854775807) :
    Calls Try.prog 6 #[.agg #[.int .i64 a, .int .i64 b], .agg #[.int .i64 c, .int .i64 d], .agg #[.int .i64 e, .int .i64 f]] w fun e' w' => e' = .returned (.bool true) ∧ Below w.heap.size w w' :=
  later_walk a b c d e f _ _ _ _ _ _ _ w ha rfl rfl rfl rfl (cmp_turn a b c d) (cmp_zero a b c d) (cmp_chain a b c d e f) (cmp_range a b c d) rfl (later_code a b d)
end Go.Proofs.Ytkkbpjkplnepiaa.Vou
