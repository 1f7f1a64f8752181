/- The statement StampCompares' function returns true on any two stamps and any number, and changes nothing that was there. No conditions but that the numbers are of their kind. -/
import Derived.Test.YtkkbpjkplnepiaaCompares
import Derived.Test.YtkkbpjkplnepiaaCls
namespace Go.Proofs.Ytkkbpjkplnepiaa.Vou
open Go.RowKit Go.Proofs.YtkkbpjkplnepiaaW.PrintWords Go.Proofs.YtkkbpjkplnepiaaW.PrintLast Go.Proofs.YtkkbpjkplnepiaaW.PrintMore

set_option maxHeartbeats 2000000 in
theorem compares_walk (a b c d n x y z : Int) (w : World) (hn : n ≤ 9223372036854775807) (hr : nextS n b = (x, y, z)) (hz : (z = 0 ∧ mayS x y = true) ∨ z = 1 ∨ z = 2) :
    Calls Try.prog 3 #[.agg #[.int .i64 a, .int .i64 b], .agg #[.int .i64 c, .int .i64 d], .int .i64 n] w fun e w' => e = .returned (.bool true) ∧ Below w.heap.size w w' := by
  have hN := Lib.hid ((next_is n b hn).trans (congrArg some hr))
  have hM := Lib.hid ((refNext_is n b hn).trans (congrArg some hr))
  clear hr
  go_enter Try.func3, Try.ntmps3
  go_wp2_with fail
  refine (PStampCompares.stamp_Next.calls 9 n b x y z _ hN.out).mono ?_
  rintro e w1 ⟨rfl, hb1⟩
  have c0 : w1.cell? ⟨w.heap.size, 0, none⟩ = some (.int .i64 a) := (hb1.cell (by simp; omega)).trans (by simp [go_sem])
  have c1 : w1.cell? ⟨w.heap.size, 1, none⟩ = some (.int .i64 b) := (hb1.cell (by simp; omega)).trans (by simp [go_sem])
  have c2 : w1.cell? ⟨w.heap.size + 1, 0, none⟩ = some (.int .i64 c) := (hb1.cell (by simp)).trans (by simp [go_sem])
  have c3 : w1.cell? ⟨w.heap.size + 1, 1, none⟩ = some (.int .i64 d) := (hb1.cell (by simp)).trans (by simp [go_sem])
  have k1 : Below w.heap.size w w1 := (((Below.refl _ _).alloc (Nat.le_refl _) _).alloc (by simp) _).trans (hb1.mono (by simp; omega))
  have hz1 : w.heap.size + 1 < w1.heap.size := by have := hb1.size; simp at this; omega
  have hz0 : w.heap.size < w1.heap.size := by omega
  clear hb1
  go_wp2_with fail
  refine (PStampCompares.sacristyref20_Next.calls 9 n b x y z _ hM.out).mono ?_
  rintro e w2 ⟨rfl, hb2⟩
  have d0 : w2.cell? ⟨w.heap.size, 0, none⟩ = some (.int .i64 a) := (hb2.cell (by simp; omega)).trans (by simp [go_sem, hz0, c0])
  have d1 : w2.cell? ⟨w.heap.size, 1, none⟩ = some (.int .i64 b) := (hb2.cell (by simp; omega)).trans (by simp [go_sem, hz0, c1])
  have d2 : w2.cell? ⟨w.heap.size + 1, 0, none⟩ = some (.int .i64 c) := (hb2.cell (by simp; omega)).trans (by simp [go_sem, hz1, c2])
  have d3 : w2.cell? ⟨w.heap.size + 1, 1, none⟩ = some (.int .i64 d) := (hb2.cell (by simp; omega)).trans (by simp [go_sem, hz1, c3])
  have d4 : w2.cell? ⟨w1.heap.size, 0, none⟩ = some (.int .i64 x) := (hb2.cell (by simp)).trans (by simp [go_sem])
  have d5 : w2.cell? ⟨w1.heap.size, 1, none⟩ = some (.int .i64 y) := (hb2.cell (by simp)).trans (by simp [go_sem])
  have k2 : Below w.heap.size w w2 := (k1.alloc k1.size _).trans (hb2.mono (by simp; omega))
  have hz2 : w1.heap.size < w2.heap.size := by have := hb2.size; simp at this; omega
  clear hb2 c0 c1 c2 c3 k1
  have h0 : w.heap.size < w2.heap.size := by omega
  have h1 : w.heap.size + 1 < w2.heap.size := by omega
  have kb := k2.alloc k2.size (.cells #[.int .i64 x, .int .i64 y] 23)
  have e0 : (w2.alloc (.cells #[.int .i64 x, .int .i64 y] 23)).drew.cell? ⟨w.heap.size, 0, none⟩ = some (.int .i64 a) := by simp [go_sem, h0, d0]
  have e1 : (w2.alloc (.cells #[.int .i64 x, .int .i64 y] 23)).drew.cell? ⟨w.heap.size, 1, none⟩ = some (.int .i64 b) := by simp [go_sem, h0, d1]
  have e2 : (w2.alloc (.cells #[.int .i64 x, .int .i64 y] 23)).drew.cell? ⟨w.heap.size + 1, 0, none⟩ = some (.int .i64 c) := by simp [go_sem, h1, d2]
  have e3 : (w2.alloc (.cells #[.int .i64 x, .int .i64 y] 23)).drew.cell? ⟨w.heap.size + 1, 1, none⟩ = some (.int .i64 d) := by simp [go_sem, h1, d3]
  have e4 : (w2.alloc (.cells #[.int .i64 x, .int .i64 y] 23)).drew.cell? ⟨w1.heap.size, 0, none⟩ = some (.int .i64 x) := by simp [go_sem, hz2, d4]
  have e5 : (w2.alloc (.cells #[.int .i64 x, .int .i64 y] 23)).drew.cell? ⟨w1.heap.size, 1, none⟩ = some (.int .i64 y) := by simp [go_sem, hz2, d5]
  have e6 : (w2.alloc (.cells #[.int .i64 x, .int .i64 y] 23)).drew.cell? ⟨w2.heap.size, 0, none⟩ = some (.int .i64 x) := by simp [go_sem]
  have e7 : (w2.alloc (.cells #[.int .i64 x, .int .i64 y] 23)).drew.cell? ⟨w2.heap.size, 1, none⟩ = some (.int .i64 y) := by simp [go_sem]
  replace e0 := Cls.Wd.cell e0
  replace e1 := Cls.Wd.cell e1
  replace e2 := Cls.Wd.cell e2
  replace e3 := Cls.Wd.cell e3
  replace e4 := Cls.Wd.cell e4
  replace e5 := Cls.Wd.cell e5
  replace e6 := Cls.Wd.cell e6
  replace e7 := Cls.Wd.cell e7
  clear d0 d1 d2 d3 d4 d5 k2
  have HM := Lib.hid hz
  rcases hz with ⟨h0, hm⟩ | h0 | h0
  all_goals
    subst h0
    (try clear hm)
    go_wp2_with fail
    refine Cls.region_cls (S := Cls.Kept _) (by kernel_rfl) (by kernel_rfl) (Below.refl _ _) ?_
    repeat (go_big_quiet_step (first | (go_at_call 9; with_reducible refine Cls.calls_kept (PStampCompares.stamp_Compare.calls 9 a b c d _ _ (compare_is _ _ _ _))) | (go_at_call 10; with_reducible refine Cls.calls_kept (PStampCompares.sacristyref20_Compare.calls a b c d _ _ (refCompare_is _ _ _ _))) | (go_at_call 11; with_reducible refine Cls.calls_kept (PStampCompares.stamp_May.calls a b _ _ (may_is _ _))) | (go_at_call 11; with_reducible refine Cls.calls_kept (PStampCompares.stamp_May.calls x y true _ ((may_is _ _).trans (congrArg some (by have := HM.out; simpa using this))))) | (go_at_call 12; with_reducible refine Cls.calls_kept (PStampCompares.sacristyref20_May.calls a b _ _ (refMay_is _ _))) | (go_at_call 13; with_reducible refine Cls.calls_kept (awake_any _))))
    refine wpQuiet_nil ?_
    intro w' hw'
    go_wp2
    go_ret
    exact ⟨rfl, (kb.drew).trans (hw'.mono kb.size)⟩

theorem nextS_code (n c : Int) : ((nextS n c).2.2 = 0 ∧ mayS (nextS n c).1 (nextS n c).2.1 = true) ∨ (nextS n c).2.2 = 1 ∨ (nextS n c).2.2 = 2 := by
  by_cases h : (nextS n c).2.2 = 0
  · exact .inl ⟨h, next_may n c h⟩
  · right
    unfold nextS at h ⊢
    split
    · simp
    · split
      · simp
      · rename_i h1 h2
        rw [if_neg h1, if_neg h2] at h
        simp at h
theorem compares_any (a b c d n : Int) (w : World) (hn : n ≤ 9223372036854775807) :
    Calls Try.prog 3 #[.agg #[.int .i64 a, .int .i64 b], .agg #[.int .i64 c, .int .i64 d], .int .i64 n] w fun e w' => e = .returned (.bool true) ∧ Below w.heap.size w w' :=
  compares_walk a b c d n _ _ _ w hn rfl (nextS_code n b)
end Go.Proofs.Ytkkbpjkplnepiaa.Vou
