/- Audits: bounds of a state, walked. Conditions: those that are named. -/
import Derived.Test.YthkibccfdpbojaaAuP
namespace Go.Proofs.Ythkibccfdpbojaa.Au
open Go Go.RowKit
/-- A space's cells. -/
abbrev scs (m : Nat) : List Value := [.int .i64 4, .int .i64 1, nilS, .map (some m)]
theorem results_pair {P : Program} {fn : Func} {t u : Tmp} (h : fn.results = #[.tmp t, .tmp u]) (tmps : Array Value) (w : World) (x y : Value) (hx : tmps.getD t undef = x) (hy : tmps.getD u undef = y) : (results fn tmps).run P w = .ok (.tuple #[x, y]) w := by
  rw [results_tmp2 h, hx, hy]
set_option maxHeartbeats 4000000 in
set_option maxRecDepth 100000 in
theorem new_any (w : World) : Calls Try.prog 31 #[.int .i64 4, .int .i64 1] w fun e w' => ∃ b m, e = .returned (.tuple #[.pointer (some ⟨b, 0, none⟩), .int .i64 0]) ∧ Blk.Is w' b (scs m) 133 ∧ Below w.heap.size w w' := by
  have hmm := @run_makeMap Try.prog
  have kw : Below w.heap.size w ((w.alloc (.map #[] 0)).alloc (.cells (scs w.heap.size).toArray 133)) := ((Below.refl _ _).alloc (Nat.le_refl _) _).alloc (by simp) _
  have hb := Lib.hid (Blk.new' (w.alloc (.map #[] 0)) (scs w.heap.size) 133 (w.heap.size + 1) (by simp))
  go_enter Try.func31, Try.ntmps31
  go_wp2
  exact bodyPost_ret (results_pair rfl _ _ _ _ rfl rfl) rfl ⟨_, _, rfl, hb.out, kw⟩
set_option maxHeartbeats 4000000 in
set_option maxRecDepth 100000 in
theorem quota_low (b m : Nat) (i : Int) (w : World) (hb : Blk.Is w b (scs m) 133) (h1 : 1 ≤ i) (h4 : i ≤ 4) : Calls Try.prog 32 #[.pointer (some ⟨b, 0, none⟩), .int .i64 i] w fun e w' => e = .returned (.int .i64 16) ∧ Below w.heap.size w w' := by
  have d1 : decide (i < 1) = false := decide_eq_false (by omega)
  have d2 : decide (5 < i) = false := decide_eq_false (by omega)
  have d3 : decide (i ≤ 4) = true := decide_eq_true h4
  have HB := Lib.hid hb
  clear hb h1 h4
  go_enter Try.func32, Try.ntmps32
  go_upto_region 1 with (fail)
  have q0 : ∀ z : Cls.Wd (Cls.Kept w.drew), z.w.cell? ⟨b, 0, none⟩ = some (.int .i64 4) := Cls.Wd.cell (HB.out.drew.cell 0)
  have q1 : ∀ z : Cls.Wd (Cls.Kept w.drew), z.w.cell? ⟨b, 1, none⟩ = some (.int .i64 1) := Cls.Wd.cell (HB.out.drew.cell 1)
  refine Cls.region_cls (S := Cls.Kept _) (by kernel_rfl) (by kernel_rfl) (Below.refl _ _) ?_
  iterate 20 (go_big_quiet_step (fail))
  refine wpQuiet_nil ?_
  intro w3 hw3
  have K3 : Below w.heap.size w w3 := (Below.refl w.heap.size w).drew.trans hw3
  have B3 := Lib.hid (HB.out.drew.below hw3)
  have s0 := B3.out.cell 0
  have s1 := B3.out.cell 1
  simp only [List.getElem?_cons_zero, List.getElem?_cons_succ] at s0 s1
  clear q0 q1 hw3 HB
  go_upto_region 4 with (fail)
  have q0 : ∀ z : Cls.Wd (Cls.Kept w3.drew), z.w.cell? ⟨b, 0, none⟩ = some (.int .i64 4) := Cls.Wd.cell (B3.out.drew.cell 0)
  have q1 : ∀ z : Cls.Wd (Cls.Kept w3.drew), z.w.cell? ⟨b, 1, none⟩ = some (.int .i64 1) := Cls.Wd.cell (B3.out.drew.cell 1)
  refine Cls.region_cls (S := Cls.Kept _) (by kernel_rfl) (by kernel_rfl) (Below.refl _ _) ?_
  iterate 11 (go_big_quiet_step (fail))
  refine wpQuiet_nil ?_
  intro w4 hw4
  have K4 : Below w.heap.size w w4 := K3.drew.trans (hw4.mono K3.size)
  clear q0 q1 hw4 B3 s0 s1 K3
  go_wp2
  exact bodyPost_ret (results_tmp rfl _ _ _) rfl ⟨rfl, K4⟩
set_option maxHeartbeats 4000000 in
set_option maxRecDepth 100000 in
theorem quota_high (b m : Nat) (w : World) (hb : Blk.Is w b (scs m) 133) : Calls Try.prog 32 #[.pointer (some ⟨b, 0, none⟩), .int .i64 5] w fun e w' => e = .returned (.int .i64 4) ∧ Below w.heap.size w w' := by
  have HB := Lib.hid hb
  clear hb
  go_enter Try.func32, Try.ntmps32
  go_upto_region 1 with (fail)
  have q0 : ∀ z : Cls.Wd (Cls.Kept w.drew), z.w.cell? ⟨b, 0, none⟩ = some (.int .i64 4) := Cls.Wd.cell (HB.out.drew.cell 0)
  have q1 : ∀ z : Cls.Wd (Cls.Kept w.drew), z.w.cell? ⟨b, 1, none⟩ = some (.int .i64 1) := Cls.Wd.cell (HB.out.drew.cell 1)
  refine Cls.region_cls (S := Cls.Kept _) (by kernel_rfl) (by kernel_rfl) (Below.refl _ _) ?_
  iterate 20 (go_big_quiet_step (fail))
  refine wpQuiet_nil ?_
  intro w3 hw3
  have K3 : Below w.heap.size w w3 := (Below.refl w.heap.size w).drew.trans hw3
  have B3 := Lib.hid (HB.out.drew.below hw3)
  have s0 := B3.out.cell 0
  have s1 := B3.out.cell 1
  simp only [List.getElem?_cons_zero, List.getElem?_cons_succ] at s0 s1
  clear q0 q1 hw3 HB
  go_wp2
  exact bodyPost_ret (results_tmp rfl _ _ _) rfl ⟨rfl, K3⟩
end Go.Proofs.Ythkibccfdpbojaa.Au
