/- Frames are sealed. Conditions: fewer than 2^38 bytes. -/
import Derived.Test.YticegglphmgoaaaFrB
import Derived.Laws.ResultCell
namespace Go.Proofs.Yticegglphmgoaaa.Sha
open Go.RowKit
open Blk (nats)
/-- Two results, the first of them a struct that lies in a block. -/
theorem results_row_tmp {P : Program} {fn : Func} {p u : Tmp} {ty : TypeId} (h : fn.results = #[.cell p ty, .tmp u]) (tmps : Array Value) (w : World) (g : Nat) (t : TypeId) (cs : List Value) (hp : tmps.getD p undef = .pointer (some ⟨g, 0, none⟩)) (hg : Blk.Is w g cs t) (d : TypeDesc)
    (hu : P.underlying ty = some d) (hd : (match d with | .struct _ | .array _ _ => true | _ => false) = true) (hi : (P.info? ty).map (·.size) = some cs.length) (v : Value) (hv : tmps.getD u undef = v) : (results fn tmps).run P w = .ok (.tuple #[.agg cs.toArray, v]) w := by
  subst hv
  rw [results_cell_tmp h, hp]
  simp [asAddr, Result.andThen, run_loadVar_row w g t ty cs.toArray (0, 0) d hg hu hd (by simpa using hi)]
theorem fc_one (f t : Int) (b g : List UInt8) : (fc f t b g).toArray.all (·.oneCell') = true :=
  all_oneCell_toArray (fun v hv => by
    simp only [List.mem_cons, List.not_mem_nil, or_false] at hv
    rcases hv with rfl | rfl | rfl | rfl <;> rfl)
theorem put_fc (f t f' t' : Int) (b g b' g' : List UInt8) : Blk.put (fc f t b g) 0 (fc f' t' b' g') = fc f' t' b' g' := Blk.put_all _ _ rfl
theorem tagOf_is (s : List UInt8) (f t : Int) (b : List UInt8) : tagOf s f t b = hmac (hkey s f t) (ends2 f t ++ b) := rfl
attribute [local irreducible] endsOf ends2 hmac hkey tagOf
set_option maxHeartbeats 4000000 in
set_option maxRecDepth 100000 in
theorem seal_no (s : List UInt8) (f t : Int) (b : List UInt8) (w : World) (h : ¬ may f t b.length) :
    Calls Try.prog 33 #[.string ⟨s.toArray⟩, .int .i64 f, .int .i64 t, .string ⟨b.toArray⟩] w fun e w' => e = .returned (.tuple #[fv 0 0 [] [], .int .i64 1]) ∧ Below w.heap.size w w' := by
  go_enter Try.func33, Try.ntmps33
  go_wp2_with fail
  obtain ⟨g, hg⟩ : ∃ g, g = w.heap.size := ⟨_, rfl⟩
  have k0 : Below w.heap.size w ((w.alloc (.cells (fc 0 0 [] []).toArray 46)).alloc (.cells (fc f t b []).toArray 46)) := ((Below.refl _ _).alloc (Nat.le_refl _) _).alloc (by simp) _
  have i0 : Blk.Is ((w.alloc (.cells (fc 0 0 [] []).toArray 46)).alloc (.cells (fc f t b []).toArray 46)) g (fc 0 0 [] []) 46 := by
    rw [hg]
    exact (Blk.new w _ 46).alloc _
  rw [← hg]
  generalize (w.alloc (.cells (fc 0 0 [] []).toArray 46)).alloc (.cells (fc f t b []).toArray 46) = W at k0 i0 ⊢
  have HG := Lib.hid hg
  clear hg
  refine (may_no f t b [] W h).mono ?_
  rintro e w1 ⟨rfl, k1⟩
  have i1 := i0.below k1
  have k1 := k0.trans (k1.mono k0.size)
  have I1 := Lib.hid i1
  clear k0 i0 i1 h
  go_wp2_with (first | (refine Blk.store_row 46 (.tmp 8) (.tmp 18) rfl rfl g 0 (fc 0 0 [] []) rfl rfl I1.out (by decide) (by kernel_rfl) (fc_one _ _ _ _) ?_) | fail)
  have i2 := Blk.Is.setCells (fc 0 0 [] []) I1.out 0 (by decide)
  rw [put_fc] at i2
  have k2 := Blk.below_setCells (fc 0 0 [] []) k1 (by rw [HG.out]; exact Nat.le_refl _ : w.heap.size ≤ g) 0
  exact bodyPost_ret (results_row_tmp rfl _ _ g 46 (fc 0 0 [] []) rfl i2 _ Try.underlying46 rfl (by kernel_rfl) _ rfl) rfl ⟨rfl, k2⟩
set_option maxHeartbeats 4000000 in
set_option maxRecDepth 100000 in
theorem seal_yes (s : List UInt8) (f t : Int) (b : List UInt8) (w : World) (hs : s.length < 1099511627776) (hb : b.length < 274877906944) (h : may f t b.length) :
    Calls Try.prog 33 #[.string ⟨s.toArray⟩, .int .i64 f, .int .i64 t, .string ⟨b.toArray⟩] w fun e w' => e = .returned (.tuple #[fv f t b (tagOf s f t b), .int .i64 0]) ∧ Below w.heap.size w w' := by
  have hle := ends2_le f t
  have HKL := Lib.hid (hkey_length s f t)
  have HT := Lib.hid (tagOf_is s f t b)
  have HCAT := Lib.hid (cat_bytes (ends2 f t) b)
  go_enter Try.func33, Try.ntmps33
  go_wp2_with fail
  obtain ⟨g, hg⟩ : ∃ g, g = w.heap.size := ⟨_, rfl⟩
  obtain ⟨j, hj⟩ : ∃ j, j = w.heap.size + 1 := ⟨_, rfl⟩
  have k0 : Below w.heap.size w ((w.alloc (.cells (fc 0 0 [] []).toArray 46)).alloc (.cells (fc f t b []).toArray 46)) := ((Below.refl _ _).alloc (Nat.le_refl _) _).alloc (by simp) _
  have i0 : Blk.Is ((w.alloc (.cells (fc 0 0 [] []).toArray 46)).alloc (.cells (fc f t b []).toArray 46)) g (fc 0 0 [] []) 46 := by
    rw [hg]
    exact (Blk.new w _ 46).alloc _
  have j0 : Blk.Is ((w.alloc (.cells (fc 0 0 [] []).toArray 46)).alloc (.cells (fc f t b []).toArray 46)) j (fc f t b []) 46 := by
    rw [hj]
    exact Blk.new' _ _ 46 _ (by simp)
  rw [← hj, ← hg]
  generalize (w.alloc (.cells (fc 0 0 [] []).toArray 46)).alloc (.cells (fc f t b []).toArray 46) = W at k0 i0 j0 ⊢
  have hgj : g ≠ j := by omega
  have hwj : w.heap.size ≤ j := by omega
  have HG := Lib.hid hg
  clear hg hj
  refine (may_yes f t b [] W h).mono ?_
  rintro e w1 ⟨rfl, k1⟩
  have i1 := i0.below k1
  have j1 := j0.below k1
  have k1 := k0.trans (k1.mono k0.size)
  have I1 := Lib.hid i1
  have J1 := Lib.hid j1
  clear k0 i0 i1 j0 j1 h
  go_wp2_with fail
  refine Cls.region_tail (S := Cls.Kept _) 10 (by kernel_rfl) (by kernel_rfl) (Below.refl _ _) ?_
  simp only [List.take_succ_cons, List.take_zero, List.drop_succ_cons, List.drop_zero]
  iterate 3 (go_big_quiet_step (fail))
  go_big_quiet_step ((go_at_call 29; with_reducible refine Cls.calls_kept (key_any s f t _ hs)))
  go_big_quiet_want
  refine quiet_load_in 46 (.tmp 10) rfl j rfl (fc f t b []) _ J1.out.drew Try.underlying46 rfl (by kernel_rfl) ?_
  simp only [Act.put, List.setIfInBounds_toArray, List.set_cons_zero, List.set_cons_succ]
  go_big_quiet_on
  go_big_quiet_step ((go_at_call 57; with_reducible refine Cls.calls_kept (ends_any f t b [] _)))
  iterate 2 (go_big_quiet_step (fail))
  rw [HCAT.out]
  go_big_quiet_step ((go_at_call 27; with_reducible refine Cls.calls_kept (hsum_any (hkey s f t) (ends2 f t ++ b) _ (by rw [HKL.out]; decide) (by rw [List.length_append]; omega))))
  iterate 1 (go_big_quiet_step (fail))
  refine wpQuiet_nil ?_
  intro w2 hw2
  rw [← HT.out]
  have i2 := Blk.Is.below (w := w1.drew) I1.out hw2
  have j2 := Blk.Is.below (w := w1.drew) J1.out hw2
  have k2 := k1.drew.trans (hw2.mono k1.size)
  have c2 : w2.cell? ⟨j, 3, none⟩ = some (.string ⟨#[]⟩) := j2.cell 3
  have f2 := j2.frozen 3
  have j3 := j2.set 3 (.string ⟨(tagOf s f t b).toArray⟩)
  have i3 := i2.other (a := ⟨j, 3, none⟩) hgj (.string ⟨(tagOf s f t b).toArray⟩)
  have k3 : Below w.heap.size w (w2.setCell ⟨j, 3, none⟩ (.string ⟨(tagOf s f t b).toArray⟩)) := k2.setCell hwj _
  have I3 := Lib.hid i3
  have J3 := Lib.hid j3
  clear hw2 i2 j2 k2 i3 j3 I1 J1
  have e3 : (fc f t b []).set 3 (.string ⟨(tagOf s f t b).toArray⟩) = fc f t b (tagOf s f t b) := rfl
  rw [e3] at J3
  clear e3
  go_wp2_with (first | (refine Blk.load_row 46 (.tmp 10) rfl (by rfl) j rfl 46 (fc f t b (tagOf s f t b)) _ J3.out Try.underlying46 rfl (by kernel_rfl) ?_) | (refine Blk.store_row 46 (.tmp 8) (.tmp 29) rfl rfl g 0 (fc f t b (tagOf s f t b)) rfl rfl I3.out (by exact Nat.le_refl 4) (by kernel_rfl) (fc_one _ _ _ _) ?_) | fail)
  have i4 := Blk.Is.setCells (fc f t b (tagOf s f t b)) I3.out 0 (by exact Nat.le_refl 4)
  rw [put_fc] at i4
  have k4 := Blk.below_setCells (fc f t b (tagOf s f t b)) k3 (by rw [HG.out]; exact Nat.le_refl _ : w.heap.size ≤ g) 0
  exact bodyPost_ret (results_row_tmp rfl _ _ g 46 (fc f t b (tagOf s f t b)) rfl i4 _ Try.underlying46 rfl (by kernel_rfl) _ rfl) rfl ⟨rfl, k4⟩
set_option maxHeartbeats 4000000 in
set_option maxRecDepth 100000 in
theorem rseal_no (s : List UInt8) (f t : Int) (b : List UInt8) (w : World) (h : ¬ may f t b.length) :
    Calls Try.prog 34 #[.string ⟨s.toArray⟩, .int .i64 f, .int .i64 t, .string ⟨b.toArray⟩] w fun e w' => e = .returned (.tuple #[fv 0 0 [] [], .int .i64 1]) ∧ Below w.heap.size w w' := by
  by_cases h1 : 1 ≤ f ∧ f ≤ 255
  · by_cases h2 : 1 ≤ t ∧ t ≤ 255
    · have h5 : ¬ b.length ≤ 8192 := fun h5 => h ⟨h1.1, h1.2, h2.1, h2.2, h5⟩
      have d5 : decide ((8192 : Int) < (b.length : Int)) = true := decide_eq_true (by omega)
      have H1 := Lib.hid h1
      have H2 := Lib.hid h2
      clear h h1 h2
      go_enter Try.func34, Try.ntmps34
      go_wp2_with fail
      obtain ⟨g, hg⟩ : ∃ g, g = w.heap.size := ⟨_, rfl⟩
      have k0 : Below w.heap.size w (w.alloc (.cells (fc 0 0 [] []).toArray 46)) := (Below.refl _ _).alloc (Nat.le_refl _) _
      have i0 : Blk.Is (w.alloc (.cells (fc 0 0 [] []).toArray 46)) g (fc 0 0 [] []) 46 := by
        rw [hg]
        exact Blk.new w _ 46
      rw [← hg]
      generalize w.alloc (.cells (fc 0 0 [] []).toArray 46) = W at k0 i0 ⊢
      have HG := Lib.hid hg
      have I0 := Lib.hid i0
      clear hg i0
      refine (end_yes f W H1.out.1 H1.out.2).mono ?_
      rintro e w1 ⟨rfl, rfl⟩
      go_wp2_with fail
      refine (end_yes t W H2.out.1 H2.out.2).mono ?_
      rintro e w1 ⟨rfl, rfl⟩
      go_wp2_with (first | (refine Blk.store_row 46 (.tmp 8) (.tmp 23) rfl rfl g 0 (fc 0 0 [] []) rfl rfl I0.out (by exact Nat.le_refl 4) (by kernel_rfl) (fc_one _ _ _ _) ?_) | fail)
      have i2 := Blk.Is.setCells (fc 0 0 [] []) I0.out 0 (by exact Nat.le_refl 4)
      rw [put_fc] at i2
      have k2 := Blk.below_setCells (fc 0 0 [] []) k0 (by rw [HG.out]; exact Nat.le_refl _ : w.heap.size ≤ g) 0
      exact bodyPost_ret (results_row_tmp rfl _ _ g 46 (fc 0 0 [] []) rfl i2 _ Try.underlying46 rfl (by kernel_rfl) _ rfl) rfl ⟨rfl, k2⟩
    · have H1 := Lib.hid h1
      have H2 := Lib.hid h2
      clear h h1 h2
      go_enter Try.func34, Try.ntmps34
      go_wp2_with fail
      obtain ⟨g, hg⟩ : ∃ g, g = w.heap.size := ⟨_, rfl⟩
      have k0 : Below w.heap.size w (w.alloc (.cells (fc 0 0 [] []).toArray 46)) := (Below.refl _ _).alloc (Nat.le_refl _) _
      have i0 : Blk.Is (w.alloc (.cells (fc 0 0 [] []).toArray 46)) g (fc 0 0 [] []) 46 := by
        rw [hg]
        exact Blk.new w _ 46
      rw [← hg]
      generalize w.alloc (.cells (fc 0 0 [] []).toArray 46) = W at k0 i0 ⊢
      have HG := Lib.hid hg
      have I0 := Lib.hid i0
      clear hg i0
      refine (end_yes f W H1.out.1 H1.out.2).mono ?_
      rintro e w1 ⟨rfl, rfl⟩
      go_wp2_with fail
      refine (end_no t W H2.out).mono ?_
      rintro e w1 ⟨rfl, rfl⟩
      go_wp2_with (first | (refine Blk.store_row 46 (.tmp 8) (.tmp 23) rfl rfl g 0 (fc 0 0 [] []) rfl rfl I0.out (by exact Nat.le_refl 4) (by kernel_rfl) (fc_one _ _ _ _) ?_) | fail)
      have i2 := Blk.Is.setCells (fc 0 0 [] []) I0.out 0 (by exact Nat.le_refl 4)
      rw [put_fc] at i2
      have k2 := Blk.below_setCells (fc 0 0 [] []) k0 (by rw [HG.out]; exact Nat.le_refl _ : w.heap.size ≤ g) 0
      exact bodyPost_ret (results_row_tmp rfl _ _ g 46 (fc 0 0 [] []) rfl i2 _ Try.underlying46 rfl (by kernel_rfl) _ rfl) rfl ⟨rfl, k2⟩
  · have H1 := Lib.hid h1
    clear h h1
    go_enter Try.func34, Try.ntmps34
    go_wp2_with fail
    obtain ⟨g, hg⟩ : ∃ g, g = w.heap.size := ⟨_, rfl⟩
    have k0 : Below w.heap.size w (w.alloc (.cells (fc 0 0 [] []).toArray 46)) := (Below.refl _ _).alloc (Nat.le_refl _) _
    have i0 : Blk.Is (w.alloc (.cells (fc 0 0 [] []).toArray 46)) g (fc 0 0 [] []) 46 := by
      rw [hg]
      exact Blk.new w _ 46
    rw [← hg]
    generalize w.alloc (.cells (fc 0 0 [] []).toArray 46) = W at k0 i0 ⊢
    have HG := Lib.hid hg
    have I0 := Lib.hid i0
    clear hg i0
    refine (end_no f W H1.out).mono ?_
    rintro e w1 ⟨rfl, rfl⟩
    go_wp2_with (first | (refine Blk.store_row 46 (.tmp 8) (.tmp 23) rfl rfl g 0 (fc 0 0 [] []) rfl rfl I0.out (by exact Nat.le_refl 4) (by kernel_rfl) (fc_one _ _ _ _) ?_) | fail)
    have i2 := Blk.Is.setCells (fc 0 0 [] []) I0.out 0 (by exact Nat.le_refl 4)
    rw [put_fc] at i2
    have k2 := Blk.below_setCells (fc 0 0 [] []) k0 (by rw [HG.out]; exact Nat.le_refl _ : w.heap.size ≤ g) 0
    exact bodyPost_ret (results_row_tmp rfl _ _ g 46 (fc 0 0 [] []) rfl i2 _ Try.underlying46 rfl (by kernel_rfl) _ rfl) rfl ⟨rfl, k2⟩
set_option maxHeartbeats 4000000 in
set_option maxRecDepth 100000 in
theorem rseal_yes (s : List UInt8) (f t : Int) (b : List UInt8) (w : World) (hs : s.length < 1099511627776) (hb : b.length < 274877906944) (h : may f t b.length) :
    Calls Try.prog 34 #[.string ⟨s.toArray⟩, .int .i64 f, .int .i64 t, .string ⟨b.toArray⟩] w fun e w' => e = .returned (.tuple #[fv f t b (tagOf s f t b), .int .i64 0]) ∧ Below w.heap.size w w' := by
  obtain ⟨h1, h2, h3, h4, h5⟩ := h
  have d5 : decide ((8192 : Int) < (b.length : Int)) = false := decide_eq_false (by omega)
  have H1 := Lib.hid h1
  have H2 := Lib.hid h2
  have H3 := Lib.hid h3
  have H4 := Lib.hid h4
  clear h1 h2 h3 h4
  go_enter Try.func34, Try.ntmps34
  go_wp2_with fail
  obtain ⟨g, hg⟩ : ∃ g, g = w.heap.size := ⟨_, rfl⟩
  have k0 : Below w.heap.size w (w.alloc (.cells (fc 0 0 [] []).toArray 46)) := (Below.refl _ _).alloc (Nat.le_refl _) _
  have i0 : Blk.Is (w.alloc (.cells (fc 0 0 [] []).toArray 46)) g (fc 0 0 [] []) 46 := by
    rw [hg]
    exact Blk.new w _ 46
  rw [← hg]
  generalize w.alloc (.cells (fc 0 0 [] []).toArray 46) = W at k0 i0 ⊢
  have HG := Lib.hid hg
  have I0 := Lib.hid i0
  clear hg i0
  refine (end_yes f W H1.out H2.out).mono ?_
  rintro e w1 ⟨rfl, rfl⟩
  go_wp2_with fail
  refine (end_yes t W H3.out H4.out).mono ?_
  rintro e w1 ⟨rfl, rfl⟩
  go_wp2_with fail
  refine (rtag_any s f t b W hs hb).mono ?_
  rintro e w1 ⟨rfl, k1⟩
  have i1 := I0.out.below k1
  have k1 := k0.trans (k1.mono k0.size)
  have I1 := Lib.hid i1
  clear k0 I0 i1
  go_wp2_with (first | (refine Blk.store_row 46 (.tmp 8) (.tmp 32) rfl rfl g 0 (fc f t b (tagOf s f t b)) rfl rfl I1.out (by exact Nat.le_refl 4) (by kernel_rfl) (fc_one _ _ _ _) ?_) | fail)
  have i2 := Blk.Is.setCells (fc f t b (tagOf s f t b)) I1.out 0 (by exact Nat.le_refl 4)
  rw [put_fc] at i2
  have k2 := Blk.below_setCells (fc f t b (tagOf s f t b)) k1 (by rw [HG.out]; exact Nat.le_refl _ : w.heap.size ≤ g) 0
  exact bodyPost_ret (results_row_tmp rfl _ _ g 46 (fc f t b (tagOf s f t b)) rfl i2 _ Try.underlying46 rfl (by kernel_rfl) _ rfl) rfl ⟨rfl, k2⟩
end Go.Proofs.Yticegglphmgoaaa.Sha
