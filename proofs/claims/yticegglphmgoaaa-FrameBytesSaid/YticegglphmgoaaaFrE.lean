/- A frame's bytes. Conditions: fewer than 2^38 bytes. -/
import Derived.Test.YticegglphmgoaaaFrD
namespace Go.Proofs.Yticegglphmgoaaa.Sha
open Go.RowKit
open Blk (nats)
/-- The bytes of a frame that may be. -/
def bytesOf (f t : Int) (b g : List UInt8) : List UInt8 := ends2 f t ++ g ++ b
theorem bytesOf_is (f t : Int) (b g : List UInt8) : bytesOf f t b g = ends2 f t ++ g ++ b := rfl
theorem results_two {P : Program} {fn : Func} {t u : Tmp} (h : fn.results = #[.tmp t, .tmp u]) (tmps : Array Value) (w : World) (x y : Value) (hx : tmps.getD t undef = x) (hy : tmps.getD u undef = y) : (results fn tmps).run P w = .ok (.tuple #[x, y]) w := by
  rw [results_tmp2 h, hx, hy]
attribute [local irreducible] endsOf ends2 hmac hkey tagOf bytesOf
set_option maxHeartbeats 4000000 in
set_option maxRecDepth 100000 in
theorem bytes_no (f t : Int) (b g : List UInt8) (w : World) (h : ¬ (may f t b.length ∧ g.length = 32)) :
    Calls Try.prog 37 #[fv f t b g] w fun e w' => e = .returned (.tuple #[.string ⟨#[]⟩, .int .i64 1]) ∧ Below w.heap.size w w' := by
  have k0 : Below w.heap.size w (w.alloc (.cells (fc f t b g).toArray 46)) := (Below.refl _ _).alloc (Nat.le_refl _) _
  by_cases hm : may f t b.length
  · have hl : ¬ g.length = 32 := fun e => h ⟨hm, e⟩
    have hd : ((g.length : Int) != 32) = true := by rw [bne_iff_ne]; omega
    have HM := Lib.hid hm
    have HI := Lib.hid (fr_new w f t b g w.heap.size rfl)
    clear h hm hl
    go_enter Try.func37, Try.ntmps37
    go_wp2_with fail
    obtain ⟨c, hc⟩ : ∃ c, c = w.heap.size := ⟨_, rfl⟩
    rw [← hc] at HI ⊢
    have HC := Lib.hid hc
    clear hc
    generalize w.alloc (.cells (fc f t b g).toArray 46) = W at k0 HI ⊢
    refine (may_yes f t b g W HM.out).mono ?_
    rintro e w1 ⟨rfl, k1⟩
    have i1 := HI.out.below k1
    have k1 := k0.trans (k1.mono k0.size)
    have c3 : w1.cell? ⟨c, 3, none⟩ = some (.string ⟨g.toArray⟩) := i1.cell 3
    clear HI k0 i1
    go_wp2_with fail
    exact bodyPost_ret (results_two rfl _ _ _ _ rfl rfl) rfl ⟨rfl, k1⟩
  · clear h
    go_enter Try.func37, Try.ntmps37
    go_wp2_with fail
    generalize w.alloc (.cells (fc f t b g).toArray 46) = W at k0 ⊢
    refine (may_no f t b g W hm).mono ?_
    rintro e w1 ⟨rfl, k1⟩
    have k1 := k0.trans (k1.mono k0.size)
    clear k0 hm
    go_wp2_with fail
    exact bodyPost_ret (results_two rfl _ _ _ _ rfl rfl) rfl ⟨rfl, k1⟩
set_option maxHeartbeats 4000000 in
set_option maxRecDepth 100000 in
theorem bytes_yes (f t : Int) (b g : List UInt8) (w : World) (hm : may f t b.length) (hl : g.length = 32) :
    Calls Try.prog 37 #[fv f t b g] w fun e w' => e = .returned (.tuple #[.string ⟨(bytesOf f t b g).toArray⟩, .int .i64 0]) ∧ Below w.heap.size w w' := by
  have k0 : Below w.heap.size w (w.alloc (.cells (fc f t b g).toArray 46)) := (Below.refl _ _).alloc (Nat.le_refl _) _
  have hd : ((g.length : Int) != 32) = false := by rw [hl]; rfl
  have hle := ends2_le f t
  have hgl : g.length ≤ 32 := by omega
  have hbl : b.length ≤ 8192 := hm.2.2.2.2
  have hel : (ends2 f t ++ g).length ≤ 34 := by rw [List.length_append]; omega
  have HB := Lib.hid (bytesOf_is f t b g)
  have HC1 := Lib.hid (cat_bytes (ends2 f t) g)
  have HC2 := Lib.hid (cat_bytes (ends2 f t ++ g) b)
  have HM := Lib.hid hm
  have HI := Lib.hid (fr_new w f t b g w.heap.size rfl)
  clear hm hl
  go_enter Try.func37, Try.ntmps37
  go_wp2_with fail
  obtain ⟨c, hc⟩ : ∃ c, c = w.heap.size := ⟨_, rfl⟩
  rw [← hc] at HI ⊢
  have HC := Lib.hid hc
  clear hc
  generalize w.alloc (.cells (fc f t b g).toArray 46) = W at k0 HI ⊢
  refine (may_yes f t b g W HM.out).mono ?_
  rintro e w1 ⟨rfl, k1⟩
  have i1 := HI.out.below k1
  have k1 := k0.trans (k1.mono k0.size)
  have c3 : w1.cell? ⟨c, 3, none⟩ = some (.string ⟨g.toArray⟩) := i1.cell 3
  have q3 := Cls.Wd.cell (w0 := w1.drew) c3
  have q2 := Cls.Wd.cell (w0 := w1.drew) (p := ⟨c, 2, none⟩) (v := .string ⟨b.toArray⟩) (i1.cell 2)
  have I1 := Lib.hid i1
  clear HI k0 i1
  go_wp2_with fail
  refine Cls.region_tail (S := Cls.Kept _) 8 (by kernel_rfl) (by kernel_rfl) (Below.refl _ _) ?_
  simp only [List.take_succ_cons, List.take_zero, List.drop_succ_cons, List.drop_zero]
  go_big_quiet_want
  refine quiet_load_in 46 (.tmp 1) rfl c rfl (fc f t b g) _ I1.out.drew Try.underlying46 rfl (by kernel_rfl) ?_
  simp only [Act.put, List.setIfInBounds_toArray, List.set_cons_zero, List.set_cons_succ]
  go_big_quiet_on
  go_big_quiet_step ((go_at_call 57; with_reducible refine Cls.calls_kept (ends_any f t b g _)))
  iterate 3 (go_big_quiet_step (fail))
  rw [HC1.out]
  iterate 3 (go_big_quiet_step (fail))
  rw [HC2.out, ← HB.out]
  refine wpQuiet_nil ?_
  intro w2 hw2
  have k2 := k1.drew.trans (hw2.mono k1.size)
  clear hw2 k1 q2 q3 c3
  go_wp2
  exact bodyPost_ret (results_two rfl _ _ _ _ rfl rfl) rfl ⟨rfl, k2⟩
set_option maxHeartbeats 4000000 in
set_option maxRecDepth 100000 in
theorem rbytes_no (f t : Int) (b g : List UInt8) (w : World) (h : ¬ (may f t b.length ∧ g.length = 32)) :
    Calls Try.prog 38 #[fv f t b g] w fun e w' => e = .returned (.tuple #[.string ⟨#[]⟩, .int .i64 1]) ∧ Below w.heap.size w w' := by
  by_cases h1 : 1 ≤ f ∧ f ≤ 255
  · by_cases h2 : 1 ≤ t ∧ t ≤ 255
    · by_cases hl : g.length = 32
      · have h5 : ¬ b.length ≤ 8192 := fun h5 => h ⟨⟨h1.1, h1.2, h2.1, h2.2, h5⟩, hl⟩
        have k0 : Below w.heap.size w (w.alloc (.cells (fc f t b g).toArray 46)) := (Below.refl _ _).alloc (Nat.le_refl _) _
        have HI := Lib.hid (fr_new w f t b g w.heap.size rfl)
        have d5 : decide ((8192 : Int) < (b.length : Int)) = true := decide_eq_true (by omega)
        have hd : ((g.length : Int) != 32) = false := by rw [hl]; rfl
        have H1 := Lib.hid h1
        have H2 := Lib.hid h2
        clear h h1 h2 hl h5
        go_enter Try.func38, Try.ntmps38
        go_wp2_with fail
        obtain ⟨c, hc⟩ : ∃ c, c = w.heap.size := ⟨_, rfl⟩
        rw [← hc] at HI ⊢
        have HC := Lib.hid hc
        clear hc
        generalize w.alloc (.cells (fc f t b g).toArray 46) = W at k0 HI ⊢
        have q0 : W.cell? ⟨c, 0, none⟩ = some (.int .i64 f) := HI.out.cell 0
        have q1 : W.cell? ⟨c, 1, none⟩ = some (.int .i64 t) := HI.out.cell 1
        have q2 : W.cell? ⟨c, 2, none⟩ = some (.string ⟨b.toArray⟩) := HI.out.cell 2
        have q3 : W.cell? ⟨c, 3, none⟩ = some (.string ⟨g.toArray⟩) := HI.out.cell 3
        clear HI
        refine (end_yes f W H1.out.1 H1.out.2).mono ?_
        rintro e w1 ⟨rfl, rfl⟩
        go_wp2_with fail
        refine (end_yes t W H2.out.1 H2.out.2).mono ?_
        rintro e w1 ⟨rfl, rfl⟩
        go_wp2_with fail
        exact bodyPost_ret (results_two rfl _ _ _ _ rfl rfl) rfl ⟨rfl, k0⟩
      · have k0 : Below w.heap.size w (w.alloc (.cells (fc f t b g).toArray 46)) := (Below.refl _ _).alloc (Nat.le_refl _) _
        have HI := Lib.hid (fr_new w f t b g w.heap.size rfl)
        have hd : ((g.length : Int) != 32) = true := by rw [bne_iff_ne]; omega
        have H1 := Lib.hid h1
        have H2 := Lib.hid h2
        clear h h1 h2 hl
        go_enter Try.func38, Try.ntmps38
        go_wp2_with fail
        obtain ⟨c, hc⟩ : ∃ c, c = w.heap.size := ⟨_, rfl⟩
        rw [← hc] at HI ⊢
        have HC := Lib.hid hc
        clear hc
        generalize w.alloc (.cells (fc f t b g).toArray 46) = W at k0 HI ⊢
        have q0 : W.cell? ⟨c, 0, none⟩ = some (.int .i64 f) := HI.out.cell 0
        have q1 : W.cell? ⟨c, 1, none⟩ = some (.int .i64 t) := HI.out.cell 1
        have q2 : W.cell? ⟨c, 2, none⟩ = some (.string ⟨b.toArray⟩) := HI.out.cell 2
        have q3 : W.cell? ⟨c, 3, none⟩ = some (.string ⟨g.toArray⟩) := HI.out.cell 3
        clear HI
        refine (end_yes f W H1.out.1 H1.out.2).mono ?_
        rintro e w1 ⟨rfl, rfl⟩
        go_wp2_with fail
        refine (end_yes t W H2.out.1 H2.out.2).mono ?_
        rintro e w1 ⟨rfl, rfl⟩
        go_wp2_with fail
        exact bodyPost_ret (results_two rfl _ _ _ _ rfl rfl) rfl ⟨rfl, k0⟩
    · have k0 : Below w.heap.size w (w.alloc (.cells (fc f t b g).toArray 46)) := (Below.refl _ _).alloc (Nat.le_refl _) _
      have HI := Lib.hid (fr_new w f t b g w.heap.size rfl)
      have H1 := Lib.hid h1
      have H2 := Lib.hid h2
      clear h h1 h2
      go_enter Try.func38, Try.ntmps38
      go_wp2_with fail
      obtain ⟨c, hc⟩ : ∃ c, c = w.heap.size := ⟨_, rfl⟩
      rw [← hc] at HI ⊢
      have HC := Lib.hid hc
      clear hc
      generalize w.alloc (.cells (fc f t b g).toArray 46) = W at k0 HI ⊢
      have q0 : W.cell? ⟨c, 0, none⟩ = some (.int .i64 f) := HI.out.cell 0
      have q1 : W.cell? ⟨c, 1, none⟩ = some (.int .i64 t) := HI.out.cell 1
      have q2 : W.cell? ⟨c, 2, none⟩ = some (.string ⟨b.toArray⟩) := HI.out.cell 2
      have q3 : W.cell? ⟨c, 3, none⟩ = some (.string ⟨g.toArray⟩) := HI.out.cell 3
      clear HI
      refine (end_yes f W H1.out.1 H1.out.2).mono ?_
      rintro e w1 ⟨rfl, rfl⟩
      go_wp2_with fail
      refine (end_no t W H2.out).mono ?_
      rintro e w1 ⟨rfl, rfl⟩
      go_wp2_with fail
      exact bodyPost_ret (results_two rfl _ _ _ _ rfl rfl) rfl ⟨rfl, k0⟩
  · have k0 : Below w.heap.size w (w.alloc (.cells (fc f t b g).toArray 46)) := (Below.refl _ _).alloc (Nat.le_refl _) _
    have HI := Lib.hid (fr_new w f t b g w.heap.size rfl)
    have H1 := Lib.hid h1
    clear h h1
    go_enter Try.func38, Try.ntmps38
    go_wp2_with fail
    obtain ⟨c, hc⟩ : ∃ c, c = w.heap.size := ⟨_, rfl⟩
    rw [← hc] at HI ⊢
    have HC := Lib.hid hc
    clear hc
    generalize w.alloc (.cells (fc f t b g).toArray 46) = W at k0 HI ⊢
    have q0 : W.cell? ⟨c, 0, none⟩ = some (.int .i64 f) := HI.out.cell 0
    have q1 : W.cell? ⟨c, 1, none⟩ = some (.int .i64 t) := HI.out.cell 1
    have q2 : W.cell? ⟨c, 2, none⟩ = some (.string ⟨b.toArray⟩) := HI.out.cell 2
    have q3 : W.cell? ⟨c, 3, none⟩ = some (.string ⟨g.toArray⟩) := HI.out.cell 3
    clear HI
    refine (end_no f W H1.out).mono ?_
    rintro e w1 ⟨rfl, rfl⟩
    go_wp2_with fail
    exact bodyPost_ret (results_two rfl _ _ _ _ rfl rfl) rfl ⟨rfl, k0⟩
set_option maxHeartbeats 4000000 in
set_option maxRecDepth 100000 in
theorem rbytes_yes (f t : Int) (b g : List UInt8) (w : World) (hm : may f t b.length) (hl : g.length = 32) :
    Calls Try.prog 38 #[fv f t b g] w fun e w' => e = .returned (.tuple #[.string ⟨(bytesOf f t b g).toArray⟩, .int .i64 0]) ∧ Below w.heap.size w w' := by
  have k0 : Below w.heap.size w (w.alloc (.cells (fc f t b g).toArray 46)) := (Below.refl _ _).alloc (Nat.le_refl _) _
  have HI := Lib.hid (fr_new w f t b g w.heap.size rfl)
  have d5 : decide ((8192 : Int) < (b.length : Int)) = false := decide_eq_false (by have := hm.2.2.2.2; omega)
  have hd : ((g.length : Int) != 32) = false := by rw [hl]; rfl
  have hle := ends2_le f t
  have hgl : g.length ≤ 32 := by omega
  have hbl : b.length ≤ 8192 := hm.2.2.2.2
  have hel : (ends2 f t ++ g).length ≤ 34 := by rw [List.length_append]; omega
  have HB := Lib.hid (bytesOf_is f t b g)
  have HC1 := Lib.hid (cat_bytes (ends2 f t) g)
  have HC2 := Lib.hid (cat_bytes (ends2 f t ++ g) b)
  have H1 := Lib.hid (And.intro hm.1 hm.2.1)
  have H2 := Lib.hid (And.intro hm.2.2.1 hm.2.2.2.1)
  clear hm hl
  go_enter Try.func38, Try.ntmps38
  go_wp2_with fail
  obtain ⟨c, hc⟩ : ∃ c, c = w.heap.size := ⟨_, rfl⟩
  rw [← hc] at HI ⊢
  have HC := Lib.hid hc
  clear hc
  generalize w.alloc (.cells (fc f t b g).toArray 46) = W at k0 HI ⊢
  have q0 : W.cell? ⟨c, 0, none⟩ = some (.int .i64 f) := HI.out.cell 0
  have q1 : W.cell? ⟨c, 1, none⟩ = some (.int .i64 t) := HI.out.cell 1
  have q2 : W.cell? ⟨c, 2, none⟩ = some (.string ⟨b.toArray⟩) := HI.out.cell 2
  have q3 : W.cell? ⟨c, 3, none⟩ = some (.string ⟨g.toArray⟩) := HI.out.cell 3
  clear HI
  refine (end_yes f W H1.out.1 H1.out.2).mono ?_
  rintro e w1 ⟨rfl, rfl⟩
  go_wp2_with fail
  refine (end_yes t W H2.out.1 H2.out.2).mono ?_
  rintro e w1 ⟨rfl, rfl⟩
  have k1 := k0.alloc k0.size (.cells #[.int .u8 (f % 256), .int .u8 (t % 256)] 5)
  have r3 := (((Below.refl W.heap.size W).alloc (Nat.le_refl _) (.cells #[.int .u8 (f % 256), .int .u8 (t % 256)] 5)).cell (World.block_lt_of_cell? _ _ q3)).trans q3
  have r2 := (((Below.refl W.heap.size W).alloc (Nat.le_refl _) (.cells #[.int .u8 (f % 256), .int .u8 (t % 256)] 5)).cell (World.block_lt_of_cell? _ _ q2)).trans q2
  go_wp2_with (first | (refine text_two kit rfl (.tmp 32) rfl W.heap.size 2 (f % 256) (t % 256) rfl (by simp) (by simp) (by omega) (by omega) (by omega) (by omega) ?_; rw [ends2_is]) | fail)
  rw [HC1.out, HC2.out, ← HB.out]
  exact bodyPost_ret (results_two rfl _ _ _ _ rfl rfl) rfl ⟨rfl, k1⟩
end Go.Proofs.Yticegglphmgoaaa.Sha
