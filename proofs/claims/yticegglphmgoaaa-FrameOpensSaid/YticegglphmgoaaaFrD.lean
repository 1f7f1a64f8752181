/- Whether a frame has the tag that it must have. Conditions: fewer than 2^38 bytes. -/
import Derived.Test.YticegglphmgoaaaFrC
import Derived.Laws.StructEq
namespace Go.Proofs.Yticegglphmgoaaa.Sha
open Go.RowKit
open Blk (nats)
/-- A frame in a new block. -/
theorem fr_new (w : World) (f t : Int) (b g : List UInt8) (n : Nat) (h : n = w.heap.size) : Blk.Is (w.alloc (.cells (fc f t b g).toArray 46)) n (fc f t b g) 46 := Blk.new' w _ 46 n h
attribute [local irreducible] endsOf ends2 hmac hkey tagOf
set_option maxHeartbeats 4000000 in
set_option maxRecDepth 100000 in
theorem opens_any (s : List UInt8) (f t : Int) (b g : List UInt8) (w : World) (hs : s.length < 1099511627776) (hb : b.length < 274877906944) (hg : g.length < 1099511627776) :
    Calls Try.prog 35 #[.string ⟨s.toArray⟩, fv f t b g] w fun e w' => e = .returned (.bool (decide (may f t b.length ∧ g = tagOf s f t b))) ∧ Below w.heap.size w w' := by
  have k0 : Below w.heap.size w (w.alloc (.cells (fc f t b g).toArray 46)) := (Below.refl _ _).alloc (Nat.le_refl _) _
  obtain ⟨c, hc⟩ : ∃ c, c = w.heap.size := ⟨_, rfl⟩
  have HI := Lib.hid (fr_new w f t b g c hc)
  have hcs : c < (w.alloc (.cells (fc f t b g).toArray 46)).heap.size := HI.out.lt
  have HC := Lib.hid hc
  clear hc
  by_cases h : may f t b.length
  · have H := Lib.hid h
    have HL := Lib.hid (tagOf_length s f t b)
    have HR : Hid (decide (may f t b.length ∧ g = tagOf s f t b) = decide (g = tagOf s f t b)) := by
      have : decide (may f t b.length ∧ g = tagOf s f t b) = decide (g = tagOf s f t b) := by simp [h]
      exact Lib.hid this
    rw [HR.out]
    clear h
    go_enter Try.func35, Try.ntmps35
    go_wp2_with fail
    rw [← HC.out]
    generalize w.alloc (.cells (fc f t b g).toArray 46) = W at k0 HI hcs ⊢
    refine (seal_yes s f t b W hs hb H.out).mono ?_
    rintro e w1 ⟨rfl, k1⟩
    have i1 := HI.out.below k1
    have k1 := k0.trans (k1.mono k0.size)
    obtain ⟨j, hj⟩ : ∃ j, j = w1.heap.size := ⟨_, rfl⟩
    have i2 := i1.alloc (.cells (fc f t b (tagOf s f t b)).toArray 46)
    have j2 := fr_new w1 f t b (tagOf s f t b) j hj
    have k2 := k1.alloc k1.size (.cells (fc f t b (tagOf s f t b)).toArray 46)
    have c3 : (w1.alloc (.cells (fc f t b (tagOf s f t b)).toArray 46)).cell? ⟨c, 3, none⟩ = some (.string ⟨g.toArray⟩) := i2.cell 3
    have d3 : (w1.alloc (.cells (fc f t b (tagOf s f t b)).toArray 46)).cell? ⟨j, 3, none⟩ = some (.string ⟨(tagOf s f t b).toArray⟩) := j2.cell 3
    have HJ := Lib.hid hj
    have I2 := Lib.hid i2
    have J2 := Lib.hid j2
    have C3 := Lib.hid c3
    have D3 := Lib.hid d3
    clear k0 k1 i1 HI hj i2 j2 c3 d3
    go_upto_region 2 with (fail)
    rw [← HJ.out]
    generalize w1.alloc (.cells (fc f t b (tagOf s f t b)).toArray 46) = W2 at k2 I2 J2 C3 D3 ⊢
    have c3 := C3.out
    have d3 := D3.out
    clear C3 D3 HJ k1
    go_wp2_with fail
    refine (same_any g (tagOf s f t b) W2 hg (by rw [HL.out]; decide)).mono ?_
    rintro e w3 ⟨rfl, k3⟩
    have i3 := I2.out.below k3
    have j3 := J2.out.below k3
    have k3 := k2.trans (k3.mono k2.size)
    clear k2 I2 J2 c3 d3
    by_cases ht : g = tagOf s f t b
    · have HE := Lib.hid (show decide (g = tagOf s f t b) = true by simpa using ht)
      rw [HE.out]
      rw [ht] at i3
      have I3 := Lib.hid i3
      have J3 := Lib.hid j3
      clear ht i3 j3
      go_wp2_with (first | (refine Blk.load_row 46 (.tmp 3) rfl (by rfl) c rfl 46 (fc f t b (tagOf s f t b)) _ I3.out Try.underlying46 rfl (by kernel_rfl) ?_) | (refine Blk.load_row 46 (.tmp 5) rfl (by rfl) j rfl 46 (fc f t b (tagOf s f t b)) _ J3.out Try.underlying46 rfl (by kernel_rfl) ?_) | fail)
      exact bodyPost_ret (results_tmp rfl _ _ _) rfl ⟨by rw [HE.out]; rfl, k3⟩
    · have HE := Lib.hid (show decide (g = tagOf s f t b) = false by simpa using ht)
      rw [HE.out]
      clear ht i3 j3
      go_wp2_with fail
      exact bodyPost_ret (results_tmp rfl _ _ _) rfl ⟨by rw [HE.out]; rfl, k3⟩
  · rw [show decide (may f t b.length ∧ g = tagOf s f t b) = false by simp [h]]
    go_enter Try.func35, Try.ntmps35
    go_wp2_with fail
    refine (seal_no s f t b _ h).mono ?_
    rintro e w1 ⟨rfl, k1⟩
    have k1 := k0.trans (k1.mono k0.size)
    have k2 := k1.alloc k1.size (.cells (fc 0 0 [] []).toArray 46)
    go_wp2_with fail
    exact bodyPost_ret (results_tmp rfl _ _ _) rfl ⟨rfl, k2⟩
set_option maxHeartbeats 4000000 in
set_option maxRecDepth 100000 in
theorem ropens_any (s : List UInt8) (f t : Int) (b g : List UInt8) (w : World) (hs : s.length < 1099511627776) (hb : b.length < 274877906944) :
    Calls Try.prog 36 #[.string ⟨s.toArray⟩, fv f t b g] w fun e w' => e = .returned (.bool (decide (may f t b.length ∧ g = tagOf s f t b))) ∧ Below w.heap.size w w' := by
  have k0 : Below w.heap.size w (w.alloc (.cells (fc f t b g).toArray 46)) := (Below.refl _ _).alloc (Nat.le_refl _) _
  obtain ⟨c, hc⟩ : ∃ c, c = w.heap.size := ⟨_, rfl⟩
  have HI := Lib.hid (fr_new w f t b g c hc)
  have hcs : c < (w.alloc (.cells (fc f t b g).toArray 46)).heap.size := HI.out.lt
  have HC := Lib.hid hc
  clear hc
  by_cases h : may f t b.length
  · have H := Lib.hid h
    have HR : Hid (decide (may f t b.length ∧ g = tagOf s f t b) = decide (g = tagOf s f t b)) := by
      have : decide (may f t b.length ∧ g = tagOf s f t b) = decide (g = tagOf s f t b) := by simp [h]
      exact Lib.hid this
    rw [HR.out]
    clear h
    go_enter Try.func36, Try.ntmps36
    go_wp2_with fail
    rw [← HC.out]
    generalize w.alloc (.cells (fc f t b g).toArray 46) = W at k0 HI hcs ⊢
    refine (rseal_yes s f t b W hs hb H.out).mono ?_
    rintro e w1 ⟨rfl, k1⟩
    have i1 := HI.out.below k1
    have k1 := k0.trans (k1.mono k0.size)
    obtain ⟨j, hj⟩ : ∃ j, j = w1.heap.size := ⟨_, rfl⟩
    have i2 := i1.alloc (.cells (fc f t b (tagOf s f t b)).toArray 46)
    have j2 := fr_new w1 f t b (tagOf s f t b) j hj
    have k2 := k1.alloc k1.size (.cells (fc f t b (tagOf s f t b)).toArray 46)
    have HJ := Lib.hid hj
    have I2 := Lib.hid i2
    have J2 := Lib.hid j2
    clear k0 k1 i1 HI hj i2 j2
    go_upto_region 2 with (fail)
    rw [← HJ.out]
    generalize w1.alloc (.cells (fc f t b (tagOf s f t b)).toArray 46) = W2 at k2 I2 J2 ⊢
    clear HJ k1
    by_cases ht : g = tagOf s f t b
    · have HE := Lib.hid (show decide (g = tagOf s f t b) = true by simpa using ht)
      have i3 := I2.out
      rw [ht] at i3
      have I3 := Lib.hid i3
      clear ht i3 I2
      go_wp2_with (first | (refine Blk.load_row 46 (.tmp 3) rfl (by rfl) c rfl 46 (fc f t b (tagOf s f t b)) _ I3.out Try.underlying46 rfl (by kernel_rfl) ?_) | (refine Blk.load_row 46 (.tmp 5) rfl (by rfl) j rfl 46 (fc f t b (tagOf s f t b)) _ J2.out Try.underlying46 rfl (by kernel_rfl) ?_) | fail)
      exact bodyPost_ret (results_tmp rfl _ _ _) rfl ⟨by rw [HE.out]; rfl, k2⟩
    · have HE := Lib.hid (show decide (g = tagOf s f t b) = false by simpa using ht)
      have hn : ¬ tagOf s f t b = g := fun e => ht e.symm
      go_wp2_with (first | (refine Blk.load_row 46 (.tmp 3) rfl (by rfl) c rfl 46 (fc f t b g) _ I2.out Try.underlying46 rfl (by kernel_rfl) ?_) | (refine Blk.load_row 46 (.tmp 5) rfl (by rfl) j rfl 46 (fc f t b (tagOf s f t b)) _ J2.out Try.underlying46 rfl (by kernel_rfl) ?_) | fail)
      exact bodyPost_ret (results_tmp rfl _ _ _) rfl ⟨by rw [HE.out]; rfl, k2⟩
  · rw [show decide (may f t b.length ∧ g = tagOf s f t b) = false by simp [h]]
    go_enter Try.func36, Try.ntmps36
    go_wp2_with fail
    refine (rseal_no s f t b _ h).mono ?_
    rintro e w1 ⟨rfl, k1⟩
    have k1 := k0.trans (k1.mono k0.size)
    have k2 := k1.alloc k1.size (.cells (fc 0 0 [] []).toArray 46)
    go_wp2_with fail
    exact bodyPost_ret (results_tmp rfl _ _ _) rfl ⟨rfl, k2⟩
end Go.Proofs.Yticegglphmgoaaa.Sha
