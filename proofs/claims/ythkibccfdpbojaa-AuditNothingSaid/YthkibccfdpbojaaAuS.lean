/- Audits: the document's comparisons, and the states of systems that nobody made, walked. Conditions: those that are named. -/
import Derived.Test.YthkibccfdpbojaaAuR
namespace Go.Proofs.Ythkibccfdpbojaa.Au
open Go Go.RowKit
set_option maxHeartbeats 4000000 in
set_option maxRecDepth 100000 in
theorem same_keys (g h c1 c2 : Nat) (x : List UInt8) (w : World) (hg : w.cell? ⟨g, 0, none⟩ = some (txt x)) (hh : w.cell? ⟨h, 0, none⟩ = some (txt x)) :
    Calls Try.prog 13 #[.slice (some ⟨g, 0, none⟩) 1 c1, .slice (some ⟨h, 0, none⟩) 1 c2] w fun e w' => e = .returned (.bool true) ∧ Below w.heap.size w w' := by
  have k0 : Below w.heap.size w w := Below.refl _ _
  go_enter Try.func13, Try.ntmps13
  go_wp2_with fail
  go_loopw [5] (fun vi wr => (vi = .int .i64 0 ∧ wr = w) ∨ (vi = .int .i64 1 ∧ Below w.heap.size w wr)) (fun vi _ => 1 - (intOf vi).toNat)
  case atStart => exact .inl ⟨rfl, rfl⟩
  case round =>
    rcases hrel with ⟨rfl, hw⟩ | ⟨rfl, k1⟩
    · subst hw
      go_upto_region 6 with (fail)
      go_quiet (fail)
      have k2 : Below wr.heap.size wr (wr.drewN nq) := k0.trans ⟨rfl, rfl, rfl, Nat.le_refl _, fun _ _ => rfl⟩
      clear hg hh k0
      go_wp2_with fail
      go_roundw
      case rel => exact .inr ⟨by go_num, k2⟩
      case measure => simp [intOf]
    · clear hg hh k0
      go_wp2
      exact bodyPost_ret (results_tmp rfl _ _ _) rfl ⟨rfl, k1⟩
/-- A state that is none. -/
abbrev noIm : List Value := [.int .i64 0, .int .i64 0, .int .i64 0, nilS, nilS]
set_option maxHeartbeats 4000000 in
set_option maxRecDepth 100000 in
theorem same_none (w : World) : Calls Try.prog 6 #[.agg noIm.toArray, .agg noIm.toArray] w fun e w' => e = .returned (.bool true) ∧ Below w.heap.size w w' := by
  have kw : Below w.heap.size w ((w.alloc (.cells noIm.toArray 51)).alloc (.cells noIm.toArray 51)) := ((Below.refl _ _).alloc (Nat.le_refl _) _).alloc (by simp) _
  have A := Lib.hid ((Blk.new w noIm 51).alloc (.cells noIm.toArray 51))
  have B := Lib.hid (Blk.new' (w.alloc (.cells noIm.toArray 51)) noIm 51 (w.heap.size + 1) (by simp))
  have KW := Lib.hid kw
  clear kw
  go_enter Try.func6, Try.ntmps6
  go_upto_region 1 with (fail)
  obtain ⟨W, hW⟩ : ∃ W, W = (w.alloc (.cells noIm.toArray 51)).alloc (.cells noIm.toArray 51) := ⟨_, rfl⟩
  obtain ⟨q, hq⟩ : ∃ q, q = w.heap.size + 1 := ⟨_, rfl⟩
  rw [← hW] at A B KW ⊢
  rw [← hq] at B ⊢
  clear hW hq
  have a := fun i => A.out.cell i
  have a0 := a 0; have a1 := a 1; have a2 := a 2; have a3 := a 3; have a4 := a 4
  have b := fun i => B.out.cell i
  have b0 := b 0; have b1 := b 1; have b2 := b 2; have b3 := b 3; have b4 := b 4
  simp only [List.getElem?_cons_zero, List.getElem?_cons_succ] at a0 a1 a2 a3 a4 b0 b1 b2 b3 b4
  clear a b A B
  go_wp2_with fail
  go_loopw [5] (fun vi wr => vi = .int .i64 0 ∧ wr = W) (fun _ _ => 0)
  case atStart => exact ⟨rfl, rfl⟩
  case round =>
    obtain ⟨rfl, rfl⟩ := hrel
    go_wp2_with fail
    go_loopw [6] (fun vi wr' => vi = .int .i64 0 ∧ wr' = wr) (fun _ _ => 0)
    case atStart => exact ⟨rfl, rfl⟩
    case round =>
      obtain ⟨rfl, rfl⟩ := hrel
      go_wp2
      exact bodyPost_ret (results_tmp rfl _ _ _) rfl ⟨rfl, KW.out⟩
theorem none_one : (noIm.toArray).all (·.oneCell') = true := by simp [Value.oneCell']
set_option maxHeartbeats 4000000 in
set_option maxRecDepth 100000 in
theorem given_nil (w : World) : Calls Try.prog 18 #[.pointer none] w fun e w' => e = .returned (.bool false) ∧ w = w' := by
  go_enter Try.func18, Try.ntmps18
  go_wp2
  exact bodyPost_ret (results_tmp rfl _ _ _) rfl ⟨rfl, rfl⟩
set_option maxHeartbeats 4000000 in
set_option maxRecDepth 100000 in
theorem given_none (c : Nat) (w : World) (h : w.cell? ⟨c, 10, none⟩ = some (.int .i64 0)) : Calls Try.prog 18 #[.pointer (some ⟨c, 0, none⟩)] w fun e w' => e = .returned (.bool false) ∧ w = w' := by
  go_enter Try.func18, Try.ntmps18
  go_wp2
  exact bodyPost_ret (results_tmp rfl _ _ _) rfl ⟨rfl, rfl⟩
set_option maxHeartbeats 4000000 in
set_option maxRecDepth 100000 in
theorem image_of (v : Value) (w : World) (H : ∀ W, Below w.heap.size w W → Calls Try.prog 18 #[v] W fun e w' => e = .returned (.bool false) ∧ W = w') :
    Calls Try.prog 7 #[v, .int .i64 1] w fun e w' => e = .returned (.agg noIm.toArray) ∧ Below w.heap.size w w' := by
  have kw : Below w.heap.size w (w.alloc (.cells noIm.toArray 51)) := (Below.refl _ _).alloc (Nat.le_refl _) _
  have A := Lib.hid (Blk.new w noIm 51)
  have HC := Lib.hid (H _ kw)
  have KW := Lib.hid kw
  clear H kw
  go_enter Try.func7, Try.ntmps7
  go_upto_region 1 with (fail)
  obtain ⟨W, hW⟩ : ∃ W, W = w.alloc (.cells noIm.toArray 51) := ⟨_, rfl⟩
  obtain ⟨p, hp⟩ : ∃ p, p = w.heap.size := ⟨_, rfl⟩
  have hwp : w.heap.size ≤ p := by omega
  rw [← hW] at A HC KW ⊢
  rw [← hp] at A ⊢
  clear hW hp
  go_wp2_with fail
  refine HC.out.mono ?_
  rintro e w1 ⟨rfl, rfl⟩
  have A2 : Hid (Blk.Is (W.setCells p 0 noIm) p noIm 51) := Lib.hid (by
    have := A.out.setCells noIm 0 (by exact Nat.le_refl 5)
    rwa [Blk.put_all _ _ (by rfl)] at this)
  have K2 := Lib.hid (Blk.below_setCells noIm KW.out hwp 0)
  go_wp2_with (first | (refine Blk.store_row 51 (.tmp 4) (.tmp 8) rfl rfl p 0 noIm rfl rfl A.out (by exact Nat.le_refl 5) (by kernel_rfl) none_one ?_; generalize W.setCells p 0 noIm = w9 at A2 K2 ⊢) | fail)
  exact bodyPost_ret (results_row rfl _ _ p 51 noIm rfl A2.out _ Try.underlying51 rfl (by kernel_rfl)) rfl ⟨rfl, K2.out⟩
end Go.Proofs.Ythkibccfdpbojaa.Au
