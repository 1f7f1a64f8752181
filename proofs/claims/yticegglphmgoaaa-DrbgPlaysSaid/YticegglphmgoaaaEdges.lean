/- The law on the digest of so many equal bytes, walked. No conditions but those that are named. -/
import Derived.Test.YticegglphmgoaaaSums
import Derived.Test.YticegglphmgoaaaBym
import Derived.OpenShut
namespace Go.Proofs.Yticegglphmgoaaa.Sha
open Go.RowKit
open Blk (nats)
attribute [local irreducible] hex sum dig hexl Byt.filled
set_option maxHeartbeats 4000000 in
set_option maxRecDepth 100000 in
theorem shaEdges_any (c n : Nat) (w : World) (hc : c < 256) (hn : n < 256) : Calls Try.prog 5 #[.int .u8 c, .int .u8 n] w fun e w' => e = .returned (.bool true) ∧ Below w.heap.size w w' := by
  go_enter Try.func5, Try.ntmps5
  go_wp2_with (first | (refine Byt.make_wp kit rfl (.tmp 7) (.tmp 7) rfl .u8 .u8 n (n : Int) rfl rfl rfl (by omega) ?_) | fail)
  intro w1 i1 k1 z1
  obtain ⟨g, hg⟩ : ∃ g, g = w.heap.size := ⟨_, rfl⟩
  rw [← hg] at i1 ⊢
  have HG := Lib.hid hg
  rw [← Byt.filled_zero c n] at i1
  clear hg z1
  go_wp2
  go_loopw [6] (fun i wr => ∃ k : Nat, k ≤ n ∧ i = .int .i64 k ∧ Blk.Is wr g (nats .u8 (Byt.filled c n k)) 5 ∧ Below w.heap.size w wr)
    (fun i _ => n - (intOf i).toNat)
  case atStart => exact ⟨0, by omega, rfl, i1, k1⟩
  case round =>
    clear i1 k1
    obtain ⟨k, hk, rfl, i0, k0⟩ := hrel
    have hfl := Byt.filled_length c n k hk
    by_cases hlt : k < n
    · have f := i0.frozen k
      have h := i0.nat k (by rw [hfl]; exact hlt)
      have HS := Lib.hid (Byt.filled_set c n k hlt)
      have I0 := Lib.hid i0
      clear i0 hfl
      go_wp2
      go_roundw
      case rel =>
        refine ⟨k + 1, by omega, by go_num, ?_, k0.setCell (by rw [HG.out]; exact Nat.le_refl _) _⟩
        rw [← HS.out]
        exact I0.out.setNat k c
      case measure => simp [intOf]; omega
    · have hk' : k = n := by omega
      subst hk'
      rw [Byt.filled_all] at i0
      have hd : decide ((k : Int) < (k : Int)) = false := decide_eq_false (by omega)
      have hgl := i0.lt
      have r0 : wr.rangeAt g 0 (nats .u8 (List.replicate k c)) := i0.range 0 _ (fun j v hj => by rw [Nat.zero_add]; exact hj)
      obtain ⟨L, hL⟩ : ∃ L : List UInt8, L = (List.replicate k c).map UInt8.ofNat := ⟨_, rfl⟩
      have hLl : L.length < 256 := by rw [hL]; simpa using hn
      have hT : Byt.text (List.replicate k c) = .string ⟨L.toArray⟩ := by rw [hL]; rfl
      have R0 := Lib.hid r0
      have HL := Lib.hid hLl
      have HT := Lib.hid hT
      have HB := Lib.hid (Byt.replicate_lt (n := k) hc)
      clear i0 r0 hfl hL hLl hT
      go_wp2
      refine Cls.region_tail (S := Cls.Kept _) 10 (by kernel_rfl) (by kernel_rfl) (Below.refl _ _) ?_
      simp only [List.take_succ_cons, List.take_zero, List.drop_succ_cons, List.drop_zero]
      iterate 1 (go_big_quiet_step (fail))
      go_big_quiet_want
      refine Byt.quiet_text kit (w0 := wr.drew) (.tmp 19) rfl g 0 k k rfl (List.replicate k c) hgl R0.out (by simp) HB.out ?_
      rw [HT.out]
      simp only [Act.put, List.setIfInBounds_toArray, List.set_cons_zero, List.set_cons_succ]
      go_big_quiet_on
      go_big_quiet_step ((go_at_call 18; with_reducible refine Cls.calls_kept (sum_any L _ (by have := HL.out; omega))))
      rw [dig_text]
      iterate 1 (go_big_quiet_step (fail))
      go_big_quiet_want
      refine Byt.quiet_text kit (w0 := wr.drew) (.tmp 22) rfl g 0 k k rfl (List.replicate k c) hgl R0.out (by simp) HB.out ?_
      rw [HT.out]
      simp only [Act.put, List.setIfInBounds_toArray, List.set_cons_zero, List.set_cons_succ]
      go_big_quiet_on
      go_big_quiet_step ((go_at_call 19; with_reducible refine Cls.calls_kept (rsum_any L _ (by have := HL.out; omega))))
      rw [dig_text]
      iterate 2 (go_big_quiet_step (fail))
      go_big_quiet_step ((go_at_call 17; with_reducible refine Cls.calls_kept (awake_any _)))
      iterate 1 (go_big_quiet_step (fail))
      refine wpQuiet_nil ?_
      intro w4 hw4
      go_wp2
      exact bodyPost_ret (results_tmp rfl _ _ _) rfl ⟨rfl, k0.drew.trans (hw4.mono k0.size)⟩
theorem shaEdges_int (a b : Int) (w : World) (ha : (Lit.int .u8 a).wf = true) (hb : (Lit.int .u8 b).wf = true) : Calls Try.prog 5 #[.int .u8 a, .int .u8 b] w fun e w' => e = .returned (.bool true) ∧ Below w.heap.size w w' := by
  have h1 := Go.bounds_u8 ha
  have h2 := Go.bounds_u8 hb
  obtain ⟨c, rfl⟩ := Int.eq_ofNat_of_zero_le h1.1
  obtain ⟨n, rfl⟩ := Int.eq_ofNat_of_zero_le h2.1
  exact shaEdges_any c n w (by omega) (by omega)
end Go.Proofs.Yticegglphmgoaaa.Sha
