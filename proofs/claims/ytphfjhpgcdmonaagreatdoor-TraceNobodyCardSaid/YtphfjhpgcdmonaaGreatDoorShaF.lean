/- Bytes come to a digest. Conditions: fewer than 2^60 bytes. -/
import Derived.Test.YtphfjhpgcdmonaaGreatDoorShaE
namespace Go.Proofs.YtphfjhpgcdmonaaGreatDoor.Sha
open Go.RowKit
open Blk (nats)
/-- How long a text is. -/
def lenOf : Value → Nat
  | .string s => s.size
  | _ => 0
def text (l : List UInt8) : Value := .string ⟨l.toArray⟩
/-- What lies there in every world that keeps what was there. -/
theorem quiet_range {w0 : World} {b o : Nat} {cs : List Value} (h : w0.rangeAt b o cs) : ∀ w, Cls.In (Cls.Kept w0) w → w.rangeAt b o cs := by
  rintro w ⟨x, rfl⟩ j v hj
  exact Cls.Wd.cell (h j v hj) x
theorem extract_text (r : List UInt8) (k : Nat) : (⟨r.toArray⟩ : ByteArray).extract k r.length = ⟨(r.drop k).toArray⟩ := by
  apply ByteArray.ext
  simp [ByteArray.data_extract]
  exact List.take_of_length_le (by simp)
theorem taken (r : List UInt8) (k : Nat) : ((⟨r.toArray⟩ : ByteArray).data.toList.map fun x => Value.int .u8 (x.toNat : Int)).take k = nats .u8 (nat (r.take k)) := by
  simp only [nats, nat, List.map_take, List.map_map]
  rfl
attribute [local irreducible] mixed blocks
set_option maxHeartbeats 4000000 in
set_option maxRecDepth 100000 in
theorem add_any (M s : List UInt8) (b : Nat) (w : World) (hM : M.length + s.length < 1152921504606846976) (hU : Under w b (nat M)) :
    Calls Tryz.prog 227 #[.pointer (some ⟨b, 0, none⟩), .string ⟨s.toArray⟩] w fun e w' => e = .returned (.tuple #[]) ∧ Under w' b (nat (M ++ s)) ∧ Only b w w' := by
  have HM := Lib.hid hM
  clear hM
  have h0 : w.cell? ⟨b, 0, none⟩ = some (.bool true) := by
    obtain ⟨r, _, h⟩ := hU
    exact h.cell 0
  have HU := Lib.hid hU
  clear hU
  go_enter Tryz.func227, Tryz.ntmps227
  go_wp2
  go_loopw [1] (fun i wr => ∃ A r : List UInt8, i = .string ⟨r.toArray⟩ ∧ A ++ r = M ++ s ∧ Under wr b (nat A) ∧ Only b w wr)
    (fun i _ => lenOf i)
  case atStart => exact ⟨M, s, rfl, rfl, HU.out, Only.refl _ _⟩
  case round =>
    clear h0
    obtain ⟨A, r, rfl, hA, ⟨rest, hF, b0⟩, k0⟩ := hrel
    by_cases hr : r = []
    · subst hr
      go_wp2
      refine ⟨rfl, .tuple #[], results_none rfl _ _ _, rfl, ?_, k0⟩
      rw [List.append_nil] at hA
      subst hA
      exact ⟨rest, hF, b0⟩
    · have he : r.isEmpty = false := by cases r with | nil => exact absurd rfl hr | cons _ _ => rfl
      have hl : r.length ≠ 0 := by simpa using hr
      have hAl : A.length + r.length = M.length + s.length := by rw [← List.length_append, hA, List.length_append]
      have hb := HM.out
      have hn8 := (blocks_ok (nat A) ((nat A).length / 64)).1
      have hnl : (nat A).length = A.length := List.length_map _
      rw [hnl] at b0 hn8
      have a73 : wr.cell? ⟨b, 73, none⟩ = some (.int .i64 (A.length : Int)) := by rw [b0.cell]; exact cellsOf_n _ _ hn8 hF.len
      have q73 := Cls.Wd.cell (w0 := wr.drew) a73
      have B0 := Lib.hid b0
      have HF := Lib.hid hF
      have HN8 := Lib.hid hn8
      have HA := Lib.hid hA
      obtain ⟨q, hq⟩ : ∃ q : Nat, q = A.length % 64 := ⟨_, rfl⟩
      have hq64 : q < 64 := by omega
      have hqi : (A.length : Int) % 64 = (q : Int) := by omega
      have hq1 : (q : Int) < 64 := by omega
      have hq2 : (q : Int) ≤ 64 := by omega
      have HQ := Lib.hid hq
      clear b0 hF hn8 hA a73 hr hq
      go_wp2
      refine Cls.region_tail (S := Cls.Kept _) 10 (by kernel_rfl) (by kernel_rfl) (Below.refl _ _) ?_
      simp only [List.take_succ_cons, List.take_zero, List.drop_succ_cons, List.drop_zero]
      repeat (go_big_quiet_step (fail))
      refine wpQuiet_nil ?_
      intro w1 hw1
      have b0 := Blk.Is.below (w := wr.drew) B0.out hw1
      have k1 := k0.drew.trans (Only.of hw1)
      clear k0 hw1 q73
      obtain ⟨k, hk⟩ : ∃ k, k = Nat.min (⟨r.toArray⟩ : ByteArray).size (64 - q) := ⟨_, rfl⟩
      have hk1 : k ≤ r.length := by rw [hk]; exact Nat.min_le_left _ _
      have hk2 : k ≤ 64 - q := by rw [hk]; exact Nat.min_le_right _ _
      have hk3 : 0 < k := by
        rw [hk]
        have e : (⟨r.toArray⟩ : ByteArray).size = r.length := rfl
        rw [e]
        exact Nat.lt_min.2 ⟨by omega, by omega⟩
      have hk4 : k < 64 - q → k = r.length := by
        intro h
        have e : (⟨r.toArray⟩ : ByteArray).size = r.length := rfl
        rw [hk, e] at h ⊢
        by_cases h' : r.length ≤ 64 - q
        · exact Nat.min_eq_left h'
        · exact absurd h (by rw [show r.length.min (64 - q) = 64 - q from Nat.min_eq_right (by omega)]; omega)
      refine wpList_copy_text rfl (.tmp 24) (.tmp 25) 74 9 rfl 5 rfl (by kernel_rfl) b (9 + q) (64 - q) (64 - q) ⟨r.toArray⟩ rfl rfl b0 (by rw [cellsOf_length HN8.out HF.out.len]; omega) ?_
      rw [← hk, taken]
      obtain ⟨c, hc⟩ : ∃ c, c = nat (r.take k) := ⟨_, rfl⟩
      rw [← hc]
      have hcl : ∀ x ∈ c, x < 256 := hc ▸ nat_lt _
      have htk : c.length = k := by rw [hc, List.length_map, List.length_take]; omega
      have b1 := Blk.Is.setCells (nats .u8 c) b0 (9 + q) (by rw [cellsOf_length HN8.out HF.out.len, Blk.nats_length, htk]; omega)
      rw [cellsOf_putRest _ _ _ _ HN8.out (by rw [HF.out.len, htk]; omega)] at b1
      have k2 := k1.trans (Only.setCells (nats .u8 c) (Only.refl b w1) (9 + q))
      generalize w1.setCells b (9 + q) (nats .u8 c) = w2 at b1 k2 ⊢
      have hF1 := HF.out.step c hcl (by rw [hnl, ← HQ.out, htk]; omega)
      rw [hnl, ← HQ.out] at hF1
      have HF1 := Lib.hid hF1
      have a73 : w2.cell? ⟨b, 73, none⟩ = some (.int .i64 (A.length : Int)) := by rw [b1.cell]; exact cellsOf_n _ _ HN8.out hF1.len
      have f73 := b1.frozen 73
      have B1 := Lib.hid b1
      have HK := Lib.hid hk
      have HTK := Lib.hid htk
      clear b0 k1 hF1 b1 hk htk
      have hki : (k : Int) ≤ (r.length : Int) := by omega
      have hHQ := HQ.out
      have hnA : nat (A ++ r.take k) = nat A ++ c := by rw [hc]; exact List.map_append
      have hnl2 : (nat (A ++ r.take k)).length = A.length + k := by rw [hnA, List.length_append, hnl, HTK.out]
      have HNA := Lib.hid hnA
      have HNL := Lib.hid hnl
      have HNL2 := Lib.hid hnl2
      have e73 : ((A.length : Int) + (k : Int)) = ((A.length + k : Nat) : Int) := by omega
      have E73 := Lib.hid e73
      clear hnA hnl2 hnl e73 hc hcl
      by_cases hfull : q + k = 64
      · have hz : (((A.length : Int) + (k : Int)) % 64 == 0) = true := by
          rw [beq_iff_eq]; omega
        clear hHQ
        go_wp2
        have b2 := B1.out.set 73 (.int .i64 ((A.length + k : Nat) : Int))
        rw [cellsOf_setN _ _ _ HN8.out HF1.out.len] at b2
        rw [E73.out]
        have k3 := k2.setCell (p := ⟨b, 73, none⟩) rfl (.int .i64 ((A.length + k : Nat) : Int))
        generalize w2.setCell ⟨b, 73, none⟩ (.int .i64 ((A.length + k : Nat) : Int)) = w3 at b2 k3 ⊢
        have r1 : w3.drew.rangeAt b 1 (nats .u32 (blocks (nat A) (A.length / 64))) := (b2.drew).range 1 _ (fun j v hv => cellsOf_words _ _ j v hv)
        have r9 : w3.drew.rangeAt b 9 (nats .u8 (lay rest q c)) := (b2.drew).range 9 _ (fun j v hv => cellsOf_rest _ _ HN8.out j v hv)
        have B2 := Lib.hid b2
        have R1 := Lib.hid r1
        have R9 := Lib.hid r9
        clear b2 k2 a73 f73 r1 r9
        refine Cls.region_tail (S := Cls.Kept _) 10 (by kernel_rfl) (by kernel_rfl) (Below.refl _ _) ?_
        simp only [List.take_succ_cons, List.take_zero, List.drop_succ_cons, List.drop_zero]
        repeat (go_big_quiet_step (fail))
        go_big_quiet_want
        refine Blk.quiet_load 381 (.tmp 47) rfl b 1 rfl (nats .u32 (blocks (nat A) (A.length / 64))) _ (quiet_range R1.out) Tryz.underlying381 rfl (by rw [Blk.nats_length, HN8.out]; kernel_rfl) ?_
        simp only [Act.put, List.setIfInBounds_toArray, List.set_cons_zero, List.set_cons_succ]
        go_big_quiet_on
        repeat (go_big_quiet_step (fail))
        go_big_quiet_want
        refine Blk.quiet_load 383 (.tmp 51) rfl b 9 rfl (nats .u8 (lay rest q c)) _ (quiet_range R9.out) Tryz.underlying383 rfl (by rw [Blk.nats_length, HF1.out.len]; kernel_rfl) ?_
        simp only [Act.put, List.setIfInBounds_toArray, List.set_cons_zero, List.set_cons_succ]
        go_big_quiet_on
        repeat (go_big_quiet_step ((go_at_call 247; with_reducible refine Cls.calls_kept (mixed_any (blocks (nat A) (A.length / 64)) (lay rest q c) _ HN8.out HF1.out.len (blocks_ok _ _).2 (fun i => at_lt_of_all HF1.out.lt (by decide) i)))))
        refine wpQuiet_nil ?_
        intro w4 hw4
        have b3 := Blk.Is.below (w := w3.drew) B2.out.drew hw4
        have k4 := k3.drew.trans (Only.of hw4)
        clear k3 hw4 R1 R9
        have hm8 := (mixed_ok (blocks (nat A) (A.length / 64)) (lay rest q c) HN8.out).1
        have HM8 := Lib.hid hm8
        clear hm8
        have a0 : w4.cell? ⟨b, 0, none⟩ = some (.bool true) := b3.cell 0
        go_wp2_with (refine Blk.store_row 381 (.tmp 55) (.tmp 53) rfl rfl b 1 (nats .u32 (mixed (blocks (nat A) (A.length / 64)) (lay rest q c))) rfl rfl b3 (by rw [cellsOf_length HN8.out HF1.out.len, Blk.nats_length, HM8.out]; decide) (by rw [Blk.nats_length, HM8.out]; kernel_rfl) (Blk.nats_one _ _) ?_)
        have b4 := Blk.Is.setCells (nats .u32 (mixed (blocks (nat A) (A.length / 64)) (lay rest q c))) b3 1 (by rw [cellsOf_length HN8.out HF1.out.len, Blk.nats_length, HM8.out]; decide)
        rw [cellsOf_putWords _ _ HN8.out HM8.out] at b4
        have k5 := Only.setCells (nats .u32 (mixed (blocks (nat A) (A.length / 64)) (lay rest q c))) k4 1
        simp only [Act.put]
        go_roundw
        case rel =>
          refine ⟨A ++ r.take k, r.drop k, by rw [extract_text], by rw [List.append_assoc, List.take_append_drop, HA.out], ⟨lay rest q c, by rw [HNA.out]; exact HF1.out, ?_⟩, k5⟩
          have hw := HF.out.full c (by rw [HNL.out, ← HQ.out, HTK.out]; exact hfull)
          rw [← HNA.out, HNL.out, ← HQ.out] at hw
          rw [hw, HNL2.out]
          exact b4
        case measure =>
          rw [extract_text]
          show (r.drop k).length < r.length
          rw [List.length_drop]
          omega
      · have hz : (((A.length : Int) + (k : Int)) % 64 == 0) = false := by
          rw [beq_eq_false_iff_ne]; omega
        clear hHQ
        go_wp2
        go_roundw
        case rel =>
          have b2 := B1.out.set 73 (.int .i64 ((A.length + k : Nat) : Int))
          rw [cellsOf_setN _ _ _ HN8.out HF1.out.len] at b2
          rw [E73.out]
          refine ⟨A ++ r.take k, r.drop k, by rw [extract_text], by rw [List.append_assoc, List.take_append_drop, HA.out], ⟨lay rest q c, by rw [HNA.out]; exact HF1.out, ?_⟩, k2.setCell rfl _⟩
          have hw := HF.out.same c (by rw [HNL.out, ← HQ.out, HTK.out]; omega)
          rw [← HNA.out, HNL.out] at hw
          rw [hw, HNL2.out]
          exact b2
        case measure =>
          rw [extract_text]
          show (r.drop k).length < r.length
          rw [List.length_drop]
          omega
end Go.Proofs.YtphfjhpgcdmonaaGreatDoor.Sha
