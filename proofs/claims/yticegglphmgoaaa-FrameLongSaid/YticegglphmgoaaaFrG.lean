/- The frame of bytes, by the document. No conditions but those that are named. -/
import Derived.Test.YticegglphmgoaaaFrF
namespace Go.Proofs.Yticegglphmgoaaa.Sha
open Go.RowKit
open Blk (nats)
attribute [local irreducible] endsOf ends2 hmac hkey tagOf bytesOf
set_option maxHeartbeats 4000000 in
set_option maxRecDepth 100000 in
theorem rtake_yes (s : List UInt8) (w : World) (h : takes s) :
    Calls Try.prog 40 #[.string ⟨s.toArray⟩] w fun e w' => e = .returned (.tuple #[fv (s.getD 0 0).toNat (s.getD 1 0).toNat (s.drop 34) ((s.drop 2).take 32), .int .i64 0]) ∧ Below w.heap.size w w' := by
  obtain ⟨h1, h2, h3, h4⟩ := h
  have h1i : 34 ≤ (s.length : Int) := by omega
  have hd : decide ((s.length : Int) < 34) = false := decide_eq_false (by omega)
  have hd2 : decide ((8192 : Int) < (s.length : Int) - 34) = false := decide_eq_false (by omega)
  obtain ⟨x, hx, hxg⟩ : ∃ x : UInt8, s[0]? = some x ∧ s.getD 0 0 = x := ⟨s[0], List.getElem?_eq_getElem (by omega), by simp [List.getD_eq_getElem?_getD, List.getElem?_eq_getElem (show 0 < s.length by omega)]⟩
  obtain ⟨y, hy, hyg⟩ : ∃ x : UInt8, s[1]? = some x ∧ s.getD 1 0 = x := ⟨s[1], List.getElem?_eq_getElem (by omega), by simp [List.getD_eq_getElem?_getD, List.getElem?_eq_getElem (show 1 < s.length by omega)]⟩
  rw [hxg] at h3 ⊢
  rw [hyg] at h4 ⊢
  have hp0 : 0 < (⟨s.toArray⟩ : ByteArray).size := by show 0 < s.length; omega
  have hp1 : 1 < (⟨s.toArray⟩ : ByteArray).size := by show 1 < s.length; omega
  have e0 : ((⟨s.toArray⟩ : ByteArray)[0]'hp0).toNat = x.toNat := by rw [show (⟨s.toArray⟩ : ByteArray)[0]'hp0 = x from (List.getElem?_eq_some_iff.1 hx).2]
  have e1 : ((⟨s.toArray⟩ : ByteArray)[1]'hp1).toNat = y.toNat := by rw [show (⟨s.toArray⟩ : ByteArray)[1]'hp1 = y from (List.getElem?_eq_some_iff.1 hy).2]
  have HX := Lib.hid hx
  have HY := Lib.hid hy
  have x256 := x.toNat_lt
  have y256 := y.toNat_lt
  clear hx hy hxg hyg
  have hx0 : ((x.toNat : Int) == 0) = false := by
    rw [beq_eq_false_iff_ne]
    exact fun e => h3 (UInt8.toNat_inj.1 (by simpa using e))
  have hy0 : ((y.toNat : Int) == 0) = false := by
    rw [beq_eq_false_iff_ne]
    exact fun e => h4 (UInt8.toNat_inj.1 (by simpa using e))
  have hx1 : ¬ x.toNat = 0 := fun e => h3 (UInt8.toNat_inj.1 e)
  have hy1 : ¬ y.toNat = 0 := fun e => h4 (UInt8.toNat_inj.1 e)
  go_enter Try.func40, Try.ntmps40
  go_upto_region 3 with (fail)
  obtain ⟨g, hg⟩ : ∃ g, g = w.heap.size := ⟨_, rfl⟩
  have k0 : Below w.heap.size w (w.alloc (.cells (fc 0 0 [] []).toArray 46)) := (Below.refl _ _).alloc (Nat.le_refl _) _
  have i0 := fr_new w 0 0 [] [] g hg
  rw [← hg]
  generalize w.alloc (.cells (fc 0 0 [] []).toArray 46) = W at k0 i0 ⊢
  have hwg : w.heap.size ≤ g := by omega
  have HT := Lib.hid (take32 s)
  have HD := Lib.hid (drop34 s)
  have I0 := Lib.hid i0
  clear hg i0 e0 e1 hx0 hy0 hx1 hy1
  refine Cls.region_tail (S := Cls.Kept _) 11 (by kernel_rfl) (by kernel_rfl) (Below.refl _ _) ?_
  simp only [List.take_succ_cons, List.take_zero, List.drop_succ_cons, List.drop_zero]
  go_big_quiet_step (fail)
  go_big_quiet_want
  refine quiet_index 9 (.tmp 24) (.const (.int .i64 0)) rfl s rfl .i64 0 rfl (by kernel_rfl) x HX.out ?_
  simp only [Act.put, List.setIfInBounds_toArray, List.set_cons_zero, List.set_cons_succ]
  go_big_quiet_on
  iterate 2 (go_big_quiet_step (fail))
  go_big_quiet_want
  refine quiet_index 9 (.tmp 27) (.const (.int .i64 1)) rfl s rfl .i64 1 rfl (by kernel_rfl) y HY.out ?_
  simp only [Act.put, List.setIfInBounds_toArray, List.set_cons_zero, List.set_cons_succ]
  go_big_quiet_on
  iterate 5 (go_big_quiet_step (fail))
  rw [HT.out, HD.out]
  go_big_quiet_step (fail)
  refine wpQuiet_nil ?_
  intro w1 hw1
  have i1 := Blk.Is.below (w := W.drew) I0.out hw1
  have k1 := k0.drew.trans (hw1.mono k0.size)
  have I1 := Lib.hid i1
  generalize htg : (s.drop 2).take 32 = tg
  generalize hbd : s.drop 34 = bd
  have HTG := Lib.hid htg
  have HBD := Lib.hid hbd
  clear hw1 i1 I0 k0 hbd htg HT HD HX HY
  go_wp2_with (first | (refine Blk.store_row 46 (.tmp 2) (.tmp 34) rfl rfl g 0 (fc x.toNat y.toNat bd tg) rfl rfl I1.out (by exact Nat.le_refl 4) (by kernel_rfl) (fc_one _ _ _ _) ?_) | fail)
  have i4 := Blk.Is.setCells (fc x.toNat y.toNat bd tg) I1.out 0 (by exact Nat.le_refl 4)
  rw [put_fc] at i4
  have k4 := Blk.below_setCells (fc x.toNat y.toNat bd tg) k1 hwg 0
  exact bodyPost_ret (results_row_tmp rfl _ _ g 46 (fc x.toNat y.toNat bd tg) rfl i4 _ Try.underlying46 rfl (by kernel_rfl) _ rfl) rfl ⟨by rw [HBD.out, HTG.out]; rfl, k4⟩
set_option maxHeartbeats 4000000 in
set_option maxRecDepth 100000 in
theorem rtake_no (s : List UInt8) (w : World) (hs : s.length < 1099511627776) (h : ¬ takes s) :
    Calls Try.prog 40 #[.string ⟨s.toArray⟩] w fun e w' => e = .returned (.tuple #[fv 0 0 [] [], .int .i64 4]) ∧ Below w.heap.size w w' := by
  by_cases h1 : s.length < 34
  · have hd : decide ((s.length : Int) < 34) = true := decide_eq_true (by omega)
    clear h
    go_enter Try.func40, Try.ntmps40
    go_upto_region 2 with (fail)
    obtain ⟨g, hg⟩ : ∃ g, g = w.heap.size := ⟨_, rfl⟩
    have k0 : Below w.heap.size w (w.alloc (.cells (fc 0 0 [] []).toArray 46)) := (Below.refl _ _).alloc (Nat.le_refl _) _
    have I0 := Lib.hid (fr_new w 0 0 [] [] g hg)
    have HG := Lib.hid hg
    clear hg
    rw [← HG.out]
    generalize w.alloc (.cells (fc 0 0 [] []).toArray 46) = W at k0 I0 ⊢
    go_wp2_with (first | (refine Blk.store_row 46 (.tmp 2) (.tmp 23) rfl rfl g 0 (fc 0 0 [] []) rfl rfl I0.out (by exact Nat.le_refl 4) (by kernel_rfl) (fc_one _ _ _ _) ?_) | fail)
    have i4 := Blk.Is.setCells (fc 0 0 [] []) I0.out 0 (by exact Nat.le_refl 4)
    rw [put_fc] at i4
    have k4 := Blk.below_setCells (fc 0 0 [] []) k0 (by rw [HG.out]; exact Nat.le_refl _ : w.heap.size ≤ g) 0
    exact bodyPost_ret (results_row_tmp rfl _ _ g 46 (fc 0 0 [] []) rfl i4 _ Try.underlying46 rfl (by kernel_rfl) _ rfl) rfl ⟨rfl, k4⟩
  · have hd : decide ((s.length : Int) < 34) = false := decide_eq_false (by omega)
    have h1i : 34 ≤ (s.length : Int) := by omega
    by_cases h2 : 8226 < s.length
    · have hd2 : decide ((8192 : Int) < (s.length : Int) - 34) = true := decide_eq_true (by omega)
      clear h
      go_enter Try.func40, Try.ntmps40
      go_upto_region 2 with (fail)
      obtain ⟨g, hg⟩ : ∃ g, g = w.heap.size := ⟨_, rfl⟩
      have k0 : Below w.heap.size w (w.alloc (.cells (fc 0 0 [] []).toArray 46)) := (Below.refl _ _).alloc (Nat.le_refl _) _
      have I0 := Lib.hid (fr_new w 0 0 [] [] g hg)
      have HG := Lib.hid hg
      clear hg
      rw [← HG.out]
      generalize w.alloc (.cells (fc 0 0 [] []).toArray 46) = W at k0 I0 ⊢
      go_wp2_with (first | (refine Blk.store_row 46 (.tmp 2) (.tmp 23) rfl rfl g 0 (fc 0 0 [] []) rfl rfl I0.out (by exact Nat.le_refl 4) (by kernel_rfl) (fc_one _ _ _ _) ?_) | fail)
      have i4 := Blk.Is.setCells (fc 0 0 [] []) I0.out 0 (by exact Nat.le_refl 4)
      rw [put_fc] at i4
      have k4 := Blk.below_setCells (fc 0 0 [] []) k0 (by rw [HG.out]; exact Nat.le_refl _ : w.heap.size ≤ g) 0
      exact bodyPost_ret (results_row_tmp rfl _ _ g 46 (fc 0 0 [] []) rfl i4 _ Try.underlying46 rfl (by kernel_rfl) _ rfl) rfl ⟨rfl, k4⟩
    · have hd2 : decide ((8192 : Int) < (s.length : Int) - 34) = false := decide_eq_false (by omega)
      obtain ⟨x, hx, hxg⟩ : ∃ x : UInt8, s[0]? = some x ∧ s.getD 0 0 = x := ⟨s[0], List.getElem?_eq_getElem (by omega), by simp [List.getD_eq_getElem?_getD, List.getElem?_eq_getElem (show 0 < s.length by omega)]⟩
      obtain ⟨y, hy, hyg⟩ : ∃ x : UInt8, s[1]? = some x ∧ s.getD 1 0 = x := ⟨s[1], List.getElem?_eq_getElem (by omega), by simp [List.getD_eq_getElem?_getD, List.getElem?_eq_getElem (show 1 < s.length by omega)]⟩
      unfold takes at h
      rw [hxg, hyg] at h
      have hp0 : 0 < (⟨s.toArray⟩ : ByteArray).size := by show 0 < s.length; omega
      have hp1 : 1 < (⟨s.toArray⟩ : ByteArray).size := by show 1 < s.length; omega
      have e0 : ((⟨s.toArray⟩ : ByteArray)[0]'hp0).toNat = x.toNat := by rw [show (⟨s.toArray⟩ : ByteArray)[0]'hp0 = x from (List.getElem?_eq_some_iff.1 hx).2]
      have e1 : ((⟨s.toArray⟩ : ByteArray)[1]'hp1).toNat = y.toNat := by rw [show (⟨s.toArray⟩ : ByteArray)[1]'hp1 = y from (List.getElem?_eq_some_iff.1 hy).2]
      have HX := Lib.hid hx
      have HY := Lib.hid hy
      have x256 := x.toNat_lt
      have y256 := y.toNat_lt
      clear hx hy hxg hyg
      by_cases hxz : x.toNat = 0
      · have hx0 : ((x.toNat : Int) == 0) = true := by rw [beq_iff_eq]; omega
        clear h
        go_enter Try.func40, Try.ntmps40
        go_upto_region 2 with (fail)
        obtain ⟨g, hg⟩ : ∃ g, g = w.heap.size := ⟨_, rfl⟩
        have k0 : Below w.heap.size w (w.alloc (.cells (fc 0 0 [] []).toArray 46)) := (Below.refl _ _).alloc (Nat.le_refl _) _
        have I0 := Lib.hid (fr_new w 0 0 [] [] g hg)
        have HG := Lib.hid hg
        clear hg
        rw [← HG.out]
        generalize w.alloc (.cells (fc 0 0 [] []).toArray 46) = W at k0 I0 ⊢
        go_wp2_with (first | (refine Blk.store_row 46 (.tmp 2) (.tmp 23) rfl rfl g 0 (fc 0 0 [] []) rfl rfl I0.out (by exact Nat.le_refl 4) (by kernel_rfl) (fc_one _ _ _ _) ?_) | fail)
        have i4 := Blk.Is.setCells (fc 0 0 [] []) I0.out 0 (by exact Nat.le_refl 4)
        rw [put_fc] at i4
        have k4 := Blk.below_setCells (fc 0 0 [] []) k0 (by rw [HG.out]; exact Nat.le_refl _ : w.heap.size ≤ g) 0
        exact bodyPost_ret (results_row_tmp rfl _ _ g 46 (fc 0 0 [] []) rfl i4 _ Try.underlying46 rfl (by kernel_rfl) _ rfl) rfl ⟨rfl, k4⟩
      · have hx0 : ((x.toNat : Int) == 0) = false := by rw [beq_eq_false_iff_ne]; omega
        have hyz : y.toNat = 0 := by
          cases hq : decide (y.toNat = 0) with
          | true => simpa using hq
          | false =>
            have hq' : ¬ y.toNat = 0 := by simpa using hq
            exact absurd ⟨by omega, by omega, fun e => hxz (by rw [e]; rfl), fun e => hq' (by rw [e]; rfl)⟩ h
        have hy0 : ((y.toNat : Int) == 0) = true := by rw [beq_iff_eq]; omega
        clear h
        go_enter Try.func40, Try.ntmps40
        go_upto_region 2 with (fail)
        obtain ⟨g, hg⟩ : ∃ g, g = w.heap.size := ⟨_, rfl⟩
        have k0 : Below w.heap.size w (w.alloc (.cells (fc 0 0 [] []).toArray 46)) := (Below.refl _ _).alloc (Nat.le_refl _) _
        have I0 := Lib.hid (fr_new w 0 0 [] [] g hg)
        have HG := Lib.hid hg
        clear hg
        rw [← HG.out]
        generalize w.alloc (.cells (fc 0 0 [] []).toArray 46) = W at k0 I0 ⊢
        go_wp2_with (first | (refine Blk.store_row 46 (.tmp 2) (.tmp 23) rfl rfl g 0 (fc 0 0 [] []) rfl rfl I0.out (by exact Nat.le_refl 4) (by kernel_rfl) (fc_one _ _ _ _) ?_) | fail)
        have i4 := Blk.Is.setCells (fc 0 0 [] []) I0.out 0 (by exact Nat.le_refl 4)
        rw [put_fc] at i4
        have k4 := Blk.below_setCells (fc 0 0 [] []) k0 (by rw [HG.out]; exact Nat.le_refl _ : w.heap.size ≤ g) 0
        exact bodyPost_ret (results_row_tmp rfl _ _ g 46 (fc 0 0 [] []) rfl i4 _ Try.underlying46 rfl (by kernel_rfl) _ rfl) rfl ⟨rfl, k4⟩
end Go.Proofs.Yticegglphmgoaaa.Sha
