/- The frame of bytes. No conditions but those that are named. -/
import Derived.Test.YticegglphmgoaaaFrE
namespace Go.Proofs.Yticegglphmgoaaa.Sha
open Go.RowKit
open Blk (nats)
/-- Are bytes a frame's? -/
def takes (s : List UInt8) : Prop := 34 ≤ s.length ∧ s.length ≤ 8226 ∧ s.getD 0 0 ≠ 0 ∧ s.getD 1 0 ≠ 0
instance (s : List UInt8) : Decidable (takes s) := by unfold takes; infer_instance
theorem take32 (s : List UInt8) : (⟨s.toArray⟩ : ByteArray).extract 2 34 = ⟨((s.drop 2).take 32).toArray⟩ := by
  apply ByteArray.ext
  rw [ByteArray.data_extract]
  simp
theorem drop34 (s : List UInt8) : (⟨s.toArray⟩ : ByteArray).extract 34 s.length = ⟨(s.drop 34).toArray⟩ := by
  apply ByteArray.ext
  rw [ByteArray.data_extract]
  simp
  rw [List.take_of_length_le (by simp)]
attribute [local irreducible] endsOf ends2 hmac hkey tagOf bytesOf
set_option maxHeartbeats 4000000 in
set_option maxRecDepth 100000 in
theorem take_yes (s : List UInt8) (w : World) (h : takes s) :
    Calls Try.prog 39 #[.string ⟨s.toArray⟩] w fun e w' => e = .returned (.tuple #[fv (s.getD 0 0).toNat (s.getD 1 0).toNat (s.drop 34) ((s.drop 2).take 32), .int .i64 0]) ∧ Below w.heap.size w w' := by
  obtain ⟨h1, h2, h3, h4⟩ := h
  have h1i : 34 ≤ (s.length : Int) := by omega
  have hd : decide ((s.length : Int) < 34) = false := decide_eq_false (by omega)
  obtain ⟨x, hx, hxg⟩ : ∃ x : UInt8, s[0]? = some x ∧ s.getD 0 0 = x := ⟨s[0], List.getElem?_eq_getElem (by omega), by simp [List.getD_eq_getElem?_getD, List.getElem?_eq_getElem (show 0 < s.length by omega)]⟩
  obtain ⟨y, hy, hyg⟩ : ∃ x : UInt8, s[1]? = some x ∧ s.getD 1 0 = x := ⟨s[1], List.getElem?_eq_getElem (by omega), by simp [List.getD_eq_getElem?_getD, List.getElem?_eq_getElem (show 1 < s.length by omega)]⟩
  rw [hxg] at h3 ⊢
  rw [hyg] at h4 ⊢
  have HX := Lib.hid hx
  have HY := Lib.hid hy
  have x256 := x.toNat_lt
  have y256 := y.toNat_lt
  clear hx hy hxg hyg
  go_enter Try.func39, Try.ntmps39
  go_upto_region 3 with (fail)
  obtain ⟨g, hg⟩ : ∃ g, g = w.heap.size := ⟨_, rfl⟩
  have k0 : Below w.heap.size w (w.alloc (.cells (fc 0 0 [] []).toArray 46)) := (Below.refl _ _).alloc (Nat.le_refl _) _
  have i0 := fr_new w 0 0 [] [] g hg
  rw [← hg]
  generalize w.alloc (.cells (fc 0 0 [] []).toArray 46) = W at k0 i0 ⊢
  have hwg : w.heap.size ≤ g := by omega
  have HT := Lib.hid (take32 s)
  have HD := Lib.hid (drop34 s)
  have I0 := Lib.hid i0
  have hgW := i0.lt
  clear hg i0
  refine Dep.region_hang 12 11 [0, 1, 2, 3, 4, 5, 6, 7, 8, 9, 10] [] 25 _ rfl (by kernel_rfl) (by kernel_rfl) (by kernel_rfl) (by decide) (by decide +kernel) (by decide +kernel) rfl (by kernel_rfl)
    (fun h : Nat => .pointer (some ⟨h, 0, none⟩)) (fun w1 h => W.heap.size ≤ h ∧ Blk.Is w1 h (fc 0 0 [] []) 46) (fun x w1 w2 h hb => ⟨h.1, Blk.Is.below h.2 hb⟩) ?_
  simp only [Dep.sel, List.getElem?_cons_zero, List.getElem?_cons_succ]
  apply Exists.intro
  apply And.intro
  · intro w1 hw1
    go_big_quiet_step (fail)
    go_big_quiet_want
    refine quiet_index 9 (.tmp 9) (.const (.int .i64 0)) rfl s rfl .i64 0 rfl (by kernel_rfl) x HX.out ?_
    simp only [Act.put, List.setIfInBounds_toArray, List.set_cons_zero, List.set_cons_succ]
    go_big_quiet_on
    iterate 2 (go_big_quiet_step (fail))
    go_big_quiet_want
    refine quiet_index 9 (.tmp 12) (.const (.int .i64 1)) rfl s rfl .i64 1 rfl (by kernel_rfl) y HY.out ?_
    simp only [Act.put, List.setIfInBounds_toArray, List.set_cons_zero, List.set_cons_succ]
    go_big_quiet_on
    iterate 5 (go_big_quiet_step (fail))
    rw [HT.out, HD.out]
    go_big_quiet_step (fail)
    exact wpQuiet_nil rfl
  refine ⟨fun w1 hw1 => ?_, ?_⟩
  · refine ⟨w1.heap.size, w1.alloc (.cells (fc 0 0 [] []).toArray 46), ?_, (Below.refl _ _).alloc (Nat.le_refl _) _, hw1.size, fr_new w1 0 0 [] [] _ rfl⟩
    go_simp
  apply Exists.intro
  apply And.intro
  · intro h w1 hw1 hm
    simp only [Act.put, List.setIfInBounds_toArray, List.set_cons_zero, List.set_cons_succ]
    exact wpQuiet_nil rfl
  intro q w1 hw1 hm
  obtain ⟨hh, im⟩ := hm
  have i1 := Blk.Is.below (w := W.drew) I0.out hw1
  have k1 := k0.drew.trans (hw1.mono k0.size)
  have I1 := Lib.hid i1
  have IM := Lib.hid im
  have hne : g ≠ q := by omega
  have hwh : w.heap.size ≤ q := by omega
  generalize htg : (s.drop 2).take 32 = tg at HT ⊢
  generalize hbd : s.drop 34 = bd at HD ⊢
  have hmay : may x.toNat y.toNat bd.length := by
    have hx0 : x.toNat ≠ 0 := fun e => h3 (UInt8.toNat_inj.1 e)
    have hy0 : y.toNat ≠ 0 := fun e => h4 (UInt8.toNat_inj.1 e)
    refine ⟨by omega, by omega, by omega, by omega, ?_⟩
    rw [← hbd, List.length_drop]
    omega
  have HMAY := Lib.hid hmay
  have HTG := Lib.hid htg
  have HBD := Lib.hid hbd
  clear hw1 i1 im I0 k0 hbd htg hmay HT HD HX HY
  simp only [List.drop_succ_cons, List.drop_zero]
  refine Blk.store_row 46 (.tmp 4) (.tmp 19) rfl rfl q 0 (fc x.toNat y.toNat bd tg) rfl rfl IM.out (by exact Nat.le_refl 4) (by kernel_rfl) (fc_one _ _ _ _) ?_
  have im := Blk.Is.setCells (fc x.toNat y.toNat bd tg) IM.out 0 (by exact Nat.le_refl 4)
  rw [put_fc] at im
  have i2 := Blk.Is.setCellsOther (fc x.toNat y.toNat bd tg) I1.out hne 0
  have k2 := Blk.below_setCells (fc x.toNat y.toNat bd tg) k1 hwh 0
  generalize w1.setCells q 0 (fc x.toNat y.toNat bd tg) = w2 at im i2 k2 ⊢
  have IM := Lib.hid im
  have I2 := Lib.hid i2
  clear im i2 k1 I1
  go_wp2_with (first | (refine Blk.load_row 46 (.tmp 4) rfl (by rfl) q rfl 46 (fc x.toNat y.toNat bd tg) _ IM.out Try.underlying46 rfl (by kernel_rfl) ?_) | fail)
  refine (may_yes x.toNat y.toNat bd tg w2 HMAY.out).mono ?_
  rintro e w3 ⟨rfl, k3⟩
  have i3 := I2.out.below k3
  have im := IM.out.below k3
  have k3 := k2.trans (k3.mono k2.size)
  have IM3 := Lib.hid im
  have I3 := Lib.hid i3
  clear im i3 k2 I2
  go_wp2_with (first | (refine Blk.load_row 46 (.tmp 4) rfl (by rfl) q rfl 46 (fc x.toNat y.toNat bd tg) _ IM3.out Try.underlying46 rfl (by kernel_rfl) ?_) | (refine Blk.store_row 46 (.tmp 2) (.tmp 24) rfl rfl g 0 (fc x.toNat y.toNat bd tg) rfl rfl I3.out (by exact Nat.le_refl 4) (by kernel_rfl) (fc_one _ _ _ _) ?_) | fail)
  have i4 := Blk.Is.setCells (fc x.toNat y.toNat bd tg) I3.out 0 (by exact Nat.le_refl 4)
  rw [put_fc] at i4
  have k4 := Blk.below_setCells (fc x.toNat y.toNat bd tg) k3 hwg 0
  exact bodyPost_ret (results_row_tmp rfl _ _ g 46 (fc x.toNat y.toNat bd tg) rfl i4 _ Try.underlying46 rfl (by kernel_rfl) _ rfl) rfl ⟨by rw [HBD.out, HTG.out]; rfl, k4⟩
set_option maxHeartbeats 4000000 in
set_option maxRecDepth 100000 in
theorem take_no2 (s : List UInt8) (w : World) (h1 : 34 ≤ s.length) (h2 : s.length < 1099511627776) (h : ¬ takes s) :
    Calls Try.prog 39 #[.string ⟨s.toArray⟩] w fun e w' => e = .returned (.tuple #[fv 0 0 [] [], .int .i64 4]) ∧ Below w.heap.size w w' := by
  have h1i : 34 ≤ (s.length : Int) := by omega
  have hd : decide ((s.length : Int) < 34) = false := decide_eq_false (by omega)
  obtain ⟨x, hx, hxg⟩ : ∃ x : UInt8, s[0]? = some x ∧ s.getD 0 0 = x := ⟨s[0], List.getElem?_eq_getElem (by omega), by simp [List.getD_eq_getElem?_getD, List.getElem?_eq_getElem (show 0 < s.length by omega)]⟩
  obtain ⟨y, hy, hyg⟩ : ∃ x : UInt8, s[1]? = some x ∧ s.getD 1 0 = x := ⟨s[1], List.getElem?_eq_getElem (by omega), by simp [List.getD_eq_getElem?_getD, List.getElem?_eq_getElem (show 1 < s.length by omega)]⟩
  unfold takes at h
  rw [hxg, hyg] at h
  have HX := Lib.hid hx
  have HY := Lib.hid hy
  have x256 := x.toNat_lt
  have y256 := y.toNat_lt
  clear hx hy hxg hyg
  go_enter Try.func39, Try.ntmps39
  go_upto_region 3 with (fail)
  obtain ⟨g, hg⟩ : ∃ g, g = w.heap.size := ⟨_, rfl⟩
  have k0 : Below w.heap.size w (w.alloc (.cells (fc 0 0 [] []).toArray 46)) := (Below.refl _ _).alloc (Nat.le_refl _) _
  have i0 := fr_new w 0 0 [] [] g hg
  rw [← hg]
  generalize w.alloc (.cells (fc 0 0 [] []).toArray 46) = W at k0 i0 ⊢
  have hwg : w.heap.size ≤ g := by omega
  have HT := Lib.hid (take32 s)
  have HD := Lib.hid (drop34 s)
  have I0 := Lib.hid i0
  have hgW := i0.lt
  clear hg i0
  refine Dep.region_hang 12 11 [0, 1, 2, 3, 4, 5, 6, 7, 8, 9, 10] [] 25 _ rfl (by kernel_rfl) (by kernel_rfl) (by kernel_rfl) (by decide) (by decide +kernel) (by decide +kernel) rfl (by kernel_rfl)
    (fun h : Nat => .pointer (some ⟨h, 0, none⟩)) (fun w1 h => W.heap.size ≤ h ∧ Blk.Is w1 h (fc 0 0 [] []) 46) (fun x w1 w2 h hb => ⟨h.1, Blk.Is.below h.2 hb⟩) ?_
  simp only [Dep.sel, List.getElem?_cons_zero, List.getElem?_cons_succ]
  apply Exists.intro
  apply And.intro
  · intro w1 hw1
    go_big_quiet_step (fail)
    go_big_quiet_want
    refine quiet_index 9 (.tmp 9) (.const (.int .i64 0)) rfl s rfl .i64 0 rfl (by kernel_rfl) x HX.out ?_
    simp only [Act.put, List.setIfInBounds_toArray, List.set_cons_zero, List.set_cons_succ]
    go_big_quiet_on
    iterate 2 (go_big_quiet_step (fail))
    go_big_quiet_want
    refine quiet_index 9 (.tmp 12) (.const (.int .i64 1)) rfl s rfl .i64 1 rfl (by kernel_rfl) y HY.out ?_
    simp only [Act.put, List.setIfInBounds_toArray, List.set_cons_zero, List.set_cons_succ]
    go_big_quiet_on
    iterate 5 (go_big_quiet_step (fail))
    rw [HT.out, HD.out]
    go_big_quiet_step (fail)
    exact wpQuiet_nil rfl
  refine ⟨fun w1 hw1 => ?_, ?_⟩
  · refine ⟨w1.heap.size, w1.alloc (.cells (fc 0 0 [] []).toArray 46), ?_, (Below.refl _ _).alloc (Nat.le_refl _) _, hw1.size, fr_new w1 0 0 [] [] _ rfl⟩
    go_simp
  apply Exists.intro
  apply And.intro
  · intro h w1 hw1 hm
    simp only [Act.put, List.setIfInBounds_toArray, List.set_cons_zero, List.set_cons_succ]
    exact wpQuiet_nil rfl
  intro q w1 hw1 hm
  obtain ⟨hh, im⟩ := hm
  have i1 := Blk.Is.below (w := W.drew) I0.out hw1
  have k1 := k0.drew.trans (hw1.mono k0.size)
  have I1 := Lib.hid i1
  have IM := Lib.hid im
  have hne : g ≠ q := by omega
  have hwh : w.heap.size ≤ q := by omega
  generalize htg : (s.drop 2).take 32 = tg at HT ⊢
  generalize hbd : s.drop 34 = bd at HD ⊢
  have hmay : ¬ may x.toNat y.toNat bd.length := by
    rintro ⟨m1, m2, m3, m4, m5⟩
    rw [← hbd, List.length_drop] at m5
    exact h ⟨h1, by omega, fun e => by rw [e] at m1; exact absurd m1 (by decide), fun e => by rw [e] at m3; exact absurd m3 (by decide)⟩
  have HMAY := Lib.hid hmay
  have HTG := Lib.hid htg
  have HBD := Lib.hid hbd
  clear h hw1 i1 im I0 k0 hbd htg hmay HT HD HX HY
  simp only [List.drop_succ_cons, List.drop_zero]
  refine Blk.store_row 46 (.tmp 4) (.tmp 19) rfl rfl q 0 (fc x.toNat y.toNat bd tg) rfl rfl IM.out (by exact Nat.le_refl 4) (by kernel_rfl) (fc_one _ _ _ _) ?_
  have im := Blk.Is.setCells (fc x.toNat y.toNat bd tg) IM.out 0 (by exact Nat.le_refl 4)
  rw [put_fc] at im
  have i2 := Blk.Is.setCellsOther (fc x.toNat y.toNat bd tg) I1.out hne 0
  have k2 := Blk.below_setCells (fc x.toNat y.toNat bd tg) k1 hwh 0
  generalize w1.setCells q 0 (fc x.toNat y.toNat bd tg) = w2 at im i2 k2 ⊢
  have IM := Lib.hid im
  have I2 := Lib.hid i2
  clear im i2 k1 I1
  go_wp2_with (first | (refine Blk.load_row 46 (.tmp 4) rfl (by rfl) q rfl 46 (fc x.toNat y.toNat bd tg) _ IM.out Try.underlying46 rfl (by kernel_rfl) ?_) | fail)
  refine (may_no x.toNat y.toNat bd tg w2 HMAY.out).mono ?_
  rintro e w3 ⟨rfl, k3⟩
  have i3 := I2.out.below k3
  have k3 := k2.trans (k3.mono k2.size)
  have I3 := Lib.hid i3
  clear i3 k2 I2
  go_wp2_with (first | (refine Blk.store_row 46 (.tmp 2) (.tmp 23) rfl rfl g 0 (fc 0 0 [] []) rfl rfl I3.out (by exact Nat.le_refl 4) (by kernel_rfl) (fc_one _ _ _ _) ?_) | fail)
  have i4 := Blk.Is.setCells (fc 0 0 [] []) I3.out 0 (by exact Nat.le_refl 4)
  rw [put_fc] at i4
  have k4 := Blk.below_setCells (fc 0 0 [] []) k3 hwg 0
  exact bodyPost_ret (results_row_tmp rfl _ _ g 46 (fc 0 0 [] []) rfl i4 _ Try.underlying46 rfl (by kernel_rfl) _ rfl) rfl ⟨rfl, k4⟩
set_option maxHeartbeats 4000000 in
set_option maxRecDepth 100000 in
theorem take_no1 (s : List UInt8) (w : World) (h1 : s.length < 34) :
    Calls Try.prog 39 #[.string ⟨s.toArray⟩] w fun e w' => e = .returned (.tuple #[fv 0 0 [] [], .int .i64 4]) ∧ Below w.heap.size w w' := by
  have hd : decide ((s.length : Int) < 34) = true := decide_eq_true (by omega)
  obtain ⟨g, hg⟩ : ∃ g, g = w.heap.size := ⟨_, rfl⟩
  have k0 : Below w.heap.size w (w.alloc (.cells (fc 0 0 [] []).toArray 46)) := (Below.refl _ _).alloc (Nat.le_refl _) _
  have I0 := Lib.hid (fr_new w 0 0 [] [] g hg)
  have HG := Lib.hid hg
  clear hg
  go_enter Try.func39, Try.ntmps39
  go_upto_region 2 with (fail)
  rw [← HG.out]
  generalize w.alloc (.cells (fc 0 0 [] []).toArray 46) = W at k0 I0 ⊢
  go_wp2_with (first | (refine Blk.store_row 46 (.tmp 2) (.tmp 8) rfl rfl g 0 (fc 0 0 [] []) rfl rfl I0.out (by exact Nat.le_refl 4) (by kernel_rfl) (fc_one _ _ _ _) ?_) | fail)
  have i4 := Blk.Is.setCells (fc 0 0 [] []) I0.out 0 (by exact Nat.le_refl 4)
  rw [put_fc] at i4
  have k4 := Blk.below_setCells (fc 0 0 [] []) k0 (by rw [HG.out]; exact Nat.le_refl _ : w.heap.size ≤ g) 0
  exact bodyPost_ret (results_row_tmp rfl _ _ g 46 (fc 0 0 [] []) rfl i4 _ Try.underlying46 rfl (by kernel_rfl) _ rfl) rfl ⟨rfl, k4⟩
theorem take_no (s : List UInt8) (w : World) (h2 : s.length < 1099511627776) (h : ¬ takes s) :
    Calls Try.prog 39 #[.string ⟨s.toArray⟩] w fun e w' => e = .returned (.tuple #[fv 0 0 [] [], .int .i64 4]) ∧ Below w.heap.size w w' := by
  by_cases h1 : 34 ≤ s.length
  · exact take_no2 s w h1 h2 h
  · exact take_no1 s w (by omega)
end Go.Proofs.Yticegglphmgoaaa.Sha
