/- The law on the bytes of frames, walked. No conditions but those that are named. -/
import Derived.Test.YticegglphmgoaaaFrI
namespace Go.Proofs.Yticegglphmgoaaa.Sha
open Go.RowKit
open Blk (nats)
attribute [local irreducible] endsOf ends2 hmac hkey tagOf bytesOf takes
theorem take_yes' (s : List UInt8) (x y : Int) (bd tg : List UInt8) (w : World) (h : takes s) (hx : ((s.getD 0 0).toNat : Int) = x) (hy : ((s.getD 1 0).toNat : Int) = y) (hd : s.drop 34 = bd) (ht : (s.drop 2).take 32 = tg) :
    Calls Try.prog 39 #[.string ⟨s.toArray⟩] w fun e w' => e = .returned (.tuple #[fv x y bd tg, .int .i64 0]) ∧ Below w.heap.size w w' := by
  subst hx hy hd ht
  exact take_yes s w h
theorem rtake_yes' (s : List UInt8) (x y : Int) (bd tg : List UInt8) (w : World) (h : takes s) (hx : ((s.getD 0 0).toNat : Int) = x) (hy : ((s.getD 1 0).toNat : Int) = y) (hd : s.drop 34 = bd) (ht : (s.drop 2).take 32 = tg) :
    Calls Try.prog 40 #[.string ⟨s.toArray⟩] w fun e w' => e = .returned (.tuple #[fv x y bd tg, .int .i64 0]) ∧ Below w.heap.size w w' := by
  subst hx hy hd ht
  exact rtake_yes s w h
set_option maxHeartbeats 4000000 in
set_option maxRecDepth 100000 in
theorem fb_yy (f t : Int) (b g s : List UInt8) (w : World) (h1 : b.length ≤ 512) (_h2 : g.length ≤ 100) (h3 : s.length ≤ 512) (hA : may f t b.length ∧ g.length = 32) (hB : takes s) : Calls Try.prog 12 #[fv f t b g, .string ⟨s.toArray⟩] w fun e w' => e = .returned (.bool true) ∧ Below w.heap.size w w' := by
  have k0 : Below w.heap.size w (w.alloc (.cells (fc f t b g).toArray 46)) := (Below.refl _ _).alloc (Nat.le_refl _) _
  have d1 : decide ((512 : Int) < (b.length : Int)) = false := decide_eq_false (by omega)
  have d2 : decide ((100 : Int) < (g.length : Int)) = false := decide_eq_false (by omega)
  have d3 : decide ((512 : Int) < (s.length : Int)) = false := decide_eq_false (by omega)
  have HA := Lib.hid hA
  have HB := Lib.hid hB
  obtain ⟨bs, hbs⟩ : ∃ bs, bs = bytesOf f t b g := ⟨_, rfl⟩
  have HBS := Lib.hid hbs
  clear hbs
  obtain ⟨hm, hl, hs⟩ := bytes_takes s hB
  generalize hx : ((s.getD 0 0).toNat : Int) = x at hm hs
  generalize hy : ((s.getD 1 0).toNat : Int) = y at hm hs
  generalize hd : s.drop 34 = bd at hm hs
  generalize ht : (s.drop 2).take 32 = tg at hl hs
  have HX := Lib.hid hx
  have HY := Lib.hid hy
  have HD := Lib.hid hd
  have HT := Lib.hid ht
  have HM := Lib.hid hm
  have HL := Lib.hid hl
  have HS := Lib.hid hs
  clear hx hy hd ht hm hl hs
  clear hA hB
  have HI := Lib.hid (fr_new w f t b g w.heap.size rfl)
  go_enter Try.func12, Try.ntmps12
  go_upto_region 3 with (fail)
  obtain ⟨c, hc⟩ : ∃ c, c = w.heap.size := ⟨_, rfl⟩
  rw [← hc] at HI ⊢
  clear hc
  generalize w.alloc (.cells (fc f t b g).toArray 46) = W at k0 HI ⊢
  go_wp2_with (first | (refine Blk.load_row 46 (.tmp 2) rfl (by rfl) c rfl 46 (fc f t b g) _ HI.out Try.underlying46 rfl (by kernel_rfl) ?_) | fail)
  refine (bytes_yes f t b g W HA.out.1 HA.out.2).mono ?_
  rintro e w1 ⟨rfl, k1⟩
  rw [← HBS.out]
  have I1 := Lib.hid (HI.out.below k1)
  have k1 := k0.trans (k1.mono k0.size)
  clear k0 HI
  go_wp2_with (first | (refine Blk.load_row 46 (.tmp 2) rfl (by rfl) c rfl 46 (fc f t b g) _ I1.out Try.underlying46 rfl (by kernel_rfl) ?_) | fail)
  refine (rbytes_yes f t b g w1 HA.out.1 HA.out.2).mono ?_
  rintro e w2 ⟨rfl, k2⟩
  rw [← HBS.out]
  have I2 := Lib.hid (I1.out.below k2)
  have k2 := k1.trans (k2.mono k1.size)
  clear k1 I1
  go_wp2_with fail
  refine (take_yes' s x y bd tg w2 HB.out HX.out HY.out HD.out HT.out).mono ?_
  rintro e w3 ⟨rfl, k3⟩
  have i3 := I2.out.below k3
  have k3 := k2.trans (k3.mono k2.size)
  obtain ⟨u, hu⟩ : ∃ u, u = w3.heap.size := ⟨_, rfl⟩
  have u4 := fr_new w3 x y bd tg u hu
  have i4 := i3.alloc (.cells (fc x y bd tg).toArray 46)
  have k4 := k3.alloc k3.size (.cells (fc x y bd tg).toArray 46)
  have HU := Lib.hid hu
  have I4 := Lib.hid i4
  have U4 := Lib.hid u4
  clear k2 I2 hu i3 k3 i4 u4
  go_upto_region 6 with (fail)
  rw [← HU.out]
  generalize w3.alloc (.cells (fc x y bd tg).toArray 46) = W4 at k4 I4 U4 ⊢
  clear HU
  go_wp2_with fail
  refine (rtake_yes' s x y bd tg W4 HB.out HX.out HY.out HD.out HT.out).mono ?_
  rintro e w5 ⟨rfl, k5⟩
  have i5 := I4.out.below k5
  have u5 := U4.out.below k5
  have k5 := k4.trans (k5.mono k4.size)
  obtain ⟨v, hv⟩ : ∃ v, v = w5.heap.size := ⟨_, rfl⟩
  have v6 := fr_new w5 x y bd tg v hv
  have i6 := i5.alloc (.cells (fc x y bd tg).toArray 46)
  have u6 := u5.alloc (.cells (fc x y bd tg).toArray 46)
  have k6 := k5.alloc k5.size (.cells (fc x y bd tg).toArray 46)
  have HV := Lib.hid hv
  have I6 := Lib.hid i6
  have U6 := Lib.hid u6
  have V6 := Lib.hid v6
  clear k4 I4 U4 hv i5 u5 k5 i6 u6 v6
  go_upto_region 7 with (fail)
  rw [← HV.out]
  generalize w5.alloc (.cells (fc x y bd tg).toArray 46) = W6 at k6 I6 U6 V6 ⊢
  clear HV
  go_wp2_with (first | (refine Blk.load_row 46 (.tmp 9) rfl (by rfl) u rfl 46 (fc x y bd tg) _ U6.out Try.underlying46 rfl (by kernel_rfl) ?_) | (refine Blk.load_row 46 (.tmp 11) rfl (by rfl) v rfl 46 (fc x y bd tg) _ V6.out Try.underlying46 rfl (by kernel_rfl) ?_) | fail)
  rw [HBS.out]
  refine (take_bytes f t b g W6 HA.out.1 HA.out.2).mono ?_
  rintro e w7 ⟨rfl, k7⟩
  rw [← HBS.out]
  have i7 := I6.out.below k7
  have u7 := U6.out.below k7
  have k7 := k6.trans (k7.mono k6.size)
  obtain ⟨z, hz⟩ : ∃ z, z = w7.heap.size := ⟨_, rfl⟩
  have z8 := fr_new w7 f t b g z hz
  have i8 := i7.alloc (.cells (fc f t b g).toArray 46)
  have u8 := u7.alloc (.cells (fc f t b g).toArray 46)
  have k8 := k7.alloc k7.size (.cells (fc f t b g).toArray 46)
  have HZ := Lib.hid hz
  have I8 := Lib.hid i8
  have U8 := Lib.hid u8
  have Z8 := Lib.hid z8
  clear k6 I6 U6 V6 hz i7 u7 k7 i8 u8 z8
  go_upto_region 10 with (fail)
  rw [← HZ.out]
  generalize w7.alloc (.cells (fc f t b g).toArray 46) = W8 at k8 I8 U8 Z8 ⊢
  clear HZ
  go_wp2_with (first | (refine Blk.load_row 46 (.tmp 9) rfl (by rfl) u rfl 46 (fc x y bd tg) _ U8.out Try.underlying46 rfl (by kernel_rfl) ?_) | fail)
  refine (bytes_yes x y bd tg W8 HM.out HL.out).mono ?_
  rintro e w9 ⟨rfl, k9⟩
  rw [HS.out]
  have I9 := Lib.hid (I8.out.below k9)
  have Z9 := Lib.hid (Z8.out.below k9)
  have k9 := k8.trans (k9.mono k8.size)
  clear k8 I8 U8 Z8
  go_wp2_with (first | (refine Blk.load_row 46 (.tmp 2) rfl (by rfl) c rfl 46 (fc f t b g) _ I9.out Try.underlying46 rfl (by kernel_rfl) ?_) | (refine Blk.load_row 46 (.tmp 13) rfl (by rfl) z rfl 46 (fc f t b g) _ Z9.out Try.underlying46 rfl (by kernel_rfl) ?_) | fail)
  refine (fawake_any _).mono ?_
  rintro e wa ⟨rfl, ka⟩
  have ka := k9.trans (ka.mono k9.size)
  go_wp2
  exact bodyPost_ret (results_tmp rfl _ _ _) rfl ⟨rfl, ka⟩
set_option maxHeartbeats 4000000 in
set_option maxRecDepth 100000 in
theorem fb_yn (f t : Int) (b g s : List UInt8) (w : World) (h1 : b.length ≤ 512) (_h2 : g.length ≤ 100) (h3 : s.length ≤ 512) (hA : may f t b.length ∧ g.length = 32) (hB : ¬ takes s) : Calls Try.prog 12 #[fv f t b g, .string ⟨s.toArray⟩] w fun e w' => e = .returned (.bool true) ∧ Below w.heap.size w w' := by
  have k0 : Below w.heap.size w (w.alloc (.cells (fc f t b g).toArray 46)) := (Below.refl _ _).alloc (Nat.le_refl _) _
  have d1 : decide ((512 : Int) < (b.length : Int)) = false := decide_eq_false (by omega)
  have d2 : decide ((100 : Int) < (g.length : Int)) = false := decide_eq_false (by omega)
  have d3 : decide ((512 : Int) < (s.length : Int)) = false := decide_eq_false (by omega)
  have HA := Lib.hid hA
  have HB := Lib.hid hB
  obtain ⟨bs, hbs⟩ : ∃ bs, bs = bytesOf f t b g := ⟨_, rfl⟩
  have HBS := Lib.hid hbs
  clear hbs
  clear hA hB
  have HI := Lib.hid (fr_new w f t b g w.heap.size rfl)
  go_enter Try.func12, Try.ntmps12
  go_upto_region 3 with (fail)
  obtain ⟨c, hc⟩ : ∃ c, c = w.heap.size := ⟨_, rfl⟩
  rw [← hc] at HI ⊢
  clear hc
  generalize w.alloc (.cells (fc f t b g).toArray 46) = W at k0 HI ⊢
  go_wp2_with (first | (refine Blk.load_row 46 (.tmp 2) rfl (by rfl) c rfl 46 (fc f t b g) _ HI.out Try.underlying46 rfl (by kernel_rfl) ?_) | fail)
  refine (bytes_yes f t b g W HA.out.1 HA.out.2).mono ?_
  rintro e w1 ⟨rfl, k1⟩
  rw [← HBS.out]
  have I1 := Lib.hid (HI.out.below k1)
  have k1 := k0.trans (k1.mono k0.size)
  clear k0 HI
  go_wp2_with (first | (refine Blk.load_row 46 (.tmp 2) rfl (by rfl) c rfl 46 (fc f t b g) _ I1.out Try.underlying46 rfl (by kernel_rfl) ?_) | fail)
  refine (rbytes_yes f t b g w1 HA.out.1 HA.out.2).mono ?_
  rintro e w2 ⟨rfl, k2⟩
  rw [← HBS.out]
  have I2 := Lib.hid (I1.out.below k2)
  have k2 := k1.trans (k2.mono k1.size)
  clear k1 I1
  go_wp2_with fail
  refine (take_no s w2 (by omega) HB.out).mono ?_
  rintro e w3 ⟨rfl, k3⟩
  have i3 := I2.out.below k3
  have k3 := k2.trans (k3.mono k2.size)
  obtain ⟨u, hu⟩ : ∃ u, u = w3.heap.size := ⟨_, rfl⟩
  have u4 := fr_new w3 0 0 [] [] u hu
  have i4 := i3.alloc (.cells (fc 0 0 [] []).toArray 46)
  have k4 := k3.alloc k3.size (.cells (fc 0 0 [] []).toArray 46)
  have HU := Lib.hid hu
  have I4 := Lib.hid i4
  have U4 := Lib.hid u4
  clear k2 I2 hu i3 k3 i4 u4
  go_upto_region 6 with (fail)
  rw [← HU.out]
  generalize w3.alloc (.cells (fc 0 0 [] []).toArray 46) = W4 at k4 I4 U4 ⊢
  clear HU
  go_wp2_with fail
  refine (rtake_no s W4 (by omega) HB.out).mono ?_
  rintro e w5 ⟨rfl, k5⟩
  have i5 := I4.out.below k5
  have u5 := U4.out.below k5
  have k5 := k4.trans (k5.mono k4.size)
  obtain ⟨v, hv⟩ : ∃ v, v = w5.heap.size := ⟨_, rfl⟩
  have v6 := fr_new w5 0 0 [] [] v hv
  have i6 := i5.alloc (.cells (fc 0 0 [] []).toArray 46)
  have u6 := u5.alloc (.cells (fc 0 0 [] []).toArray 46)
  have k6 := k5.alloc k5.size (.cells (fc 0 0 [] []).toArray 46)
  have HV := Lib.hid hv
  have I6 := Lib.hid i6
  have U6 := Lib.hid u6
  have V6 := Lib.hid v6
  clear k4 I4 U4 hv i5 u5 k5 i6 u6 v6
  go_upto_region 7 with (fail)
  rw [← HV.out]
  generalize w5.alloc (.cells (fc 0 0 [] []).toArray 46) = W6 at k6 I6 U6 V6 ⊢
  clear HV
  go_wp2_with (first | (refine Blk.load_row 46 (.tmp 9) rfl (by rfl) u rfl 46 (fc 0 0 [] []) _ U6.out Try.underlying46 rfl (by kernel_rfl) ?_) | (refine Blk.load_row 46 (.tmp 11) rfl (by rfl) v rfl 46 (fc 0 0 [] []) _ V6.out Try.underlying46 rfl (by kernel_rfl) ?_) | fail)
  rw [HBS.out]
  refine (take_bytes f t b g W6 HA.out.1 HA.out.2).mono ?_
  rintro e w7 ⟨rfl, k7⟩
  rw [← HBS.out]
  have i7 := I6.out.below k7
  have u7 := U6.out.below k7
  have k7 := k6.trans (k7.mono k6.size)
  obtain ⟨z, hz⟩ : ∃ z, z = w7.heap.size := ⟨_, rfl⟩
  have z8 := fr_new w7 f t b g z hz
  have i8 := i7.alloc (.cells (fc f t b g).toArray 46)
  have u8 := u7.alloc (.cells (fc f t b g).toArray 46)
  have k8 := k7.alloc k7.size (.cells (fc f t b g).toArray 46)
  have HZ := Lib.hid hz
  have I8 := Lib.hid i8
  have U8 := Lib.hid u8
  have Z8 := Lib.hid z8
  clear k6 I6 U6 V6 hz i7 u7 k7 i8 u8 z8
  go_upto_region 10 with (fail)
  rw [← HZ.out]
  generalize w7.alloc (.cells (fc f t b g).toArray 46) = W8 at k8 I8 U8 Z8 ⊢
  clear HZ
  go_wp2_with (first | (refine Blk.load_row 46 (.tmp 9) rfl (by rfl) u rfl 46 (fc 0 0 [] []) _ U8.out Try.underlying46 rfl (by kernel_rfl) ?_) | fail)
  refine (bytes_no 0 0 [] [] W8 (by decide)).mono ?_
  rintro e w9 ⟨rfl, k9⟩
  have I9 := Lib.hid (I8.out.below k9)
  have Z9 := Lib.hid (Z8.out.below k9)
  have k9 := k8.trans (k9.mono k8.size)
  clear k8 I8 U8 Z8
  go_wp2_with (first | (refine Blk.load_row 46 (.tmp 2) rfl (by rfl) c rfl 46 (fc f t b g) _ I9.out Try.underlying46 rfl (by kernel_rfl) ?_) | (refine Blk.load_row 46 (.tmp 13) rfl (by rfl) z rfl 46 (fc f t b g) _ Z9.out Try.underlying46 rfl (by kernel_rfl) ?_) | fail)
  refine (fawake_any _).mono ?_
  rintro e wa ⟨rfl, ka⟩
  have ka := k9.trans (ka.mono k9.size)
  go_wp2
  exact bodyPost_ret (results_tmp rfl _ _ _) rfl ⟨rfl, ka⟩
set_option maxHeartbeats 4000000 in
set_option maxRecDepth 100000 in
theorem fb_ny (f t : Int) (b g s : List UInt8) (w : World) (h1 : b.length ≤ 512) (h2 : g.length ≤ 100) (h3 : s.length ≤ 512) (hA : ¬ (may f t b.length ∧ g.length = 32)) (hB : takes s) : Calls Try.prog 12 #[fv f t b g, .string ⟨s.toArray⟩] w fun e w' => e = .returned (.bool true) ∧ Below w.heap.size w w' := by
  have k0 : Below w.heap.size w (w.alloc (.cells (fc f t b g).toArray 46)) := (Below.refl _ _).alloc (Nat.le_refl _) _
  have d1 : decide ((512 : Int) < (b.length : Int)) = false := decide_eq_false (by omega)
  have d2 : decide ((100 : Int) < (g.length : Int)) = false := decide_eq_false (by omega)
  have d3 : decide ((512 : Int) < (s.length : Int)) = false := decide_eq_false (by omega)
  have HA := Lib.hid hA
  have HB := Lib.hid hB
  obtain ⟨hm, hl, hs⟩ := bytes_takes s hB
  generalize hx : ((s.getD 0 0).toNat : Int) = x at hm hs
  generalize hy : ((s.getD 1 0).toNat : Int) = y at hm hs
  generalize hd : s.drop 34 = bd at hm hs
  generalize ht : (s.drop 2).take 32 = tg at hl hs
  have HX := Lib.hid hx
  have HY := Lib.hid hy
  have HD := Lib.hid hd
  have HT := Lib.hid ht
  have HM := Lib.hid hm
  have HL := Lib.hid hl
  have HS := Lib.hid hs
  clear hx hy hd ht hm hl hs
  clear hA hB
  have HI := Lib.hid (fr_new w f t b g w.heap.size rfl)
  go_enter Try.func12, Try.ntmps12
  go_upto_region 3 with (fail)
  obtain ⟨c, hc⟩ : ∃ c, c = w.heap.size := ⟨_, rfl⟩
  rw [← hc] at HI ⊢
  clear hc
  generalize w.alloc (.cells (fc f t b g).toArray 46) = W at k0 HI ⊢
  go_wp2_with (first | (refine Blk.load_row 46 (.tmp 2) rfl (by rfl) c rfl 46 (fc f t b g) _ HI.out Try.underlying46 rfl (by kernel_rfl) ?_) | fail)
  refine (bytes_no f t b g W HA.out).mono ?_
  rintro e w1 ⟨rfl, k1⟩
  have I1 := Lib.hid (HI.out.below k1)
  have k1 := k0.trans (k1.mono k0.size)
  clear k0 HI
  go_wp2_with (first | (refine Blk.load_row 46 (.tmp 2) rfl (by rfl) c rfl 46 (fc f t b g) _ I1.out Try.underlying46 rfl (by kernel_rfl) ?_) | fail)
  refine (rbytes_no f t b g w1 HA.out).mono ?_
  rintro e w2 ⟨rfl, k2⟩
  have I2 := Lib.hid (I1.out.below k2)
  have k2 := k1.trans (k2.mono k1.size)
  clear k1 I1
  go_wp2_with fail
  refine (take_yes' s x y bd tg w2 HB.out HX.out HY.out HD.out HT.out).mono ?_
  rintro e w3 ⟨rfl, k3⟩
  have i3 := I2.out.below k3
  have k3 := k2.trans (k3.mono k2.size)
  obtain ⟨u, hu⟩ : ∃ u, u = w3.heap.size := ⟨_, rfl⟩
  have u4 := fr_new w3 x y bd tg u hu
  have i4 := i3.alloc (.cells (fc x y bd tg).toArray 46)
  have k4 := k3.alloc k3.size (.cells (fc x y bd tg).toArray 46)
  have HU := Lib.hid hu
  have I4 := Lib.hid i4
  have U4 := Lib.hid u4
  clear k2 I2 hu i3 k3 i4 u4
  go_upto_region 6 with (fail)
  rw [← HU.out]
  generalize w3.alloc (.cells (fc x y bd tg).toArray 46) = W4 at k4 I4 U4 ⊢
  clear HU
  go_wp2_with fail
  refine (rtake_yes' s x y bd tg W4 HB.out HX.out HY.out HD.out HT.out).mono ?_
  rintro e w5 ⟨rfl, k5⟩
  have i5 := I4.out.below k5
  have u5 := U4.out.below k5
  have k5 := k4.trans (k5.mono k4.size)
  obtain ⟨v, hv⟩ : ∃ v, v = w5.heap.size := ⟨_, rfl⟩
  have v6 := fr_new w5 x y bd tg v hv
  have i6 := i5.alloc (.cells (fc x y bd tg).toArray 46)
  have u6 := u5.alloc (.cells (fc x y bd tg).toArray 46)
  have k6 := k5.alloc k5.size (.cells (fc x y bd tg).toArray 46)
  have HV := Lib.hid hv
  have I6 := Lib.hid i6
  have U6 := Lib.hid u6
  have V6 := Lib.hid v6
  clear k4 I4 U4 hv i5 u5 k5 i6 u6 v6
  go_upto_region 7 with (fail)
  rw [← HV.out]
  generalize w5.alloc (.cells (fc x y bd tg).toArray 46) = W6 at k6 I6 U6 V6 ⊢
  clear HV
  go_wp2_with (first | (refine Blk.load_row 46 (.tmp 9) rfl (by rfl) u rfl 46 (fc x y bd tg) _ U6.out Try.underlying46 rfl (by kernel_rfl) ?_) | (refine Blk.load_row 46 (.tmp 11) rfl (by rfl) v rfl 46 (fc x y bd tg) _ V6.out Try.underlying46 rfl (by kernel_rfl) ?_) | fail)
  refine (take_no [] W6 (by decide) (by decide)).mono ?_
  rintro e w7 ⟨rfl, k7⟩
  have i7 := I6.out.below k7
  have u7 := U6.out.below k7
  have k7 := k6.trans (k7.mono k6.size)
  obtain ⟨z, hz⟩ : ∃ z, z = w7.heap.size := ⟨_, rfl⟩
  have z8 := fr_new w7 0 0 [] [] z hz
  have i8 := i7.alloc (.cells (fc 0 0 [] []).toArray 46)
  have u8 := u7.alloc (.cells (fc 0 0 [] []).toArray 46)
  have k8 := k7.alloc k7.size (.cells (fc 0 0 [] []).toArray 46)
  have HZ := Lib.hid hz
  have I8 := Lib.hid i8
  have U8 := Lib.hid u8
  have Z8 := Lib.hid z8
  clear k6 I6 U6 V6 hz i7 u7 k7 i8 u8 z8
  go_upto_region 10 with (fail)
  rw [← HZ.out]
  generalize w7.alloc (.cells (fc 0 0 [] []).toArray 46) = W8 at k8 I8 U8 Z8 ⊢
  clear HZ
  go_wp2_with (first | (refine Blk.load_row 46 (.tmp 9) rfl (by rfl) u rfl 46 (fc x y bd tg) _ U8.out Try.underlying46 rfl (by kernel_rfl) ?_) | fail)
  refine (bytes_yes x y bd tg W8 HM.out HL.out).mono ?_
  rintro e w9 ⟨rfl, k9⟩
  rw [HS.out]
  have I9 := Lib.hid (I8.out.below k9)
  have Z9 := Lib.hid (Z8.out.below k9)
  have k9 := k8.trans (k9.mono k8.size)
  clear k8 I8 U8 Z8
  go_wp2_with (first | (refine Blk.load_row 46 (.tmp 2) rfl (by rfl) c rfl 46 (fc f t b g) _ I9.out Try.underlying46 rfl (by kernel_rfl) ?_) | (refine Blk.load_row 46 (.tmp 13) rfl (by rfl) z rfl 46 (fc 0 0 [] []) _ Z9.out Try.underlying46 rfl (by kernel_rfl) ?_) | fail)
  refine (fawake_any _).mono ?_
  rintro e wa ⟨rfl, ka⟩
  have ka := k9.trans (ka.mono k9.size)
  go_wp2
  exact bodyPost_ret (results_tmp rfl _ _ _) rfl ⟨rfl, ka⟩
set_option maxHeartbeats 4000000 in
set_option maxRecDepth 100000 in
theorem fb_nn (f t : Int) (b g s : List UInt8) (w : World) (h1 : b.length ≤ 512) (h2 : g.length ≤ 100) (h3 : s.length ≤ 512) (hA : ¬ (may f t b.length ∧ g.length = 32)) (hB : ¬ takes s) : Calls Try.prog 12 #[fv f t b g, .string ⟨s.toArray⟩] w fun e w' => e = .returned (.bool true) ∧ Below w.heap.size w w' := by
  have k0 : Below w.heap.size w (w.alloc (.cells (fc f t b g).toArray 46)) := (Below.refl _ _).alloc (Nat.le_refl _) _
  have d1 : decide ((512 : Int) < (b.length : Int)) = false := decide_eq_false (by omega)
  have d2 : decide ((100 : Int) < (g.length : Int)) = false := decide_eq_false (by omega)
  have d3 : decide ((512 : Int) < (s.length : Int)) = false := decide_eq_false (by omega)
  have HA := Lib.hid hA
  have HB := Lib.hid hB
  clear hA hB
  have HI := Lib.hid (fr_new w f t b g w.heap.size rfl)
  go_enter Try.func12, Try.ntmps12
  go_upto_region 3 with (fail)
  obtain ⟨c, hc⟩ : ∃ c, c = w.heap.size := ⟨_, rfl⟩
  rw [← hc] at HI ⊢
  clear hc
  generalize w.alloc (.cells (fc f t b g).toArray 46) = W at k0 HI ⊢
  go_wp2_with (first | (refine Blk.load_row 46 (.tmp 2) rfl (by rfl) c rfl 46 (fc f t b g) _ HI.out Try.underlying46 rfl (by kernel_rfl) ?_) | fail)
  refine (bytes_no f t b g W HA.out).mono ?_
  rintro e w1 ⟨rfl, k1⟩
  have I1 := Lib.hid (HI.out.below k1)
  have k1 := k0.trans (k1.mono k0.size)
  clear k0 HI
  go_wp2_with (first | (refine Blk.load_row 46 (.tmp 2) rfl (by rfl) c rfl 46 (fc f t b g) _ I1.out Try.underlying46 rfl (by kernel_rfl) ?_) | fail)
  refine (rbytes_no f t b g w1 HA.out).mono ?_
  rintro e w2 ⟨rfl, k2⟩
  have I2 := Lib.hid (I1.out.below k2)
  have k2 := k1.trans (k2.mono k1.size)
  clear k1 I1
  go_wp2_with fail
  refine (take_no s w2 (by omega) HB.out).mono ?_
  rintro e w3 ⟨rfl, k3⟩
  have i3 := I2.out.below k3
  have k3 := k2.trans (k3.mono k2.size)
  obtain ⟨u, hu⟩ : ∃ u, u = w3.heap.size := ⟨_, rfl⟩
  have u4 := fr_new w3 0 0 [] [] u hu
  have i4 := i3.alloc (.cells (fc 0 0 [] []).toArray 46)
  have k4 := k3.alloc k3.size (.cells (fc 0 0 [] []).toArray 46)
  have HU := Lib.hid hu
  have I4 := Lib.hid i4
  have U4 := Lib.hid u4
  clear k2 I2 hu i3 k3 i4 u4
  go_upto_region 6 with (fail)
  rw [← HU.out]
  generalize w3.alloc (.cells (fc 0 0 [] []).toArray 46) = W4 at k4 I4 U4 ⊢
  clear HU
  go_wp2_with fail
  refine (rtake_no s W4 (by omega) HB.out).mono ?_
  rintro e w5 ⟨rfl, k5⟩
  have i5 := I4.out.below k5
  have u5 := U4.out.below k5
  have k5 := k4.trans (k5.mono k4.size)
  obtain ⟨v, hv⟩ : ∃ v, v = w5.heap.size := ⟨_, rfl⟩
  have v6 := fr_new w5 0 0 [] [] v hv
  have i6 := i5.alloc (.cells (fc 0 0 [] []).toArray 46)
  have u6 := u5.alloc (.cells (fc 0 0 [] []).toArray 46)
  have k6 := k5.alloc k5.size (.cells (fc 0 0 [] []).toArray 46)
  have HV := Lib.hid hv
  have I6 := Lib.hid i6
  have U6 := Lib.hid u6
  have V6 := Lib.hid v6
  clear k4 I4 U4 hv i5 u5 k5 i6 u6 v6
  go_upto_region 7 with (fail)
  rw [← HV.out]
  generalize w5.alloc (.cells (fc 0 0 [] []).toArray 46) = W6 at k6 I6 U6 V6 ⊢
  clear HV
  go_wp2_with (first | (refine Blk.load_row 46 (.tmp 9) rfl (by rfl) u rfl 46 (fc 0 0 [] []) _ U6.out Try.underlying46 rfl (by kernel_rfl) ?_) | (refine Blk.load_row 46 (.tmp 11) rfl (by rfl) v rfl 46 (fc 0 0 [] []) _ V6.out Try.underlying46 rfl (by kernel_rfl) ?_) | fail)
  refine (take_no [] W6 (by decide) (by decide)).mono ?_
  rintro e w7 ⟨rfl, k7⟩
  have i7 := I6.out.below k7
  have u7 := U6.out.below k7
  have k7 := k6.trans (k7.mono k6.size)
  obtain ⟨z, hz⟩ : ∃ z, z = w7.heap.size := ⟨_, rfl⟩
  have z8 := fr_new w7 0 0 [] [] z hz
  have i8 := i7.alloc (.cells (fc 0 0 [] []).toArray 46)
  have u8 := u7.alloc (.cells (fc 0 0 [] []).toArray 46)
  have k8 := k7.alloc k7.size (.cells (fc 0 0 [] []).toArray 46)
  have HZ := Lib.hid hz
  have I8 := Lib.hid i8
  have U8 := Lib.hid u8
  have Z8 := Lib.hid z8
  clear k6 I6 U6 V6 hz i7 u7 k7 i8 u8 z8
  go_upto_region 10 with (fail)
  rw [← HZ.out]
  generalize w7.alloc (.cells (fc 0 0 [] []).toArray 46) = W8 at k8 I8 U8 Z8 ⊢
  clear HZ
  go_wp2_with (first | (refine Blk.load_row 46 (.tmp 9) rfl (by rfl) u rfl 46 (fc 0 0 [] []) _ U8.out Try.underlying46 rfl (by kernel_rfl) ?_) | fail)
  refine (bytes_no 0 0 [] [] W8 (by decide)).mono ?_
  rintro e w9 ⟨rfl, k9⟩
  have I9 := Lib.hid (I8.out.below k9)
  have Z9 := Lib.hid (Z8.out.below k9)
  have k9 := k8.trans (k9.mono k8.size)
  clear k8 I8 U8 Z8
  go_wp2_with (first | (refine Blk.load_row 46 (.tmp 2) rfl (by rfl) c rfl 46 (fc f t b g) _ I9.out Try.underlying46 rfl (by kernel_rfl) ?_) | (refine Blk.load_row 46 (.tmp 13) rfl (by rfl) z rfl 46 (fc 0 0 [] []) _ Z9.out Try.underlying46 rfl (by kernel_rfl) ?_) | fail)
  refine (fawake_any _).mono ?_
  rintro e wa ⟨rfl, ka⟩
  have ka := k9.trans (ka.mono k9.size)
  go_wp2
  exact bodyPost_ret (results_tmp rfl _ _ _) rfl ⟨rfl, ka⟩
set_option maxHeartbeats 4000000 in
set_option maxRecDepth 100000 in
theorem frameBytes_any (f t : Int) (b g a : ByteArray) (w : World) : Calls Try.prog 12 #[.agg #[.int .i64 f, .int .i64 t, .string b, .string g], .string a] w fun e w' => e = .returned (.bool true) ∧ Below w.heap.size w w' := by
  obtain ⟨s, rfl⟩ : ∃ s : List UInt8, a = ⟨s.toArray⟩ := ⟨a.data.toList, rfl⟩
  obtain ⟨b, rfl⟩ : ∃ s : List UInt8, b = ⟨s.toArray⟩ := ⟨b.data.toList, rfl⟩
  obtain ⟨g, rfl⟩ : ∃ s : List UInt8, g = ⟨s.toArray⟩ := ⟨g.data.toList, rfl⟩
  have k0 : Below w.heap.size w (w.alloc (.cells (fc f t b g).toArray 46)) := (Below.refl _ _).alloc (Nat.le_refl _) _
  by_cases h1 : b.length ≤ 512
  · by_cases h2 : g.length ≤ 100
    · by_cases h3 : s.length ≤ 512
      · by_cases hA : may f t b.length ∧ g.length = 32
        · by_cases hB : takes s
          · exact fb_yy f t b g s w h1 h2 h3 hA hB
          · exact fb_yn f t b g s w h1 h2 h3 hA hB
        · by_cases hB : takes s
          · exact fb_ny f t b g s w h1 h2 h3 hA hB
          · exact fb_nn f t b g s w h1 h2 h3 hA hB
      · have d1 : decide ((512 : Int) < (b.length : Int)) = false := decide_eq_false (by omega)
        have d2 : decide ((100 : Int) < (g.length : Int)) = false := decide_eq_false (by omega)
        have d3 : decide ((512 : Int) < (s.length : Int)) = true := decide_eq_true (by omega)
        go_enter Try.func12, Try.ntmps12
        go_wp2_with fail
        refine (fawake_any _).mono ?_
        rintro e w9 ⟨rfl, k9⟩
        have k9 := k0.trans (k9.mono k0.size)
        go_wp2
        exact bodyPost_ret (results_tmp rfl _ _ _) rfl ⟨rfl, k9⟩
    · have d1 : decide ((512 : Int) < (b.length : Int)) = false := decide_eq_false (by omega)
      have d2 : decide ((100 : Int) < (g.length : Int)) = true := decide_eq_true (by omega)
      go_enter Try.func12, Try.ntmps12
      go_wp2_with fail
      refine (fawake_any _).mono ?_
      rintro e w9 ⟨rfl, k9⟩
      have k9 := k0.trans (k9.mono k0.size)
      go_wp2
      exact bodyPost_ret (results_tmp rfl _ _ _) rfl ⟨rfl, k9⟩
  · have d1 : decide ((512 : Int) < (b.length : Int)) = true := decide_eq_true (by omega)
    go_enter Try.func12, Try.ntmps12
    go_wp2_with fail
    refine (fawake_any _).mono ?_
    rintro e w9 ⟨rfl, k9⟩
    have k9 := k0.trans (k9.mono k0.size)
    go_wp2
    exact bodyPost_ret (results_tmp rfl _ _ _) rfl ⟨rfl, k9⟩
end Go.Proofs.Yticegglphmgoaaa.Sha
