/- Frames there and back; what must come of frames, whatever is given. No conditions but those that are named. -/
import Derived.Test.YticegglphmgoaaaFrG
namespace Go.Proofs.Yticegglphmgoaaa.Sha
open Go.RowKit
open Blk (nats)
theorem bytesOf_eq (f t : Int) (b g : List UInt8) : bytesOf f t b g = UInt8.ofNat (f % 256).toNat :: UInt8.ofNat (t % 256).toNat :: (g ++ b) := by
  unfold bytesOf ends2 endsOf
  simp
theorem end_byte (f : Int) (h1 : 1 ≤ f) (h2 : f ≤ 255) : ((UInt8.ofNat (f % 256).toNat).toNat : Int) = f ∧ UInt8.ofNat (f % 256).toNat ≠ 0 := by
  have e : (UInt8.ofNat (f % 256).toNat).toNat = (f % 256).toNat := by
    rw [UInt8.toNat_ofNat']
    omega
  refine ⟨by rw [e]; omega, fun h => ?_⟩
  rw [h] at e
  have : (0 : UInt8).toNat = 0 := rfl
  omega
theorem takes_bytes (f t : Int) (b g : List UInt8) (hm : may f t b.length) (hl : g.length = 32) : takes (bytesOf f t b g) ∧ (((bytesOf f t b g).getD 0 0).toNat : Int) = f ∧ (((bytesOf f t b g).getD 1 0).toNat : Int) = t ∧ (bytesOf f t b g).drop 34 = b ∧ ((bytesOf f t b g).drop 2).take 32 = g := by
  obtain ⟨m1, m2, m3, m4, m5⟩ := hm
  have h1 := end_byte f m1 m2
  have h2 := end_byte t m3 m4
  rw [bytesOf_eq]
  generalize UInt8.ofNat (f % 256).toNat = x at h1 ⊢
  generalize UInt8.ofNat (t % 256).toNat = y at h2 ⊢
  refine ⟨⟨by simp; omega, by simp; omega, by simpa using h1.2, by simpa using h2.2⟩, by simpa using h1.1, by simpa using h2.1, ?_, ?_⟩
  · simp only [List.drop_succ_cons]
    rw [List.drop_append_of_le_length (by omega), List.drop_of_length_le (by omega), List.nil_append]
  · simp only [List.drop_succ_cons, List.drop_zero]
    rw [List.take_append_of_le_length (by omega), List.take_of_length_le (by omega)]
theorem bytes_takes (s : List UInt8) (h : takes s) : may ((s.getD 0 0).toNat : Int) ((s.getD 1 0).toNat : Int) (s.drop 34).length ∧ ((s.drop 2).take 32).length = 32 ∧
    bytesOf ((s.getD 0 0).toNat : Int) ((s.getD 1 0).toNat : Int) (s.drop 34) ((s.drop 2).take 32) = s := by
  obtain ⟨h1, h2, h3, h4⟩ := h
  match s, h1 with
  | x :: y :: r, h1 =>
    simp only [List.getD_cons_zero, List.getD_cons_succ] at h3 h4 ⊢
    have hx : x.toNat ≠ 0 := fun e => h3 (UInt8.toNat_inj.1 e)
    have hy : y.toNat ≠ 0 := fun e => h4 (UInt8.toNat_inj.1 e)
    have x256 := x.toNat_lt
    have y256 := y.toNat_lt
    simp only [List.length_cons] at h1 h2
    refine ⟨⟨by omega, by omega, by omega, by omega, by rw [List.length_drop, List.length_cons, List.length_cons]; omega⟩, by rw [List.length_take, List.length_drop, List.length_cons, List.length_cons]; omega, ?_⟩
    rw [bytesOf_eq]
    have e : ∀ z : UInt8, UInt8.ofNat (((z.toNat : Int) % 256).toNat) = z := fun z => by
      have hz := z.toNat_lt
      rw [show ((z.toNat : Int) % 256).toNat = z.toNat by omega]
      exact UInt8.ofNat_toNat
    rw [e, e]
    simp only [List.drop_succ_cons, List.drop_zero]
    rw [List.take_append_drop]
  | [_], h1 => simp at h1
  | [], h1 => simp at h1
attribute [local irreducible] endsOf ends2 hmac hkey tagOf bytesOf
theorem take_bytes (f t : Int) (b g : List UInt8) (w : World) (hm : may f t b.length) (hl : g.length = 32) :
    Calls Try.prog 39 #[.string ⟨(bytesOf f t b g).toArray⟩] w fun e w' => e = .returned (.tuple #[fv f t b g, .int .i64 0]) ∧ Below w.heap.size w w' := by
  obtain ⟨h0, h1, h2, h3, h4⟩ := takes_bytes f t b g hm hl
  have := take_yes (bytesOf f t b g) w h0
  rw [h1, h2, h3, h4] at this
  exact this
theorem bytesOf_length (f t : Int) (b g : List UInt8) (hl : g.length = 32) : (bytesOf f t b g).length = b.length + 34 := by
  rw [bytesOf_eq]
  simp
  omega
set_option maxHeartbeats 4000000 in
set_option maxRecDepth 100000 in
theorem fawake_any (w : World) : Calls Try.prog 32 #[] w fun e w' => e = .returned (.bool true) ∧ Below w.heap.size w w' := by
  have hm : may 1 2 ([98, 111, 100, 121] : List UInt8).length := by decide
  have HM := Lib.hid hm
  obtain ⟨tg, htg⟩ : ∃ tg, tg = tagOf [115] 1 2 [98, 111, 100, 121] := ⟨_, rfl⟩
  have hl : tg.length = 32 := by rw [htg]; exact tagOf_length _ _ _ _
  obtain ⟨bs, hbs⟩ : ∃ bs, bs = bytesOf 1 2 [98, 111, 100, 121] tg := ⟨_, rfl⟩
  have hbl : bs.length = 38 := by rw [hbs, bytesOf_length _ _ _ _ hl]; rfl
  have HL := Lib.hid hl
  have HTG := Lib.hid htg
  have HBS := Lib.hid hbs
  have hd1 : ((tg.length : Int) == 32) = true := by rw [hl]; rfl
  have hd2 : ((bs.length : Int) == 38) = true := by rw [hbl]; rfl
  clear hm htg hl hbs hbl
  go_enter Try.func32, Try.ntmps32
  go_wp2_with fail
  refine (seal_yes [115] 1 2 [98, 111, 100, 121] w (by decide) (by decide) HM.out).mono ?_
  rintro e w1 ⟨rfl, k1⟩
  rw [← HTG.out]
  obtain ⟨j, hj⟩ : ∃ j, j = w1.heap.size := ⟨_, rfl⟩
  have j2 := fr_new w1 1 2 [98, 111, 100, 121] tg j hj
  have k2 := k1.alloc k1.size (.cells (fc 1 2 [98, 111, 100, 121] tg).toArray 46)
  have HJ := Lib.hid hj
  clear k1 hj
  go_upto_region 2 with (fail)
  rw [← HJ.out]
  generalize w1.alloc (.cells (fc 1 2 [98, 111, 100, 121] tg).toArray 46) = W2 at j2 k2 ⊢
  have J2 := Lib.hid j2
  clear j2 HJ
  go_wp2_with (first | (refine Blk.load_row 46 (.tmp 1) rfl (by rfl) j rfl 46 (fc 1 2 [98, 111, 100, 121] tg) _ J2.out Try.underlying46 rfl (by kernel_rfl) ?_) | fail)
  refine (bytes_yes 1 2 [98, 111, 100, 121] tg W2 HM.out HL.out).mono ?_
  rintro e w3 ⟨rfl, k3⟩
  rw [← HBS.out]
  have J3 := Lib.hid (J2.out.below k3)
  have k3 := k2.trans (k3.mono k2.size)
  clear k2 J2
  go_wp2_with fail
  rw [HBS.out]
  refine (take_bytes 1 2 [98, 111, 100, 121] tg w3 HM.out HL.out).mono ?_
  rintro e w4 ⟨rfl, k4⟩
  rw [← HBS.out]
  have j4 := J3.out.below k4
  have k4 := k3.trans (k4.mono k3.size)
  obtain ⟨i, hi⟩ : ∃ i, i = w4.heap.size := ⟨_, rfl⟩
  have i5 := fr_new w4 1 2 [98, 111, 100, 121] tg i hi
  have j5 := j4.alloc (.cells (fc 1 2 [98, 111, 100, 121] tg).toArray 46)
  have k5 := k4.alloc k4.size (.cells (fc 1 2 [98, 111, 100, 121] tg).toArray 46)
  have HI := Lib.hid hi
  clear k3 J3 j4 k4 hi
  go_upto_region 4 with (fail)
  rw [← HI.out]
  generalize w4.alloc (.cells (fc 1 2 [98, 111, 100, 121] tg).toArray 46) = W5 at i5 j5 k5 ⊢
  have c0 : W5.cell? ⟨j, 0, none⟩ = some (.int .i64 1) := j5.cell 0
  have c1 : W5.cell? ⟨j, 1, none⟩ = some (.int .i64 2) := j5.cell 1
  have c2 : W5.cell? ⟨j, 2, none⟩ = some (.string ⟨([98, 111, 100, 121] : List UInt8).toArray⟩) := j5.cell 2
  have c3 : W5.cell? ⟨j, 3, none⟩ = some (.string ⟨tg.toArray⟩) := j5.cell 3
  have J5 := Lib.hid j5
  have I5 := Lib.hid i5
  clear j5 i5 HI
  go_wp2_with (first | (refine Blk.load_row 46 (.tmp 1) rfl (by rfl) j rfl 46 (fc 1 2 [98, 111, 100, 121] tg) _ J5.out Try.underlying46 rfl (by kernel_rfl) ?_) | fail)
  refine (opens_any [115] 1 2 [98, 111, 100, 121] tg W5 (by decide) (by decide) (by rw [HL.out]; decide)).mono ?_
  rintro e w6 ⟨rfl, k6⟩
  rw [show decide (may 1 2 ([98, 111, 100, 121] : List UInt8).length ∧ tg = tagOf [115] 1 2 [98, 111, 100, 121]) = true from decide_eq_true ⟨HM.out, HTG.out⟩]
  have J6 := Lib.hid (J5.out.below k6)
  have I6 := Lib.hid (I5.out.below k6)
  have k6 := k5.trans (k6.mono k5.size)
  clear k5 J5 I5 c0 c1 c2 c3
  go_wp2_with (first | (refine Blk.load_row 46 (.tmp 1) rfl (by rfl) j rfl 46 (fc 1 2 [98, 111, 100, 121] tg) _ J6.out Try.underlying46 rfl (by kernel_rfl) ?_) | (refine Blk.load_row 46 (.tmp 5) rfl (by rfl) i rfl 46 (fc 1 2 [98, 111, 100, 121] tg) _ I6.out Try.underlying46 rfl (by kernel_rfl) ?_) | fail)
  exact bodyPost_ret (results_tmp rfl _ _ _) rfl ⟨rfl, k6⟩
end Go.Proofs.Yticegglphmgoaaa.Sha
