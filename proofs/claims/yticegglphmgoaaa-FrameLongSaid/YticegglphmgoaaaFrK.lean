/- The law on a body of as many bytes as may be, walked. No conditions but those that are named. -/
import Derived.Test.YticegglphmgoaaaFrJ
namespace Go.Proofs.Yticegglphmgoaaa.Sha
open Go.RowKit
open Blk (nats)
theorem and7 (a : Int) : bits .and .i64 a 7 = a % 8 := by
  show IntKind.i64.wrap ((BitVec.ofInt 64 a &&& BitVec.ofInt 64 7).toNat : Nat) = _
  have e : (BitVec.ofInt 64 7).toNat = 2 ^ 3 - 1 := by decide
  rw [BitVec.toNat_and, e, Nat.and_two_pow_sub_one_eq_mod, BitVec.toNat_ofInt, IntKind.wrap_i64]
  omega
/-- So many bytes 0 as a text. -/
def zs (n : Nat) : List UInt8 := (Byt.zeros n).map UInt8.ofNat
theorem zs_text (n : Nat) : Byt.text (Byt.zeros n) = .string ⟨(zs n).toArray⟩ := rfl
theorem zs_length (n : Nat) : (zs n).length = n := by simp [zs, Byt.zeros]
theorem zeros_lt (n : Nat) : ∀ y ∈ Byt.zeros n, y < 256 := fun y hy => by rw [(List.mem_replicate.1 hy).2]; decide
theorem zrange {w : World} {g : Nat} {n : Nat} (h : Blk.Is w g (nats .u8 (Byt.zeros n)) 5) : w.rangeAt g 0 (nats .u8 (Byt.zeros n)) := h.range 0 _ (fun j v hj => by rw [Nat.zero_add]; exact hj)
attribute [local irreducible] endsOf ends2 hmac hkey tagOf bytesOf takes Byt.zeros zs
set_option maxHeartbeats 4000000 in
set_option maxRecDepth 100000 in
theorem fl_yes (a : Int) (n : Nat) (w : World) (hn : 8188 + a % 8 = (n : Int)) (h : n ≤ 8192) : Calls Try.prog 13 #[.int .i64 a] w fun e w' => e = .returned (.bool true) ∧ Below w.heap.size w w' := by
  have ea := and7 a
  have hl := zs_length n
  have hm : may 3 4 (zs n).length := by rw [hl]; exact ⟨by decide, by decide, by decide, by decide, h⟩
  have d4 : decide ((8192 : Int) < (n : Int)) = false := decide_eq_false (by omega)
  obtain ⟨tg, htg⟩ : ∃ tg, tg = tagOf [115] 3 4 (zs n) := ⟨_, rfl⟩
  have HTL := Lib.hid (show tg.length = 32 by rw [htg]; exact tagOf_length _ _ _ _)
  have HTG := Lib.hid htg
  obtain ⟨bs, hbs⟩ : ∃ bs, bs = bytesOf 3 4 (zs n) tg := ⟨_, rfl⟩
  have HBS := Lib.hid hbs
  have HL := Lib.hid hl
  have HM := Lib.hid hm
  have HN := Lib.hid hn
  clear hl hm htg hbs hn
  go_enter Try.func13, Try.ntmps13
  go_upto_region 2 with (fail)
  rw [HN.out]
  clear ea
  go_wp2_with (first | (refine Byt.make_wp kit rfl (.tmp 18) (.tmp 18) rfl .i64 .i64 n (n : Int) rfl rfl rfl (by omega) ?_) | fail)
  intro w1 i1 k1 _
  have HZ := Lib.hid (zrange i1)
  have HZL := Lib.hid (Byt.zeros_length n)
  go_wp2_with (first | (refine Byt.text_at_wp kit rfl (.tmp 19) rfl w.heap.size 0 n n rfl (Byt.zeros n) HZ.out HZL.out.symm (zeros_lt n) ?_; rw [zs_text]) | fail)
  clear HZ HZL i1
  refine (seal_yes [115] 3 4 (zs n) w1 (by decide) (by rw [HL.out]; omega) HM.out).mono ?_
  rintro e w2 ⟨rfl, k2⟩
  rw [← HTG.out]
  have k2 := k1.trans (k2.mono k1.size)
  obtain ⟨u, hu⟩ : ∃ u, u = w2.heap.size := ⟨_, rfl⟩
  have u3 := fr_new w2 3 4 (zs n) tg u hu
  have k3 := k2.alloc k2.size (.cells (fc 3 4 (zs n) tg).toArray 46)
  have HU := Lib.hid hu
  have U3 := Lib.hid u3
  clear hu u3 k1 k2
  go_upto_region 8 with (fail)
  rw [← HU.out]
  generalize w2.alloc (.cells (fc 3 4 (zs n) tg).toArray 46) = W3 at k3 U3 ⊢
  clear HU
  go_wp2_with (first | (refine Blk.load_row 46 (.tmp 5) rfl (by rfl) u rfl 46 (fc 3 4 (zs n) tg) _ U3.out Try.underlying46 rfl (by kernel_rfl) ?_) | fail)
  refine (bytes_yes 3 4 (zs n) tg W3 HM.out HTL.out).mono ?_
  rintro e w4 ⟨rfl, k4⟩
  rw [← HBS.out]
  have U4 := Lib.hid (U3.out.below k4)
  have k4 := k3.trans (k4.mono k3.size)
  clear k3 U3
  go_wp2_with fail
  rw [HBS.out]
  refine (take_bytes 3 4 (zs n) tg w4 HM.out HTL.out).mono ?_
  rintro e w5 ⟨rfl, k5⟩
  rw [← HBS.out]
  have u5 := U4.out.below k5
  have k5 := k4.trans (k5.mono k4.size)
  obtain ⟨v, hv⟩ : ∃ v, v = w5.heap.size := ⟨_, rfl⟩
  have v6 := fr_new w5 3 4 (zs n) tg v hv
  have u6 := u5.alloc (.cells (fc 3 4 (zs n) tg).toArray 46)
  have k6 := k5.alloc k5.size (.cells (fc 3 4 (zs n) tg).toArray 46)
  have HV := Lib.hid hv
  have U6 := Lib.hid u6
  have V6 := Lib.hid v6
  clear hv u5 u6 v6 k4 k5 U4
  go_upto_region 10 with (fail)
  rw [← HV.out]
  generalize w5.alloc (.cells (fc 3 4 (zs n) tg).toArray 46) = W6 at k6 U6 V6 ⊢
  clear HV
  go_wp2_with (first | (refine Blk.load_row 46 (.tmp 5) rfl (by rfl) u rfl 46 (fc 3 4 (zs n) tg) _ U6.out Try.underlying46 rfl (by kernel_rfl) ?_) | (refine Blk.load_row 46 (.tmp 13) rfl (by rfl) v rfl 46 (fc 3 4 (zs n) tg) _ V6.out Try.underlying46 rfl (by kernel_rfl) ?_) | fail)
  refine (opens_any [115] 3 4 (zs n) tg W6 (by decide) (by rw [HL.out]; omega) (by rw [HTL.out]; decide)).mono ?_
  rintro e w7 ⟨rfl, k7⟩
  rw [show decide (may 3 4 (zs n).length ∧ tg = tagOf [115] 3 4 (zs n)) = true from decide_eq_true ⟨HM.out, HTG.out⟩]
  have k7 := k6.trans (k7.mono k6.size)
  clear k6 U6 V6
  go_wp2_with fail
  refine (fawake_any _).mono ?_
  rintro e w9 ⟨rfl, k9⟩
  have k9 := k7.trans (k9.mono k7.size)
  go_wp2
  exact bodyPost_ret (results_tmp rfl _ _ _) rfl ⟨rfl, k9⟩
set_option maxHeartbeats 4000000 in
set_option maxRecDepth 100000 in
theorem fl_no (a : Int) (n : Nat) (w : World) (hn : 8188 + a % 8 = (n : Int)) (h : 8192 < n) (h2 : n < 8200) : Calls Try.prog 13 #[.int .i64 a] w fun e w' => e = .returned (.bool true) ∧ Below w.heap.size w w' := by
  have ea := and7 a
  have hl := zs_length n
  have hm : ¬ may 3 4 (zs n).length := by rw [hl]; exact fun hm => by have := hm.2.2.2.2; omega
  have d4 : decide ((8192 : Int) < (n : Int)) = true := decide_eq_true (by omega)
  have ht : ¬ takes (([3, 4] ++ zs 32) ++ zs n) := by
    unfold takes
    rintro ⟨_, h3, _⟩
    rw [List.length_append, List.length_append, zs_length, zs_length] at h3
    simp at h3
    omega
  have hl1 : ([3, 4] ++ zs 32).length ≤ 34 := by rw [List.length_append, zs_length]; simp
  have hl2 : (zs n).length ≤ 8200 := by omega
  have hl3 : (zs 32).length ≤ 32 := by rw [zs_length]; exact Nat.le_refl _
  have HTT := Lib.hid ht
  have HC1 := Lib.hid (cat_bytes [3, 4] (zs 32))
  have HC2 := Lib.hid (cat_bytes ([3, 4] ++ zs 32) (zs n))
  have HL := Lib.hid hl
  have HM := Lib.hid hm
  have HN := Lib.hid hn
  clear hl hm hn ht
  go_enter Try.func13, Try.ntmps13
  go_upto_region 2 with (fail)
  rw [HN.out]
  clear ea
  go_wp2_with (first | (refine Byt.make_wp kit rfl (.tmp 18) (.tmp 18) rfl .i64 .i64 n (n : Int) rfl rfl rfl (by omega) ?_) | fail)
  intro w1 i1 k1 _
  have HZ := Lib.hid (zrange i1)
  have HZL := Lib.hid (Byt.zeros_length n)
  have HZL2 := Lib.hid (Byt.zeros_length 32)
  go_wp2_with (first | (refine Byt.text_at_wp kit rfl (.tmp 19) rfl w.heap.size 0 n n rfl (Byt.zeros n) HZ.out HZL.out.symm (zeros_lt n) ?_; rw [zs_text]) | fail)
  clear HZ HZL i1
  refine (seal_no [115] 3 4 (zs n) w1 HM.out).mono ?_
  rintro e w2 ⟨rfl, k2⟩
  have k2 := k1.trans (k2.mono k1.size)
  obtain ⟨u, hu⟩ : ∃ u, u = w2.heap.size := ⟨_, rfl⟩
  have u3 := fr_new w2 0 0 [] [] u hu
  have k3 := k2.alloc k2.size (.cells (fc 0 0 [] []).toArray 46)
  have HU := Lib.hid hu
  have U3 := Lib.hid u3
  clear hu u3 k1 k2
  go_upto_region 5 with (fail)
  rw [← HU.out]
  generalize w2.alloc (.cells (fc 0 0 [] []).toArray 46) = W3 at k3 U3 ⊢
  clear HU
  go_wp2_with (first | (refine Byt.make_wp kit rfl (.const (.int .i64 32)) (.const (.int .i64 32)) rfl .i64 .i64 32 32 rfl rfl rfl (by decide) ?_) | fail)
  intro w4 i4 k4 _
  have HZ := Lib.hid (zrange i4)
  have U4 := Lib.hid (U3.out.below k4)
  have k4 := k3.trans (k4.mono k3.size)
  clear i4 k3 U3
  go_wp2_with (first | (refine Byt.text_at_wp kit rfl (.tmp 30) rfl W3.heap.size 0 32 32 rfl (Byt.zeros 32) HZ.out HZL2.out.symm (zeros_lt 32) ?_; rw [zs_text]) | fail)
  clear HZ
  refine (bytes_no 3 4 (zs n) (zs 32) w4 (fun hh => HM.out hh.1)).mono ?_
  rintro e w5 ⟨rfl, k5⟩
  have U5 := Lib.hid (U4.out.below k5)
  have k5 := k4.trans (k5.mono k4.size)
  clear k4 U4
  go_wp2_with (first | (refine Byt.make_wp kit rfl (.const (.int .i64 32)) (.const (.int .i64 32)) rfl .i64 .i64 32 32 rfl rfl rfl (by decide) ?_) | fail)
  intro w6 i6 k6 _
  have HZ := Lib.hid (zrange i6)
  have U6 := Lib.hid (U5.out.below k6)
  have k6 := k5.trans (k6.mono k5.size)
  clear i6 k5 U5
  go_wp2_with (first | (refine Byt.text_at_wp kit rfl (.tmp 37) rfl w5.heap.size 0 32 32 rfl (Byt.zeros 32) HZ.out HZL2.out.symm (zeros_lt 32) ?_; rw [zs_text]) | fail)
  clear HZ
  rw [HC1.out, HC2.out]
  refine (take_no (([3, 4] ++ zs 32) ++ zs n) w6 (by rw [List.length_append]; omega) HTT.out).mono ?_
  rintro e w7 ⟨rfl, k7⟩
  have u7 := U6.out.below k7
  have k7 := k6.trans (k7.mono k6.size)
  have U8 := Lib.hid (u7.alloc (.cells (fc 0 0 [] []).toArray 46))
  have k8 := k7.alloc k7.size (.cells (fc 0 0 [] []).toArray 46)
  clear k6 U6 u7 k7
  go_upto_region 7 with (fail)
  generalize w7.alloc (.cells (fc 0 0 [] []).toArray 46) = W8 at k8 U8 ⊢
  go_wp2_with (first | (refine Blk.load_row 46 (.tmp 5) rfl (by rfl) u rfl 46 (fc 0 0 [] []) _ U8.out Try.underlying46 rfl (by kernel_rfl) ?_) | fail)
  refine (fawake_any _).mono ?_
  rintro e w9 ⟨rfl, k9⟩
  have k9 := k8.trans (k9.mono k8.size)
  go_wp2
  exact bodyPost_ret (results_tmp rfl _ _ _) rfl ⟨rfl, k9⟩
theorem frameLong_any (a : Int) (w : World) : Calls Try.prog 13 #[.int .i64 a] w fun e w' => e = .returned (.bool true) ∧ Below w.heap.size w w' := by
  obtain ⟨n, hn⟩ : ∃ n : Nat, 8188 + a % 8 = (n : Int) := ⟨(8188 + a % 8).toNat, by omega⟩
  by_cases h : n ≤ 8192
  · exact fl_yes a n w hn h
  · exact fl_no a n w hn (by omega) (by omega)
end Go.Proofs.Yticegglphmgoaaa.Sha
