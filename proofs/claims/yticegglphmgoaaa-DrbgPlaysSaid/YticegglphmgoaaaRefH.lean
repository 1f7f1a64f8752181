/- What must come of the digest, whatever is given; whether there are few texts. No conditions but those that are named. -/
import Derived.Test.YticegglphmgoaaaRefG
namespace Go.Proofs.Yticegglphmgoaaa.Sha
open Go.RowKit
open Blk (nats)
/-- The digest of the bytes 97, 98, 99. -/
def dg : List UInt8 := (sum [97, 98, 99]).map UInt8.ofNat
def dgHex : List UInt8 := [98, 97, 55, 56, 49, 54, 98, 102, 56, 102, 48, 49, 99, 102, 101, 97, 52, 49, 52, 49, 52, 48, 100, 101, 53, 100, 97, 101, 50, 50, 50, 51, 98, 48, 48, 51, 54, 49, 97, 51, 57, 54, 49, 55, 55, 97, 57, 99, 98, 52, 49, 48, 102, 102, 54, 49, 102, 50, 48, 48, 49, 53, 97, 100]
theorem dg_is : Byt.text (sum (nat [97, 98, 99])) = .string ⟨dg.toArray⟩ := rfl
theorem dg_len : dg.length = 32 := by decide +kernel
theorem dg_hex : Byt.text (hex (nat dg)) = .string ⟨dgHex.toArray⟩ := congrArg (fun l : List UInt8 => Value.string ⟨l.toArray⟩) (by decide +kernel)
theorem small_hex : Byt.text (hex (nat [15, 160])) = .string ⟨([48, 102, 97, 48] : List UInt8).toArray⟩ := congrArg (fun l : List UInt8 => Value.string ⟨l.toArray⟩) (by decide +kernel)
attribute [local irreducible] hexDigit hexs hex sum dg
set_option maxHeartbeats 4000000 in
set_option maxRecDepth 100000 in
theorem awake_any (w : World) : Calls Try.prog 17 #[] w fun e w' => e = .returned (.bool true) ∧ Below w.heap.size w w' := by
  go_enter Try.func17, Try.ntmps17
  go_wp2_with fail
  refine (new_any w).mono ?_
  rintro e w1 ⟨b, rfl, hb, u1, k1⟩
  go_wp2_with fail
  refine (add_any [] [97] b w1 (by simp) u1).mono ?_
  rintro e w2 ⟨rfl, u2, o2⟩
  have k2 := k1.trans (o2.below hb k1.size)
  clear u1 o2
  go_wp2_with fail
  refine (add_any [97] [98, 99] b w2 (by simp) u2).mono ?_
  rintro e w3 ⟨rfl, u3, o3⟩
  have k3 := k2.trans (o3.below hb k2.size)
  clear u2 o3 k2 k1
  go_wp2_with fail
  refine (sum_any [97, 98, 99] w3 (by simp)).mono ?_
  rintro e w4 ⟨rfl, k4⟩
  have u4 := u3.below k4
  have k4 := k3.trans (k4.mono k3.size)
  rw [dg_is]
  clear u3 k3
  go_wp2_with fail
  refine (hex_any dg w4 (by rw [dg_len]; decide)).mono ?_
  rintro e w5 ⟨rfl, k5⟩
  have u5 := u4.below k5
  have k5 := k4.trans (k5.mono k4.size)
  rw [dg_hex]
  clear u4 k4
  go_wp2_with fail
  refine (told_any [97, 98, 99] b w5 (by simp) u5).mono ?_
  rintro e w6 ⟨rfl, k6⟩
  have k6 := k5.trans (k6.mono k5.size)
  rw [dg_is]
  clear u5 k5
  go_wp2_with fail
  refine (sum_any [97, 98, 99] w6 (by simp)).mono ?_
  rintro e w7 ⟨rfl, k7⟩
  have k7 := k6.trans (k7.mono k6.size)
  rw [dg_is]
  clear k6
  go_wp2_with fail
  refine (hex_any [15, 160] w7 (by simp)).mono ?_
  rintro e w8 ⟨rfl, k8⟩
  have k8 := k7.trans (k8.mono k7.size)
  rw [small_hex]
  clear k7
  go_wp2
  exact bodyPost_ret (results_tmp rfl _ _ _) rfl ⟨rfl, k8⟩
end Go.Proofs.Yticegglphmgoaaa.Sha
