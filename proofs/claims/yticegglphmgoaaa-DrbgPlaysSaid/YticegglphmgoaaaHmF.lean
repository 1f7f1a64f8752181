/- The laws on tags, walked. No conditions but those that are named. -/
import Derived.Test.YticegglphmgoaaaHmE
namespace Go.Proofs.Yticegglphmgoaaa.Sha
open Go.RowKit
open Blk (nats)
def jefe : List UInt8 := [74, 101, 102, 101]
def what : List UInt8 := [119, 104, 97, 116, 32, 100, 111, 32, 121, 97, 32, 119, 97, 110, 116, 32, 102, 111, 114, 32, 110, 111, 116, 104, 105, 110, 103, 63]
def jefeTag : List UInt8 := hmac jefe what
theorem jefe_hex : Byt.text (hex (nat jefeTag)) = .string ⟨([53, 98, 100, 99, 99, 49, 52, 54, 98, 102, 54, 48, 55, 53, 52, 101, 54, 97, 48, 52, 50, 52, 50, 54, 48, 56, 57, 53, 55, 53, 99, 55, 53, 97, 48, 48, 51, 102, 48, 56, 57, 100, 50, 55, 51, 57, 56, 51, 57, 100, 101, 99, 53, 56, 98, 57, 54, 52, 101, 99, 51, 56, 52, 51] : List UInt8).toArray⟩ :=
  congrArg (fun l : List UInt8 => Value.string ⟨l.toArray⟩) (by decide +kernel)
theorem jefe_len : jefeTag.length = 32 := hmac_length _ _
theorem jefe_is : hmac [74, 101, 102, 101] [119, 104, 97, 116, 32, 100, 111, 32, 121, 97, 32, 119, 97, 110, 116, 32, 102, 111, 114, 32, 110, 111, 116, 104, 105, 110, 103, 63] = jefeTag := rfl
attribute [local irreducible] sum dig pk tk turn turned keyed hmac hkey jefeTag hex hexl
set_option maxHeartbeats 4000000 in
set_option maxRecDepth 100000 in
theorem hawake_any (w : World) : Calls Try.prog 26 #[] w fun e w' => e = .returned (.bool true) ∧ Below w.heap.size w w' := by
  go_enter Try.func26, Try.ntmps26
  go_wp2_with fail
  refine (hsum_any jefe what w (by decide) (by decide)).mono ?_
  rintro e w1 ⟨rfl, k1⟩
  rw [show hmac jefe what = jefeTag from jefe_is]
  go_wp2_with fail
  refine (rhex_any jefeTag w1 (by rw [jefe_len]; decide)).mono ?_
  rintro e w2 ⟨rfl, k2⟩
  have k2 := k1.trans (k2.mono k1.size)
  rw [jefe_hex]
  clear k1
  go_wp2_with fail
  refine (same_any [97, 98] [97, 98] w2 (by decide) (by decide)).mono ?_
  rintro e w3 ⟨rfl, k3⟩
  have k3 := k2.trans (k3.mono k2.size)
  rw [show decide (([97, 98] : List UInt8) = [97, 98]) = true by decide]
  clear k2
  go_wp2_with fail
  refine (same_any [97, 98] [97, 99] w3 (by decide) (by decide)).mono ?_
  rintro e w4 ⟨rfl, k4⟩
  have k4 := k3.trans (k4.mono k3.size)
  rw [show decide (([97, 98] : List UInt8) = [97, 99]) = false by decide]
  clear k3
  go_wp2_with fail
  refine (key_any [107] 1 2 w4 (by decide)).mono ?_
  rintro e w5 ⟨rfl, k5⟩
  have k5 := k4.trans (k5.mono k4.size)
  have hl := hkey_length [107] 1 2
  clear k4
  go_wp2
  exact bodyPost_ret (results_tmp rfl _ _ _) rfl ⟨rfl, k5⟩
set_option maxHeartbeats 4000000 in
set_option maxRecDepth 100000 in
theorem hmacSums_any (a b : ByteArray) (w : World) : Calls Try.prog 7 #[.string a, .string b] w fun e w' => e = .returned (.bool true) ∧ Below w.heap.size w w' := by
  obtain ⟨key, rfl⟩ : ∃ s : List UInt8, a = ⟨s.toArray⟩ := ⟨a.data.toList, rfl⟩
  obtain ⟨s, rfl⟩ : ∃ s : List UInt8, b = ⟨s.toArray⟩ := ⟨b.data.toList, rfl⟩
  by_cases h1 : key.length ≤ 256
  · by_cases h2 : s.length ≤ 512
    · have d1 : decide ((256 : Int) < (key.length : Int)) = false := decide_eq_false (by omega)
      have d2 : decide ((512 : Int) < (s.length : Int)) = false := decide_eq_false (by omega)
      go_enter Try.func7, Try.ntmps7
      go_wp2_with fail
      refine (hsum_any key s w (by omega) (by omega)).mono ?_
      rintro e w1 ⟨rfl, k1⟩
      go_wp2_with fail
      refine (rhsum_any key s w1 (by omega) (by omega)).mono ?_
      rintro e w2 ⟨rfl, k2⟩
      have k2 := k1.trans (k2.mono k1.size)
      clear k1
      go_wp2_with fail
      refine (hawake_any w2).mono ?_
      rintro e w3 ⟨rfl, k3⟩
      have k3 := k2.trans (k3.mono k2.size)
      clear k2
      go_wp2
      exact bodyPost_ret (results_tmp rfl _ _ _) rfl ⟨rfl, k3⟩
    · have d1 : decide ((256 : Int) < (key.length : Int)) = false := decide_eq_false (by omega)
      have d2 : decide ((512 : Int) < (s.length : Int)) = true := decide_eq_true (by omega)
      go_enter Try.func7, Try.ntmps7
      go_wp2_with fail
      refine (hawake_any w).mono ?_
      rintro e w3 ⟨rfl, k3⟩
      go_wp2
      exact bodyPost_ret (results_tmp rfl _ _ _) rfl ⟨rfl, k3⟩
  · have d1 : decide ((256 : Int) < (key.length : Int)) = true := decide_eq_true (by omega)
    go_enter Try.func7, Try.ntmps7
    go_wp2_with fail
    refine (hawake_any w).mono ?_
    rintro e w3 ⟨rfl, k3⟩
    go_wp2
    exact bodyPost_ret (results_tmp rfl _ _ _) rfl ⟨rfl, k3⟩
set_option maxHeartbeats 4000000 in
set_option maxRecDepth 100000 in
theorem hmacKeys_any (a : ByteArray) (f t : Int) (w : World) : Calls Try.prog 8 #[.string a, .int .i64 f, .int .i64 t] w fun e w' => e = .returned (.bool true) ∧ Below w.heap.size w w' := by
  obtain ⟨key, rfl⟩ : ∃ s : List UInt8, a = ⟨s.toArray⟩ := ⟨a.data.toList, rfl⟩
  by_cases h1 : key.length ≤ 256
  · have d1 : decide ((256 : Int) < (key.length : Int)) = false := decide_eq_false (by omega)
    go_enter Try.func8, Try.ntmps8
    go_wp2_with fail
    refine (key_any key f t w (by omega)).mono ?_
    rintro e w1 ⟨rfl, k1⟩
    go_wp2_with fail
    refine (rkey_any key f t w1 (by omega)).mono ?_
    rintro e w2 ⟨rfl, k2⟩
    have k2 := k1.trans (k2.mono k1.size)
    clear k1
    go_wp2_with fail
    rw [and255, and255]
    refine (key_any key (f % 256) (t % 256) w2 (by omega)).mono ?_
    rintro e w3 ⟨rfl, k3⟩
    have k3 := k2.trans (k3.mono k2.size)
    rw [hkey_and]
    clear k2
    go_wp2_with fail
    refine (key_any key f t w3 (by omega)).mono ?_
    rintro e w4 ⟨rfl, k4⟩
    have k4 := k3.trans (k4.mono k3.size)
    clear k3
    go_wp2_with fail
    refine (hawake_any w4).mono ?_
    rintro e w5 ⟨rfl, k5⟩
    have k5 := k4.trans (k5.mono k4.size)
    clear k4
    go_wp2
    exact bodyPost_ret (results_tmp rfl _ _ _) rfl ⟨rfl, k5⟩
  · have d1 : decide ((256 : Int) < (key.length : Int)) = true := decide_eq_true (by omega)
    go_enter Try.func8, Try.ntmps8
    go_wp2_with fail
    refine (hawake_any w).mono ?_
    rintro e w3 ⟨rfl, k3⟩
    go_wp2
    exact bodyPost_ret (results_tmp rfl _ _ _) rfl ⟨rfl, k3⟩
end Go.Proofs.Yticegglphmgoaaa.Sha
