/- The law on texts that are the same, and on short keys, walked. No conditions but those that are named. -/
import Derived.Test.YticegglphmgoaaaHmF
namespace Go.Proofs.Yticegglphmgoaaa.Sha
open Go.RowKit
open Blk (nats)
/-- A key with so many bytes 0 behind. -/
def longer (a : List UInt8) (k : Nat) : List UInt8 := a ++ List.replicate k 0
theorem longer_zero (a : List UInt8) : longer a 0 = a := by simp [longer]
theorem longer_length (a : List UInt8) (k : Nat) : (longer a k).length = a.length + k := by simp [longer]
theorem longer_succ (a : List UInt8) (k : Nat) : longer a k ++ [0] = longer a (k + 1) := by simp [longer, List.replicate_succ', List.append_assoc]
theorem pk_longer (a : List UInt8) (h : a.length ≤ 64) : pk (longer a (64 - a.length)) = pk a := by
  unfold pk longer
  simp
  omega
theorem hmac_longer (a b : List UInt8) (h : a.length ≤ 64) : hmac (longer a (64 - a.length)) b = hmac a b := by
  have h1 : keyed (longer a (64 - a.length)) = longer a (64 - a.length) := keyed_short _ (by rw [longer_length]; omega)
  have h2 : keyed a = a := keyed_short _ h
  have h3 : ∀ n, turned (longer a (64 - a.length)) n = turned a n := fun n => by unfold turned turn; rw [pk_longer a h]
  unfold hmac
  rw [h1, h2, h3, h3]
/-- How many bytes a text has. -/
def szOf : Value → Nat
  | .string s => s.size
  | _ => 0
theorem szOf_is (l : List UInt8) : szOf (.string ⟨l.toArray⟩) = l.length := rfl
attribute [local irreducible] sum dig pk tk turn turned keyed hmac hkey longer
set_option maxHeartbeats 4000000 in
set_option maxRecDepth 100000 in
theorem hmacSame_any (a b : ByteArray) (w : World) : Calls Try.prog 9 #[.string a, .string b] w fun e w' => e = .returned (.bool true) ∧ Below w.heap.size w w' := by
  obtain ⟨a, rfl⟩ : ∃ s : List UInt8, a = ⟨s.toArray⟩ := ⟨a.data.toList, rfl⟩
  obtain ⟨b, rfl⟩ : ∃ s : List UInt8, b = ⟨s.toArray⟩ := ⟨b.data.toList, rfl⟩
  by_cases h1 : a.length ≤ 512
  · by_cases h2 : b.length ≤ 512
    · have d1 : decide ((512 : Int) < (a.length : Int)) = false := decide_eq_false (by omega)
      have d2 : decide ((512 : Int) < (b.length : Int)) = false := decide_eq_false (by omega)
      go_enter Try.func9, Try.ntmps9
      go_wp2_with fail
      go_loopw [5] (fun v wr => ∃ k : Nat, k ≤ 64 - a.length ∧ v = .string ⟨(longer a k).toArray⟩ ∧ Below w.heap.size w wr) (fun v _ => 64 - szOf v)
      case atStart => exact ⟨0, by omega, by rw [longer_zero], Below.refl _ _⟩
      case round =>
        obtain ⟨k, hk, rfl, k0⟩ := hrel
        have hl := longer_length a k
        by_cases hlt : a.length + k < 64
        · have hll : (longer a k).length < 64 := by omega
          have HS := Lib.hid (longer_succ a k)
          have HCAT := Lib.hid (cat_bytes (longer a k) [0])
          clear hl
          go_wp2
          rw [HCAT.out, HS.out]
          go_roundw
          case rel => exact ⟨k + 1, by omega, rfl, k0⟩
          case measure =>
            rw [szOf_is, szOf_is, longer_length, longer_length]
            omega
        · have hll : ¬ (longer a k).length < 64 := by omega
          have hd0 : decide (((longer a k).length : Int) < 64) = false := decide_eq_false (by omega)
          have hlen : (longer a k).length ≤ 512 + 64 := by omega
          clear hl
          go_wp2_with fail
          refine (same_any a b wr (by omega) (by omega)).mono ?_
          rintro e w1 ⟨rfl, k1⟩
          have k1 := k0.trans (k1.mono k0.size)
          clear k0
          by_cases hab : a = b
          · subst hab
            rw [show decide (a = a) = true by simp]
            go_wp2_with fail
            refine (same_any a a w1 (by omega) (by omega)).mono ?_
            rintro e w2 ⟨rfl, k2⟩
            rw [show decide (a = a) = true by simp]
            have k2 := k1.trans (k2.mono k1.size)
            clear k1
            by_cases h64 : a.length ≤ 64
            · have d3 : decide ((64 : Int) < (a.length : Int)) = false := decide_eq_false (by omega)
              have hk64 : k = 64 - a.length := by omega
              have HH := Lib.hid (show hmac (longer a k) a = hmac a a by rw [hk64]; exact hmac_longer a a h64)
              clear hk64
              go_wp2_with fail
              refine (hsum_any a a w2 (by omega) (by omega)).mono ?_
              rintro e w3 ⟨rfl, k3⟩
              have k3 := k2.trans (k3.mono k2.size)
              clear k2
              go_wp2_with fail
              refine (hsum_any (longer a k) a w3 (by omega) (by omega)).mono ?_
              rintro e w4 ⟨rfl, k4⟩
              have k4 := k3.trans (k4.mono k3.size)
              rw [HH.out]
              clear k3
              go_wp2_with fail
              refine (hawake_any w4).mono ?_
              rintro e w5 ⟨rfl, k5⟩
              have k5 := k4.trans (k5.mono k4.size)
              clear k4
              go_wp2
              exact bodyPost_ret (results_tmp rfl _ _ _) rfl ⟨rfl, k5⟩
            · have d3 : decide ((64 : Int) < (a.length : Int)) = true := decide_eq_true (by omega)
              go_wp2_with fail
              refine (hawake_any w2).mono ?_
              rintro e w5 ⟨rfl, k5⟩
              have k5 := k2.trans (k5.mono k2.size)
              clear k2
              go_wp2
              exact bodyPost_ret (results_tmp rfl _ _ _) rfl ⟨rfl, k5⟩
          · rw [show decide (a = b) = false by simpa using hab]
            have hne : (a == b) = false := by simpa using hab
            clear hab
            go_wp2_with fail
            refine (same_any a a w1 (by omega) (by omega)).mono ?_
            rintro e w2 ⟨rfl, k2⟩
            rw [show decide (a = a) = true by simp]
            have k2 := k1.trans (k2.mono k1.size)
            clear k1
            by_cases h64 : a.length ≤ 64
            · have d3 : decide ((64 : Int) < (a.length : Int)) = false := decide_eq_false (by omega)
              have hk64 : k = 64 - a.length := by omega
              have HH := Lib.hid (show hmac (longer a k) b = hmac a b by rw [hk64]; exact hmac_longer a b h64)
              clear hk64
              go_wp2_with fail
              refine (hsum_any a b w2 (by omega) (by omega)).mono ?_
              rintro e w3 ⟨rfl, k3⟩
              have k3 := k2.trans (k3.mono k2.size)
              clear k2
              go_wp2_with fail
              refine (hsum_any (longer a k) b w3 (by omega) (by omega)).mono ?_
              rintro e w4 ⟨rfl, k4⟩
              have k4 := k3.trans (k4.mono k3.size)
              rw [HH.out]
              clear k3
              go_wp2_with fail
              refine (hawake_any w4).mono ?_
              rintro e w5 ⟨rfl, k5⟩
              have k5 := k4.trans (k5.mono k4.size)
              clear k4
              go_wp2
              exact bodyPost_ret (results_tmp rfl _ _ _) rfl ⟨rfl, k5⟩
            · have d3 : decide ((64 : Int) < (a.length : Int)) = true := decide_eq_true (by omega)
              go_wp2_with fail
              refine (hawake_any w2).mono ?_
              rintro e w5 ⟨rfl, k5⟩
              have k5 := k2.trans (k5.mono k2.size)
              clear k2
              go_wp2
              exact bodyPost_ret (results_tmp rfl _ _ _) rfl ⟨rfl, k5⟩
    · have d1 : decide ((512 : Int) < (a.length : Int)) = false := decide_eq_false (by omega)
      have d2 : decide ((512 : Int) < (b.length : Int)) = true := decide_eq_true (by omega)
      go_enter Try.func9, Try.ntmps9
      go_wp2_with fail
      refine (hawake_any w).mono ?_
      rintro e w3 ⟨rfl, k3⟩
      go_wp2
      exact bodyPost_ret (results_tmp rfl _ _ _) rfl ⟨rfl, k3⟩
  · have d1 : decide ((512 : Int) < (a.length : Int)) = true := decide_eq_true (by omega)
    go_enter Try.func9, Try.ntmps9
    go_wp2_with fail
    refine (hawake_any w).mono ?_
    rintro e w3 ⟨rfl, k3⟩
    go_wp2
    exact bodyPost_ret (results_tmp rfl _ _ _) rfl ⟨rfl, k3⟩
end Go.Proofs.Yticegglphmgoaaa.Sha
