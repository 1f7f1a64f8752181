/- The laws on the digest of any bytes, and on hexadecimal digits, walked. No conditions but those that are named. -/
import Derived.Test.YticegglphmgoaaaRefH
namespace Go.Proofs.Yticegglphmgoaaa.Sha
open Go.RowKit
open Blk (nats)
theorem sum_length (m : List Nat) : (sum m).length = 32 := by
  unfold sum
  have h := (blocks_ok (padded m) ((padded m).length / 64)).1
  rw [← outs_all _ h, outs_length _ _ (by omega)]
/-- The digest of a text, as bytes. -/
def dig (s : List UInt8) : List UInt8 := (sum (nat s)).map UInt8.ofNat
theorem dig_text (s : List UInt8) : Byt.text (sum (nat s)) = .string ⟨(dig s).toArray⟩ := rfl
theorem dig_length (s : List UInt8) : (dig s).length = 32 := by unfold dig; rw [List.length_map, sum_length]
/-- A text's hexadecimal digits, as bytes. -/
def hexl (s : List UInt8) : List UInt8 := (hex (nat s)).map UInt8.ofNat
theorem hexl_text (s : List UInt8) : Byt.text (hex (nat s)) = .string ⟨(hexl s).toArray⟩ := rfl
attribute [local irreducible] hex sum dig hexl
set_option maxHeartbeats 4000000 in
set_option maxRecDepth 100000 in
theorem shaSums_any (a : ByteArray) (w : World) : Calls Try.prog 3 #[.string a] w fun e w' => e = .returned (.bool true) ∧ Below w.heap.size w w' := by
  obtain ⟨s, rfl⟩ : ∃ s : List UInt8, a = ⟨s.toArray⟩ := ⟨a.data.toList, rfl⟩
  by_cases h : s.length ≤ 1024
  · go_enter Try.func3, Try.ntmps3
    go_wp2_with fail
    refine (sum_any s w (by omega)).mono ?_
    rintro e w1 ⟨rfl, k1⟩
    rw [dig_text]
    go_wp2_with fail
    refine (rsum_any s w1 (by omega)).mono ?_
    rintro e w2 ⟨rfl, k2⟩
    have k2 := k1.trans (k2.mono k1.size)
    rw [dig_text]
    clear k1
    go_wp2_with fail
    refine (sum_any s w2 (by omega)).mono ?_
    rintro e w3 ⟨rfl, k3⟩
    have k3 := k2.trans (k3.mono k2.size)
    rw [dig_text]
    have hl := dig_length s
    clear k2
    go_wp2_with fail
    refine (awake_any w3).mono ?_
    rintro e w4 ⟨rfl, k4⟩
    have k4 := k3.trans (k4.mono k3.size)
    clear k3 hl
    go_wp2
    exact bodyPost_ret (results_tmp rfl _ _ _) rfl ⟨rfl, k4⟩
  · go_enter Try.func3, Try.ntmps3
    go_wp2_with fail
    refine (awake_any w).mono ?_
    rintro e w4 ⟨rfl, k4⟩
    go_wp2
    exact bodyPost_ret (results_tmp rfl _ _ _) rfl ⟨rfl, k4⟩
end Go.Proofs.Yticegglphmgoaaa.Sha
