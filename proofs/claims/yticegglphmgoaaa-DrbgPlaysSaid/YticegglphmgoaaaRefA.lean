/- The document's answer for SHA-256: its tables and its rotation. Conditions: those that are named. -/
import Derived.Test.YticegglphmgoaaaShaI
namespace Go.Proofs.Yticegglphmgoaaa.Sha
open Go.RowKit
open Blk (nats)
/-- The words k0 to k63, and the first eight, as values. -/
def ksR : List Value := [.int .i64 1116352408, .int .i64 1899447441, .int .i64 3049323471, .int .i64 3921009573, .int .i64 961987163, .int .i64 1508970993, .int .i64 2453635748, .int .i64 2870763221, .int .i64 3624381080, .int .i64 310598401, .int .i64 607225278, .int .i64 1426881987, .int .i64 1925078388, .int .i64 2162078206, .int .i64 2614888103, .int .i64 3248222580, .int .i64 3835390401, .int .i64 4022224774, .int .i64 264347078, .int .i64 604807628, .int .i64 770255983, .int .i64 1249150122, .int .i64 1555081692, .int .i64 1996064986, .int .i64 2554220882, .int .i64 2821834349, .int .i64 2952996808, .int .i64 3210313671, .int .i64 3336571891, .int .i64 3584528711, .int .i64 113926993, .int .i64 338241895, .int .i64 666307205, .int .i64 773529912, .int .i64 1294757372, .int .i64 1396182291, .int .i64 1695183700, .int .i64 1986661051, .int .i64 2177026350, .int .i64 2456956037, .int .i64 2730485921, .int .i64 2820302411, .int .i64 3259730800, .int .i64 3345764771, .int .i64 3516065817, .int .i64 3600352804, .int .i64 4094571909, .int .i64 275423344, .int .i64 430227734, .int .i64 506948616, .int .i64 659060556, .int .i64 883997877, .int .i64 958139571, .int .i64 1322822218, .int .i64 1537002063, .int .i64 1747873779, .int .i64 1955562222, .int .i64 2024104815, .int .i64 2227730452, .int .i64 2361852424, .int .i64 2428436474, .int .i64 2756734187, .int .i64 3204031479, .int .i64 3329325298]
def firstR : List Value := [.int .i64 1779033703, .int .i64 3144134277, .int .i64 1013904242, .int .i64 2773480762, .int .i64 1359893119, .int .i64 2600822924, .int .i64 528734635, .int .i64 1541459225]
theorem ksR_is : nats .i64 ks = ksR := by simp [nats, ks, ksR]
theorem firstR_is : nats .i64 first = firstR := by simp [nats, first, firstR]
theorem ksR_one : ksR.toArray.all (·.oneCell') = true := by decide +kernel
theorem ksR_len : ksR.length = 64 := by decide +kernel
set_option maxHeartbeats 1000000 in
set_option maxRecDepth 100000 in
theorem rks_any (w : World) : Calls Try.prog 71 #[] w fun e w' => e = .returned (.agg (nats .i64 ks).toArray) ∧ Below w.heap.size w w' := by
  rw [ksR_is]
  have b0 := Blk.new w (nats .i64 (List.replicate 64 0)) 100
  have B0 := Lib.hid b0
  clear b0
  go_enter Try.func71, Try.ntmps71
  go_wp2_with (first | (refine Blk.build_val 100 _ rfl rfl ksR.toArray (by kernel_rfl) ?_) | (refine Blk.store_row 100 (.tmp 0) (.tmp 1) rfl rfl w.heap.size 0 ksR rfl rfl B0.out (by rw [ksR_len, Blk.nats_length]; decide) (by kernel_rfl) ksR_one ?_))
  have b := Blk.Is.setCells ksR B0.out 0 (by rw [ksR_len, Blk.nats_length]; decide)
  rw [Blk.put_all _ _ (by rw [ksR_len, Blk.nats_length]; rfl)] at b
  refine bodyPost_ret (results_cell_row rfl _ _ w.heap.size 100 _ (0, 0) _ rfl b Try.underlying100 rfl (by kernel_rfl)) rfl ?_
  exact ⟨rfl, Blk.below_setCells _ ((Below.refl _ _).alloc (Nat.le_refl _) _) (Nat.le_refl _) _⟩
theorem firstR_one : firstR.toArray.all (·.oneCell') = true := by decide +kernel
theorem firstR_len : firstR.length = 8 := by decide +kernel
set_option maxHeartbeats 1000000 in
set_option maxRecDepth 100000 in
theorem rfirst_any (w : World) : Calls Try.prog 50 #[] w fun e w' => e = .returned (.agg (nats .i64 first).toArray) ∧ Below w.heap.size w w' := by
  rw [firstR_is]
  have b0 := Blk.new w (nats .i64 (List.replicate 8 0)) 79
  have B0 := Lib.hid b0
  clear b0
  go_enter Try.func50, Try.ntmps50
  go_wp2_with (first | (refine Blk.build_val 79 _ rfl rfl firstR.toArray (by kernel_rfl) ?_) | (refine Blk.store_row 79 (.tmp 0) (.tmp 1) rfl rfl w.heap.size 0 firstR rfl rfl B0.out (by rw [firstR_len, Blk.nats_length]; decide) (by kernel_rfl) firstR_one ?_))
  have b := Blk.Is.setCells firstR B0.out 0 (by rw [firstR_len, Blk.nats_length]; decide)
  rw [Blk.put_all _ _ (by rw [firstR_len, Blk.nats_length]; rfl)] at b
  refine bodyPost_ret (results_cell_row rfl _ _ w.heap.size 79 _ (0, 0) _ rfl b Try.underlying79 rfl (by kernel_rfl)) rfl ?_
  exact ⟨rfl, Blk.below_setCells _ ((Below.refl _ _).alloc (Nat.le_refl _) _) (Nat.le_refl _) _⟩
theorem rotrE (x n : Nat) (hx : x < 4294967296) (h0 : 0 < n) (h1 : n < 32) : bits .and .i64 (bits .or .i64 ((x : Int) / 2 ^ n) (wrap64 ((x : Int) * 2 ^ (32 - n)))) 4294967295 = ((rotr x n : Nat) : Int) := by
  have e1 : (x : Int) / 2 ^ n = ((x / 2 ^ n : Nat) : Int) := by simp
  have hlt : x * 2 ^ (32 - n) < 9223372036854775808 := by
    have h2 : 2 ^ (32 - n) ≤ 2 ^ 31 := Nat.pow_le_pow_right (by decide) (by omega)
    calc x * 2 ^ (32 - n) ≤ x * 2 ^ 31 := Nat.mul_le_mul_left _ h2
      _ < 4294967296 * 2 ^ 31 := Nat.mul_lt_mul_of_pos_right hx (by decide)
      _ = 9223372036854775808 := by decide
  have e2 : wrap64 ((x : Int) * 2 ^ (32 - n)) = ((x * 2 ^ (32 - n) : Nat) : Int) := by
    rw [show ((x : Int) * 2 ^ (32 - n)) = ((x * 2 ^ (32 - n) : Nat) : Int) by simp]
    generalize x * 2 ^ (32 - n) = y at hlt ⊢
    unfold wrap64
    omega
  have hd : x / 2 ^ n < 9223372036854775808 := Nat.lt_of_le_of_lt (Nat.div_le_self _ _) (by omega)
  rw [e1, e2, or63 _ _ hd hlt, show (4294967295 : Int) = ((4294967295 : Nat) : Int) from rfl, and63 _ _ (Nat.or_lt_two_pow (n := 63) hd hlt) (by decide)]
  unfold rotr
  rw [Nat.shiftRight_eq_div_pow, Nat.shiftLeft_eq, show (4294967295 : Nat) = 2 ^ 32 - 1 from rfl, Nat.and_two_pow_sub_one_eq_mod]
set_option maxHeartbeats 1000000 in
theorem rrotr_any (x n : Nat) (w : World) (hx : x < 4294967296) (h0 : 0 < n) (h1 : n < 32) :
    Calls Try.prog 72 #[.int .i64 (x : Int), .int .i64 (n : Int)] w fun e w' => e = .returned (.int .i64 ((rotr x n : Nat) : Int)) ∧ Below w.heap.size w w' := by
  go_enter Try.func72, Try.ntmps72
  go_wp2
  refine Cls.region_cls (S := Cls.Kept _) (by kernel_rfl) (by kernel_rfl) (Below.refl _ _) ?_
  repeat (go_big_quiet_step (fail))
  refine wpQuiet_nil ?_
  intro w1 hw1
  go_wp2
  rw [rotrE x n hx h0 h1]
  exact bodyPost_ret (results_tmp rfl _ _ _) rfl ⟨rfl, (Below.refl _ _).drew.trans hw1⟩
end Go.Proofs.Yticegglphmgoaaa.Sha
