/- The constants of SHA-256 in the program are those of the plain function. No conditions. -/
import Derived.Test.YtphfjhpgcdmonaaGreatDoorShaB
namespace Go.Proofs.YtphfjhpgcdmonaaGreatDoor.Sha
open Go.RowKit
open Blk (nats)
/-- The words k0 to k63, and the first eight, as values. -/
def ksV : List Value := [.int .u32 1116352408, .int .u32 1899447441, .int .u32 3049323471, .int .u32 3921009573, .int .u32 961987163, .int .u32 1508970993, .int .u32 2453635748, .int .u32 2870763221, .int .u32 3624381080, .int .u32 310598401, .int .u32 607225278, .int .u32 1426881987, .int .u32 1925078388, .int .u32 2162078206, .int .u32 2614888103, .int .u32 3248222580, .int .u32 3835390401, .int .u32 4022224774, .int .u32 264347078, .int .u32 604807628, .int .u32 770255983, .int .u32 1249150122, .int .u32 1555081692, .int .u32 1996064986, .int .u32 2554220882, .int .u32 2821834349, .int .u32 2952996808, .int .u32 3210313671, .int .u32 3336571891, .int .u32 3584528711, .int .u32 113926993, .int .u32 338241895, .int .u32 666307205, .int .u32 773529912, .int .u32 1294757372, .int .u32 1396182291, .int .u32 1695183700, .int .u32 1986661051, .int .u32 2177026350, .int .u32 2456956037, .int .u32 2730485921, .int .u32 2820302411, .int .u32 3259730800, .int .u32 3345764771, .int .u32 3516065817, .int .u32 3600352804, .int .u32 4094571909, .int .u32 275423344, .int .u32 430227734, .int .u32 506948616, .int .u32 659060556, .int .u32 883997877, .int .u32 958139571, .int .u32 1322822218, .int .u32 1537002063, .int .u32 1747873779, .int .u32 1955562222, .int .u32 2024104815, .int .u32 2227730452, .int .u32 2361852424, .int .u32 2428436474, .int .u32 2756734187, .int .u32 3204031479, .int .u32 3329325298]
def firstV : List Value := [.int .u32 1779033703, .int .u32 3144134277, .int .u32 1013904242, .int .u32 2773480762, .int .u32 1359893119, .int .u32 2600822924, .int .u32 528734635, .int .u32 1541459225]
theorem ksV_is : nats .u32 ks = ksV := by simp [nats, ks, ksV]
theorem firstV_is : nats .u32 first = firstV := by simp [nats, first, firstV]
theorem ksV_one : ksV.toArray.all (·.oneCell') = true := by decide +kernel
theorem ksV_len : ksV.length = 64 := by decide +kernel
set_option maxHeartbeats 1000000 in
set_option maxRecDepth 100000 in
theorem ks_any (w : World) : Calls Tryz.prog 270 #[] w fun e w' => e = .returned (.agg (nats .u32 ks).toArray) ∧ Below w.heap.size w w' := by
  rw [ksV_is]
  have b0 := Blk.new w (nats .u32 (List.replicate 64 0)) 407
  have B0 := Lib.hid b0
  clear b0
  go_enter Tryz.func270, Tryz.ntmps270
  go_wp2_with (first | (refine Blk.build_val 407 _ rfl rfl ksV.toArray (by kernel_rfl) ?_) | (refine Blk.store_row 407 (.tmp 0) (.tmp 1) rfl rfl w.heap.size 0 ksV rfl rfl B0.out (by rw [ksV_len, Blk.nats_length]; decide) (by kernel_rfl) ksV_one ?_))
  have b := Blk.Is.setCells ksV B0.out 0 (by rw [ksV_len, Blk.nats_length]; decide)
  rw [Blk.put_all _ _ (by rw [ksV_len, Blk.nats_length]; rfl)] at b
  refine bodyPost_ret (results_cell_row rfl _ _ w.heap.size 407 _ (0, 0) _ rfl b Tryz.underlying407 rfl (by kernel_rfl)) rfl ?_
  exact ⟨rfl, Blk.below_setCells _ ((Below.refl _ _).alloc (Nat.le_refl _) _) (Nat.le_refl _) _⟩
theorem firstV_one : firstV.toArray.all (·.oneCell') = true := by decide +kernel
theorem firstV_len : firstV.length = 8 := by decide +kernel
set_option maxHeartbeats 1000000 in
set_option maxRecDepth 100000 in
theorem first_any (w : World) : Calls Tryz.prog 246 #[] w fun e w' => e = .returned (.agg (nats .u32 first).toArray) ∧ Below w.heap.size w w' := by
  rw [firstV_is]
  have b0 := Blk.new w (nats .u32 (List.replicate 8 0)) 381
  have B0 := Lib.hid b0
  clear b0
  go_enter Tryz.func246, Tryz.ntmps246
  go_wp2_with (first | (refine Blk.build_val 381 _ rfl rfl firstV.toArray (by kernel_rfl) ?_) | (refine Blk.store_row 381 (.tmp 0) (.tmp 1) rfl rfl w.heap.size 0 firstV rfl rfl B0.out (by rw [firstV_len, Blk.nats_length]; decide) (by kernel_rfl) firstV_one ?_))
  have b := Blk.Is.setCells firstV B0.out 0 (by rw [firstV_len, Blk.nats_length]; decide)
  rw [Blk.put_all _ _ (by rw [firstV_len, Blk.nats_length]; rfl)] at b
  refine bodyPost_ret (results_cell_row rfl _ _ w.heap.size 381 _ (0, 0) _ rfl b Tryz.underlying381 rfl (by kernel_rfl)) rfl ?_
  exact ⟨rfl, Blk.below_setCells _ ((Below.refl _ _).alloc (Nat.le_refl _) _) (Nat.le_refl _) _⟩
end Go.Proofs.YtphfjhpgcdmonaaGreatDoor.Sha
