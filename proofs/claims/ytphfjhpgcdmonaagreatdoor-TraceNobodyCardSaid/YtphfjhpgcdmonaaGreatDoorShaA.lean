/- The words of SHA-256 in the program: turning a word round, the constants, the words of a block. Conditions: words are below 2^32, bytes below 256. -/
import Derived.Test.YtphfjhpgcdmonaaGreatDoorProg
import Derived.Test.YtphfjhpgcdmonaaGreatDoorBlk
import Derived.Test.YtphfjhpgcdmonaaGreatDoorCls
import Derived.Test.YtphfjhpgcdmonaaGreatDoorShaP
import Derived.StillTailTactics
import Derived.Laws.ResultCell
namespace Go.Proofs.YtphfjhpgcdmonaaGreatDoor.Sha
open Go.RowKit

/-! ### 1. Operations on whole numbers that are not below 0 -/
theorem run_shl {P : Program} {k yk : IntKind} (x y : Int) (w : World) (hy : 0 ≤ y) : (Op.shift .shl k x yk y).run P w = .ok (.int k (k.wrap (x * 2 ^ min y.toNat k.bits))) w := by
  simp [Op.shift, show ¬ y < 0 by omega]
theorem run_shr {P : Program} {k yk : IntKind} (x y : Int) (w : World) (hy : 0 ≤ y) : (Op.shift .shr k x yk y).run P w = .ok (.int k (x.fdiv (2 ^ min y.toNat k.bits))) w := by
  simp [Op.shift, show ¬ y < 0 by omega]
theorem wrap_u32n (n : Nat) : IntKind.u32.wrap (n : Int) = ((n % 4294967296 : Nat) : Int) := by
  rw [IntKind.wrap_u32]; omega
theorem ofInt_toNat (n a : Nat) (h : a < 2 ^ n) : (BitVec.ofInt n (a : Int)).toNat = a := by
  rw [BitVec.toNat_ofInt, show ((a : Int) % ((2 ^ n : Nat) : Int)).toNat = a % 2 ^ n by omega]
  exact Nat.mod_eq_of_lt h
theorem and32 (a b : Nat) (ha : a < 4294967296) (hb : b < 4294967296) : bits .and .u32 (a : Int) (b : Int) = ((a &&& b : Nat) : Int) := by
  show IntKind.u32.wrap ((BitVec.ofInt 32 (a : Int) &&& BitVec.ofInt 32 (b : Int)).toNat : Nat) = _
  rw [BitVec.toNat_and, ofInt_toNat 32 a ha, ofInt_toNat 32 b hb, wrap_u32n, Nat.mod_eq_of_lt (Nat.lt_of_le_of_lt Nat.and_le_left ha)]
theorem or32 (a b : Nat) (ha : a < 4294967296) (hb : b < 4294967296) : bits .or .u32 (a : Int) (b : Int) = ((a ||| b : Nat) : Int) := by
  show IntKind.u32.wrap ((BitVec.ofInt 32 (a : Int) ||| BitVec.ofInt 32 (b : Int)).toNat : Nat) = _
  rw [BitVec.toNat_or, ofInt_toNat 32 a ha, ofInt_toNat 32 b hb, wrap_u32n, Nat.mod_eq_of_lt (Nat.or_lt_two_pow (n := 32) ha hb)]
theorem xor32 (a b : Nat) (ha : a < 4294967296) (hb : b < 4294967296) : bits .xor .u32 (a : Int) (b : Int) = ((a ^^^ b : Nat) : Int) := by
  show IntKind.u32.wrap ((BitVec.ofInt 32 (a : Int) ^^^ BitVec.ofInt 32 (b : Int)).toNat : Nat) = _
  rw [BitVec.toNat_xor, ofInt_toNat 32 a ha, ofInt_toNat 32 b hb, wrap_u32n, Nat.mod_eq_of_lt (Nat.xor_lt_two_pow (n := 32) ha hb)]
theorem and63 (a b : Nat) (ha : a < 9223372036854775808) (hb : b < 9223372036854775808) : bits .and .i64 (a : Int) (b : Int) = ((a &&& b : Nat) : Int) := by
  show IntKind.i64.wrap ((BitVec.ofInt 64 (a : Int) &&& BitVec.ofInt 64 (b : Int)).toNat : Nat) = _
  rw [BitVec.toNat_and, ofInt_toNat 64 a (by omega), ofInt_toNat 64 b (by omega), IntKind.wrap_i64]
  have := Nat.and_le_left (n := a) (m := b)
  omega
theorem or63 (a b : Nat) (ha : a < 9223372036854775808) (hb : b < 9223372036854775808) : bits .or .i64 (a : Int) (b : Int) = ((a ||| b : Nat) : Int) := by
  show IntKind.i64.wrap ((BitVec.ofInt 64 (a : Int) ||| BitVec.ofInt 64 (b : Int)).toNat : Nat) = _
  rw [BitVec.toNat_or, ofInt_toNat 64 a (by omega), ofInt_toNat 64 b (by omega), IntKind.wrap_i64]
  have := Nat.or_lt_two_pow (n := 63) (x := a) (y := b) ha hb
  omega
theorem xor63 (a b : Nat) (ha : a < 9223372036854775808) (hb : b < 9223372036854775808) : bits .xor .i64 (a : Int) (b : Int) = ((a ^^^ b : Nat) : Int) := by
  show IntKind.i64.wrap ((BitVec.ofInt 64 (a : Int) ^^^ BitVec.ofInt 64 (b : Int)).toNat : Nat) = _
  rw [BitVec.toNat_xor, ofInt_toNat 64 a (by omega), ofInt_toNat 64 b (by omega), IntKind.wrap_i64]
  have := Nat.xor_lt_two_pow (n := 63) (x := a) (y := b) ha hb
  omega
theorem ret_n {k : IntKind} {a : Int} {b : Nat} (h : a = (b : Int)) : Ending.returned (.int k a) = .returned (.int k (b : Int)) := by rw [h]

/-! ### 2. A word turned round -/
theorem neg_and31 (m : Nat) (h0 : 0 < m) (h1 : m < 32) : bits .and .u64 (IntKind.u64.wrap (-((32 : Int) - m))) 31 = (m : Int) := by
  have h31 : (BitVec.ofInt 64 31).toNat = 2 ^ 5 - 1 := by decide
  have hw : IntKind.u64.wrap (-((32 : Int) - m)) = ((18446744073709551616 - 32 + m : Nat) : Int) := by rw [IntKind.wrap_u64]; omega
  rw [hw]
  show IntKind.u64.wrap ((BitVec.ofInt 64 ((18446744073709551616 - 32 + m : Nat) : Int) &&& BitVec.ofInt 64 31).toNat : Nat) = _
  rw [BitVec.toNat_and, h31, ofInt_toNat 64 _ (by omega), Nat.and_two_pow_sub_one_eq_mod, IntKind.wrap_u64]
  omega
theorem rot_or (x m : Nat) (hx : x < 4294967296) (h0 : 0 < m) (h1 : m < 32) : (x * 2 ^ m % 4294967296) ||| (x / 2 ^ (32 - m)) = rotr x (32 - m) := by
  unfold rotr
  rw [show (4294967296 : Nat) = 2 ^ 32 by rfl, Nat.or_mod_two_pow, Nat.shiftRight_eq_div_pow, Nat.shiftLeft_eq, show 32 - (32 - m) = m by omega, Nat.or_comm]
  congr 1
  refine (Nat.mod_eq_of_lt ?_).symm
  exact Nat.lt_of_le_of_lt (Nat.div_le_self _ _) (by simpa using hx)
set_option maxHeartbeats 400000 in
theorem rot_any (x m : Nat) (w : World) (hx : x < 4294967296) (h0 : 0 < m) (h1 : m < 32) :
    Calls Tryz.prog 283 #[.int .u32 (x : Int), .int .i64 (-((32 : Int) - m))] w fun e w' => e = .returned (.int .u32 ((rotr x (32 - m) : Nat) : Int)) ∧ w = w' := by
  have hb := neg_and31 m h0 h1
  have hs : ∀ w, (Op.shift .shl .u32 (x : Int) .u64 (m : Int)).run Tryz.prog w = .ok (.int .u32 ((x * 2 ^ m % 4294967296 : Nat) : Int)) w := fun w => by
    rw [run_shl _ _ _ (by omega)]
    have : min (m : Int).toNat IntKind.u32.bits = m := by show min m 32 = m; omega
    rw [this, ← wrap_u32n]; push_cast; rfl
  have hr : ∀ w, (Op.shift .shr .u32 (x : Int) .u64 (32 - (m : Int))).run Tryz.prog w = .ok (.int .u32 ((x / 2 ^ (32 - m) : Nat) : Int)) w := fun w => by
    rw [run_shr _ _ _ (by omega)]
    have : min (32 - (m : Int)).toNat IntKind.u32.bits = 32 - m := by show min (32 - (m : Int)).toNat 32 = _; omega
    have hp : ((2 : Int) ^ (32 - m)) = ((2 ^ (32 - m) : Nat) : Int) := by simp
    rw [this, hp, Int.fdiv_eq_ediv_of_nonneg _ (Int.natCast_nonneg _), ← Int.natCast_ediv]
  have ho := or32 (x * 2 ^ m % 4294967296) (x / 2 ^ (32 - m)) (Nat.mod_lt _ (by decide)) (Nat.lt_of_le_of_lt (Nat.div_le_self _ _) hx)
  rw [rot_or x m hx h0 h1] at ho
  have e1 : ((x * 2 ^ m % 4294967296 : Nat) : Int) = (x : Int) * 2 ^ m % 4294967296 := by rw [Int.natCast_emod, Int.natCast_mul, Int.natCast_pow]; rfl
  have e2 : ((x / 2 ^ (32 - m) : Nat) : Int) = (x : Int) / 2 ^ (32 - m) := by rw [Int.natCast_ediv, Int.natCast_pow]; rfl
  rw [e1, e2] at ho
  have HO := Lib.hid ho
  clear ho e1 e2
  go_enter Tryz.func283, Tryz.ntmps283
  go_wp2
  go_ret
  exact ⟨ret_n HO.out, rfl⟩
set_option maxHeartbeats 400000 in
theorem turned_any (x n : Nat) (w : World) (hx : x < 4294967296) (h0 : 0 < n) (h1 : n < 32) :
    Calls Tryz.prog 272 #[.int .u32 (x : Int), .int .i64 (n : Int)] w fun e w' => e = .returned (.int .u32 ((rotr x n : Nat) : Int)) ∧ w = w' := by
  have h := fun w => rot_any x (32 - n) w hx (by omega) (by omega)
  rw [show ((32 : Int) - ((32 - n : Nat) : Int)) = (n : Int) by omega, show 32 - (32 - n) = n by omega] at h
  have H := Lib.hid h
  clear h
  go_enter Tryz.func272, Tryz.ntmps272
  go_wp2_with (go_at_call 283; refine (H.out _).mono ?_; rintro e w' ⟨rfl, rfl⟩)
  go_ret
  exact ⟨rfl, rfl⟩
end Go.Proofs.YtphfjhpgcdmonaaGreatDoor.Sha
