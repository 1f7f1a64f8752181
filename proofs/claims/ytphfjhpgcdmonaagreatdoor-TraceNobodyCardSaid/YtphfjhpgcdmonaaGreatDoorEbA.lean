/- bits.Mul64 walked, for the executor. Conditions: words. -/
import Derived.Test.YtphfjhpgcdmonaaGreatDoorEaA
import Derived.Test.YtphfjhpgcdmonaaGreatDoorMg2
import Derived.Lib.Mul64
import Derived.Laws.Bits64b
import Derived.Shelf.Bits.Mul64
namespace Go.Proofs.YtphfjhpgcdmonaaGreatDoor.Eb
open Go Go.RowKit Go.Lib Exe
set_option maxHeartbeats 4000000 in
theorem mul64_any (x y : Nat) (hx : x < 18446744073709551616) (hy : y < 18446744073709551616) (w : World) :
    Calls Tryz.prog 206 #[.int .u64 x, .int .u64 y] w fun e w' => e = .returned (.tuple #[.int .u64 ((x * y / 18446744073709551616 : Nat) : Int), .int .u64 ((x * y % 18446744073709551616 : Nat) : Int)]) ∧ w' = w := by
  obtain ⟨bd, bt, bw, hhi⟩ := Lib.mul64_hi x y hx hy
  have ba := Lib.half_mul_le (a := x / 4294967296) (b := y / 4294967296) (by omega) (by omega)
  have bb := Lib.half_mul_le (a := x / 4294967296) (b := y % 4294967296) (by omega) (by omega)
  have bc := Lib.half_mul_le (a := x % 4294967296) (b := y / 4294967296) (by omega) (by omega)
  have ba' : x / 4294967296 * (y / 4294967296) < 18446744073709551616 := by omega
  have bb' : x / 4294967296 * (y % 4294967296) < 18446744073709551616 := by omega
  have bc' : x % 4294967296 * (y / 4294967296) < 18446744073709551616 := by omega
  have bh1 : x / 4294967296 * (y / 4294967296) + (x / 4294967296 * (y % 4294967296) + x % 4294967296 * (y % 4294967296) / 4294967296) / 4294967296 < 18446744073709551616 := by omega
  have bh : x / 4294967296 * (y / 4294967296) + (x / 4294967296 * (y % 4294967296) + x % 4294967296 * (y % 4294967296) / 4294967296) / 4294967296 + ((x / 4294967296 * (y % 4294967296) + x % 4294967296 * (y % 4294967296) / 4294967296) % 4294967296 + x % 4294967296 * (y / 4294967296)) / 4294967296 < 18446744073709551616 := by omega
  go_enter Tryz.func206, Tryz.ntmps206
  go_wp2
  simp only [Mul64.maskN x hx, Mul64.maskN y hy, Mul64.divN, Mul64.mulN, Mul64.addN, Mul64.wrapN _ bd, Mul64.wrapN _ bb', Mul64.wrapN _ bt, Mul64.maskN _ bt, Mul64.wrapN _ bc', Mul64.wrapN _ bw, Mul64.wrapN _ ba', Mul64.wrapN _ bh1, Mul64.wrapN _ bh, Mul64.wrapM (x * y)]
  rw [hhi]
  go_ret2
  exact ⟨rfl, rfl⟩
/-- bits.Mul64. -/
noncomputable def mulF : LeafF := fun args h q => match args with
  | [.int .u64 (.ofNat x), .int .u64 (.ofNat y)] => Bool.rec false (Bool.rec false
      (q (.tuple #[.int .u64 (.ofNat (Nat.div (Nat.mul x y) 18446744073709551616)), .int .u64 (.ofNat (Nat.mod (Nat.mul x y) 18446744073709551616))]) h) (Nat.ble (Nat.succ y) 18446744073709551616)) (Nat.ble (Nat.succ x) 18446744073709551616)
  | _ => false
theorem enters_mul : ∀ (args : Array Value) (w : World), (callFunc 206 args).run Tryz.prog w = .ok (.enter 206 args) w := Tryz.call206
theorem mulF_ok : OneSound Tryz.prog 206 mulF :=
  calls_one enters_mul fun args h k hr => by
    unfold mulF at hr
    split at hr
    · rename_i x y
      cases h1 : Nat.ble (Nat.succ x) 18446744073709551616 with
      | false => rw [h1] at hr; cases hr
      | true =>
        rw [h1] at hr
        cases h2 : Nat.ble (Nat.succ y) 18446744073709551616 with
        | false => rw [h2] at hr; cases hr
        | true =>
          rw [h2] at hr
          refine ⟨_, hr, rfl, rfl, fun w => ?_⟩
          refine Calls.mono (mul64_any x y (Nat.le_of_ble_eq_true h1) (Nat.le_of_ble_eq_true h2) w) fun e w' he => ?_
          obtain ⟨rfl, rfl⟩ := he
          exact ⟨rfl, Below.refl _ _⟩
    · cases hr
end Go.Proofs.YtphfjhpgcdmonaaGreatDoor.Eb
