/- The executor at this program: functions that are known, and that it is sound. No condition. -/
import Derived.Test.YtphfjhpgcdmonaaGreatDoorMg2
import Derived.Test.YtphfjhpgcdmonaaGreatDoorProg
namespace Go.Proofs.YtphfjhpgcdmonaaGreatDoor.Ea
open Go Go.RowKit Exe
theorem run_add64_0 (x y : Nat) (w : World) : (callFunc 207 #[.int .u64 x, .int .u64 y, .int .u64 0]).run Tryz.prog w =
    .ok (.value (.tuple #[.int .u64 (((x + y + 0) % 18446744073709551616 : Nat) : Int), .int .u64 (((x + y + 0) / 18446744073709551616 : Nat) : Int)])) w := by kernel_rfl
theorem run_add64_1 (x y : Nat) (w : World) : (callFunc 207 #[.int .u64 x, .int .u64 y, .int .u64 1]).run Tryz.prog w =
    .ok (.value (.tuple #[.int .u64 (((x + y + 1) % 18446744073709551616 : Nat) : Int), .int .u64 (((x + y + 1) / 18446744073709551616 : Nat) : Int)])) w := by kernel_rfl
theorem run_add64 (x y c : Nat) (hc : c ≤ 1) (w : World) : (callFunc 207 #[.int .u64 x, .int .u64 y, .int .u64 c]).run Tryz.prog w =
    .ok (.value (.tuple #[.int .u64 (((x + y + c) % 18446744073709551616 : Nat) : Int), .int .u64 (((x + y + c) / 18446744073709551616 : Nat) : Int)])) w := by
  match c, hc with
  | 0, _ => exact run_add64_0 x y w
  | 1, _ => exact run_add64_1 x y w
theorem run_sub64_0 (x y : Nat) (w : World) : (callFunc 204 #[.int .u64 x, .int .u64 y, .int .u64 0]).run Tryz.prog w =
    .ok (.value (.tuple #[.int .u64 (((x + 18446744073709551616 - y - 0) % 18446744073709551616 : Nat) : Int), .int .u64 ((if x < y + 0 then 1 else 0 : Nat) : Int)])) w := by kernel_rfl
theorem run_sub64_1 (x y : Nat) (w : World) : (callFunc 204 #[.int .u64 x, .int .u64 y, .int .u64 1]).run Tryz.prog w =
    .ok (.value (.tuple #[.int .u64 (((x + 18446744073709551616 - y - 1) % 18446744073709551616 : Nat) : Int), .int .u64 ((if x < y + 1 then 1 else 0 : Nat) : Int)])) w := by kernel_rfl
theorem run_sub64 (x y b : Nat) (hb : b ≤ 1) (w : World) : (callFunc 204 #[.int .u64 x, .int .u64 y, .int .u64 b]).run Tryz.prog w =
    .ok (.value (.tuple #[.int .u64 (((x + 18446744073709551616 - y - b) % 18446744073709551616 : Nat) : Int), .int .u64 ((if x < y + b then 1 else 0 : Nat) : Int)])) w := by
  match b, hb with
  | 0, _ => exact run_sub64_0 x y w
  | 1, _ => exact run_sub64_1 x y w
theorem run_same (x : Value) (w : World) : (callFunc 135 #[x]).run Tryz.prog w = .ok (.value x) w := by kernel_rfl
/-- The functions that are told without their code and without others'. -/
noncomputable def leaves : List (FuncId × LeafF) := [(207, addF), (204, subF), (135, sameF)]
theorem leaves_ok : ∀ p ∈ leaves, OneSound Tryz.prog p.1 p.2 := by
  intro p hp
  simp only [leaves, List.mem_cons, List.not_mem_nil, or_false] at hp
  rcases hp with rfl | rfl | rfl
  · exact addF_ok run_add64
  · exact subF_ok run_sub64
  · exact sameF_ok run_same
theorem names_ok : ∀ (g : Nat) (fn : Func), Tryz.prog.funcs[g]? = some fn → fn.name ≠ "runtime.NumGoroutine" := by
  have h : (Tryz.prog.funcs.toList.all fun fn => decide (fn.name ≠ "runtime.NumGoroutine")) = true := by decide +kernel
  intro g fn hg
  have := List.all_eq_true.1 h fn (List.mem_of_getElem? (by simpa using hg))
  simpa using this
theorem mixed_ok : Tryz.prog.follows .mixedOrders = true := by decide +kernel
theorem meth_ok : MethSound Tryz.prog := show MethAll Tryz.prog methTab from
  meth_one (fun _ _ _ => by kernel_rfl) <|
  meth_one (fun _ _ _ => by kernel_rfl) <|
    meth_nil
/-- What the executor tells of a call. -/
theorem sound {N : KnownC} (hK : KnownSound Tryz.prog N) (m : Nat) : CallSound Tryz.prog (callK Tryz.prog N (execK Tryz.prog N m)) := run_ok hK (draw_ok mixed_ok) names_ok m
end Go.Proofs.YtphfjhpgcdmonaaGreatDoor.Ea
