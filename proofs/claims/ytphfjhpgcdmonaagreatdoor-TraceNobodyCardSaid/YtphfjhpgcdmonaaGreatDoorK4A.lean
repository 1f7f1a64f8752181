/- What is known of words and naturals. No condition. -/
import Derived.Test.YtphfjhpgcdmonaaGreatDoorEeA
import Derived.Test.YtphfjhpgcdmonaaGreatDoorEbA
import Derived.Test.YtphfjhpgcdmonaaGreatDoorMg2
namespace Go.Proofs.YtphfjhpgcdmonaaGreatDoor.Ef
open Go Go.RowKit Exe Ec Ed Ee Eb
set_option maxRecDepth 100000
abbrev n (i : Int) : Value := .int .i64 i
noncomputable def leaves4 : List (FuncId × LeafF) := [(175, redcC), (130, cmpC), (165, subC), (207, addF), (204, subF), (135, sameF)]
theorem leaves4_ok : ∀ p ∈ leaves4, OneSound Tryz.prog p.1 p.2 := by
  intro p hp
  simp only [leaves4, List.mem_cons, List.not_mem_nil, or_false] at hp
  rcases hp with rfl | rfl | rfl | rfl | rfl | rfl
  · exact redcC_ok
  · exact cmpC_ok
  · exact subC_ok
  · exact addF_ok Ea.run_add64
  · exact subF_ok Ea.run_sub64
  · exact sameF_ok Ea.run_same
def isU : Value → Bool
  | .int .u64 (.ofNat _) => true
  | _ => false
def u? (v : Value) : Nat := match v with
  | .int .u64 (.ofNat a) => a
  | _ => 1
def shortT (args : List Value) (_ : Hp) : Bool := match args with
  | [x, l, m] => four x fun _ a1 a2 a3 => Nat.beq (Nat.add (Nat.add a1 a2) (Nat.add a3 (u? l))) 0 && isU l && isU m && !(Nat.beq (u? m) 0)
  | _ => false
def divT (args : List Value) (_ : Hp) : Bool := match args with
  | [x, a, m] => isU x && isU a && isU m && Nat.beq (u? x) 0 && !(Nat.beq (u? m) 0)
  | _ => false
def mulT (args : List Value) (_ : Hp) : Bool := match args with
  | [x, y] => isU x && isU y && Nat.blt (u? x) 18446744073709551616 && Nat.blt (u? y) 18446744073709551616
  | _ => false
noncomputable def nodes4 : List (FuncId × NodeF) := [(209, elseK 209 shortT shortC), (240, elseK 240 divT divC), (206, elseK 206 mulT mulF)]
theorem nodes4_ok : ∀ p ∈ nodes4, ∀ F, CallSound Tryz.prog F → OneSound Tryz.prog p.1 (p.2 F) := by
  intro p hp F hF
  simp only [nodes4, List.mem_cons, List.not_mem_nil, or_false] at hp
  rcases hp with rfl | rfl | rfl
  · exact elseK_ok shortC_ok F hF
  · exact elseK_ok divC_ok F hF
  · exact elseK_ok mulF_ok F hF
noncomputable def K4 : KnownC := KnownC.of leaves4 nodes4
theorem K4_ok : KnownSound Tryz.prog K4 := known_ok Ea.meth_ok leaves4_ok nodes4_ok
noncomputable abbrev run4 : CallC := callK Tryz.prog K4 (execK Tryz.prog K4 100000)
theorem sound4 : CallSound Tryz.prog run4 := Ea.sound K4_ok 100000
end Go.Proofs.YtphfjhpgcdmonaaGreatDoor.Ef
