/- Tables of calls: what the code does at some arguments, by runs. No condition. -/
import Derived.Test.YtlagmjdifilheaaGreatEeA
import Derived.Test.YtlagmjdifilheaaGreatEbA
import Derived.Test.YtlagmjdifilheaaGreatExAc
namespace Go.Proofs.YtlagmjdifilheaaGreat.Ef
open Go Go.RowKit Exe Ec Ed Ee Eb
set_option maxRecDepth 100000
abbrev n (i : Int) : Value := .int .i64 i
noncomputable def leaves4 : List (FuncId × LeafF) := [(176, redcC), (124, cmpC), (166, subC), (208, addF), (206, subF), (224, sameF)]
theorem leaves4_ok : ∀ p ∈ leaves4, OneSound Tryz.prog p.1 p.2 := by
  intro p hp
  simp only [leaves4, List.mem_cons, List.not_mem_nil, or_false] at hp
  rcases hp with rfl | rfl | rfl | rfl | rfl | rfl
  · exact redcC_ok
  · exact cmpC_ok
  · exact subC_ok
  · exact addF_ok Ea.run_add64
  · exact subF_ok Ea.run_sub64
  · exact sameF_ok Ea.run_same
def isU : Value → Bool
  | .int .u64 (.ofNat _) => true
  | _ => false
def u? (v : Value) : Nat := match v with
  | .int .u64 (.ofNat a) => a
  | _ => 1
def shortT (args : List Value) (_ : Hp) : Bool := match args with
  | [x, l, m] => four x fun _ a1 a2 a3 => Nat.beq (Nat.add (Nat.add a1 a2) (Nat.add a3 (u? l))) 0 && isU l && isU m && !(Nat.beq (u? m) 0)
  | _ => false
def divT (args : List Value) (_ : Hp) : Bool := match args with
  | [x, a, m] => isU x && isU a && isU m && Nat.beq (u? x) 0 && !(Nat.beq (u? m) 0)
  | _ => false
def mulT (args : List Value) (_ : Hp) : Bool := match args with
  | [x, y] => isU x && isU y && Nat.blt (u? x) 18446744073709551616 && Nat.blt (u? y) 18446744073709551616
  | _ => false
noncomputable def nodes4 : List (FuncId × NodeF) := [(209, elseK 209 shortT shortC), (179, elseK 179 divT divC), (178, elseK 178 mulT mulF)]
theorem nodes4_ok : ∀ p ∈ nodes4, ∀ F, CallSound Tryz.prog F → OneSound Tryz.prog p.1 (p.2 F) := by
  intro p hp F hF
  simp only [nodes4, List.mem_cons, List.not_mem_nil, or_false] at hp
  rcases hp with rfl | rfl | rfl
  · exact elseK_ok shortC_ok F hF
  · exact elseK_ok divC_ok F hF
  · exact elseK_ok mulF_ok F hF
noncomputable def K4 : KnownC := KnownC.of leaves4 nodes4
theorem K4_ok : KnownSound Tryz.prog K4 := known_ok leaves4_ok nodes4_ok
noncomputable abbrev run4 : CallC := callK Tryz.prog K4 (execK Tryz.prog K4 100000)
theorem sound4 : CallSound Tryz.prog run4 := Ea.sound K4_ok 100000
noncomputable def tabSmall : Tab := [([(n 65521)], (.bool true))]
theorem tabSmall_ok : tabB run4 118 tabSmall = true := by decide +kernel
noncomputable def tabMul : Tab := [([(.agg #[(u 1054101912), (u 0), (u 0), (u 0)]), (.agg #[(u 1054101912), (u 0), (u 0), (u 0)]), (.agg #[(u 1966023127), (u 0), (u 0), (u 0)])], (.tuple #[(.agg #[(u 717345431), (u 0), (u 0), (u 0)]), (n 0)])),
  ([(.agg #[(u 618621049060297669), (u 0), (u 0), (u 0)]), (.agg #[(u 618621049060297669), (u 0), (u 0), (u 0)]), (.agg #[(u 1055500680322183127), (u 0), (u 0), (u 0)])], (.tuple #[(.agg #[(u 606632860792959887), (u 0), (u 0), (u 0)]), (n 0)])),
  ([(.agg #[(u 1966023127), (u 0), (u 0), (u 0)]), (.agg #[(u 1), (u 0), (u 0), (u 0)]), (.agg #[(u 1966023127), (u 0), (u 0), (u 0)])], (.tuple #[(.agg #[(u 0), (u 0), (u 0), (u 0)]), (n 0)])),
  ([(.agg #[(u 655341042), (u 0), (u 0), (u 0)]), (.agg #[(u 1), (u 0), (u 0), (u 0)]), (.agg #[(u 1966023127), (u 0), (u 0), (u 0)])], (.tuple #[(.agg #[(u 655341042), (u 0), (u 0), (u 0)]), (n 0)])),
  ([(.agg #[(u 3), (u 0), (u 0), (u 0)]), (.agg #[(u 1310682085), (u 0), (u 0), (u 0)]), (.agg #[(u 1966023127), (u 0), (u 0), (u 0)])], (.tuple #[(.agg #[(u 1), (u 0), (u 0), (u 0)]), (n 0)]))]
theorem tabMul_ok : tabB run4 121 tabMul = true := by decide +kernel
noncomputable def tabLess : Tab := [([(.agg #[(u 1365547584), (u 0), (u 0), (u 0)]), (.agg #[(u 1), (u 0), (u 0), (u 0)]), (.agg #[(u 1966023127), (u 0), (u 0), (u 0)])], (.tuple #[(.agg #[(u 1365547583), (u 0), (u 0), (u 0)]), (n 0)])),
  ([(.agg #[(u 316543771439780984), (u 0), (u 0), (u 0)]), (.agg #[(u 1), (u 0), (u 0), (u 0)]), (.agg #[(u 1055500680322183127), (u 0), (u 0), (u 0)])], (.tuple #[(.agg #[(u 316543771439780983), (u 0), (u 0), (u 0)]), (n 0)])),
  ([(.agg #[(u 1), (u 0), (u 0), (u 0)]), (.agg #[(u 0), (u 0), (u 0), (u 0)]), (.agg #[(u 1966023127), (u 0), (u 0), (u 0)])], (.tuple #[(.agg #[(u 1), (u 0), (u 0), (u 0)]), (n 0)])),
  ([(.agg #[(u 0), (u 0), (u 0), (u 0)]), (.agg #[(u 0), (u 0), (u 0), (u 0)]), (.agg #[(u 1966023127), (u 0), (u 0), (u 0)])], (.tuple #[(.agg #[(u 0), (u 0), (u 0), (u 0)]), (n 0)])),
  ([(.agg #[(u 0), (u 0), (u 0), (u 0)]), (.agg #[(u 1), (u 0), (u 0), (u 0)]), (.agg #[(u 1966023127), (u 0), (u 0), (u 0)])], (.tuple #[(.agg #[(u 1966023126), (u 0), (u 0), (u 0)]), (n 0)])),
  ([(.agg #[(u 0), (u 0), (u 0), (u 0)]), (.agg #[(u 655341042), (u 0), (u 0), (u 0)]), (.agg #[(u 1966023127), (u 0), (u 0), (u 0)])], (.tuple #[(.agg #[(u 1310682085), (u 0), (u 0), (u 0)]), (n 0)])),
  ([(.agg #[(u 1), (u 0), (u 0), (u 0)]), (.agg #[(u 1), (u 0), (u 0), (u 0)]), (.agg #[(u 1966023127), (u 0), (u 0), (u 0)])], (.tuple #[(.agg #[(u 0), (u 0), (u 0), (u 0)]), (n 0)])),
  ([(.agg #[(u 0), (u 0), (u 0), (u 0)]), (.agg #[(u 3), (u 0), (u 0), (u 0)]), (.agg #[(u 1966023127), (u 0), (u 0), (u 0)])], (.tuple #[(.agg #[(u 1966023124), (u 0), (u 0), (u 0)]), (n 0)]))]
theorem tabLess_ok : tabB run4 169 tabLess = true := by decide +kernel
noncomputable def tabStep : Tab := [([(.agg #[(u 1966023127), (u 0), (u 0), (u 0)]), (.agg #[(u 65521), (u 0), (u 0), (u 0)]), (n 2)], (.bool true)),
  ([(.agg #[(u 1055500680322183127), (u 0), (u 0), (u 0)]), (.agg #[(u 1966023127), (u 0), (u 0), (u 0)]), (n 2)], (.bool true))]
theorem tabStep_ok : tabB run4 119 tabStep = true := by decide +kernel
noncomputable def tabLow : Tab := [([(.agg #[(u 1055500680322183127), (u 0), (u 0), (u 0)])], (.tuple #[(n 1055500680322183127), (.bool true)])),
  ([(.agg #[(u 1966023127), (u 0), (u 0), (u 0)])], (.tuple #[(n 1966023127), (.bool true)])),
  ([(.agg #[(u 316543771439780984), (u 0), (u 0), (u 0)])], (.tuple #[(n 316543771439780984), (.bool true)]))]
theorem tabLow_ok : tabB run4 67 tabLow = true := by decide +kernel
noncomputable def tabInt : Tab := [([(n 11)], (.agg #[(u 11), (u 0), (u 0), (u 0)])),
  ([(n 5)], (.agg #[(u 5), (u 0), (u 0), (u 0)])),
  ([(n 2)], (.agg #[(u 2), (u 0), (u 0), (u 0)]))]
theorem tabInt_ok : tabB run4 44 tabInt = true := by decide +kernel
noncomputable def tabAdd : Tab := [([(.agg #[(u 0), (u 0), (u 0), (u 0)]), (.agg #[(u 1), (u 0), (u 0), (u 0)]), (.agg #[(u 1966023127), (u 0), (u 0), (u 0)])], (.tuple #[(.agg #[(u 1), (u 0), (u 0), (u 0)]), (n 0)])),
  ([(.agg #[(u 1), (u 0), (u 0), (u 0)]), (.agg #[(u 0), (u 0), (u 0), (u 0)]), (.agg #[(u 1966023127), (u 0), (u 0), (u 0)])], (.tuple #[(.agg #[(u 1), (u 0), (u 0), (u 0)]), (n 0)])),
  ([(.agg #[(u 0), (u 0), (u 0), (u 0)]), (.agg #[(u 0), (u 0), (u 0), (u 0)]), (.agg #[(u 1966023127), (u 0), (u 0), (u 0)])], (.tuple #[(.agg #[(u 0), (u 0), (u 0), (u 0)]), (n 0)])),
  ([(.agg #[(u 3), (u 0), (u 0), (u 0)]), (.agg #[(u 0), (u 0), (u 0), (u 0)]), (.agg #[(u 1966023127), (u 0), (u 0), (u 0)])], (.tuple #[(.agg #[(u 3), (u 0), (u 0), (u 0)]), (n 0)])),
  ([(.agg #[(u 655341042), (u 0), (u 0), (u 0)]), (.agg #[(u 0), (u 0), (u 0), (u 0)]), (.agg #[(u 1966023127), (u 0), (u 0), (u 0)])], (.tuple #[(.agg #[(u 655341042), (u 0), (u 0), (u 0)]), (n 0)])),
  ([(.agg #[(u 0), (u 0), (u 0), (u 0)]), (.agg #[(u 655341042), (u 0), (u 0), (u 0)]), (.agg #[(u 1966023127), (u 0), (u 0), (u 0)])], (.tuple #[(.agg #[(u 655341042), (u 0), (u 0), (u 0)]), (n 0)])),
  ([(.agg #[(u 0), (u 0), (u 0), (u 0)]), (.agg #[(u 1966023124), (u 0), (u 0), (u 0)]), (.agg #[(u 1966023127), (u 0), (u 0), (u 0)])], (.tuple #[(.agg #[(u 1966023124), (u 0), (u 0), (u 0)]), (n 0)])),
  ([(.agg #[(u 1966023124), (u 0), (u 0), (u 0)]), (.agg #[(u 0), (u 0), (u 0), (u 0)]), (.agg #[(u 1966023127), (u 0), (u 0), (u 0)])], (.tuple #[(.agg #[(u 1966023124), (u 0), (u 0), (u 0)]), (n 0)])),
  ([(.agg #[(u 1310682085), (u 0), (u 0), (u 0)]), (.agg #[(u 0), (u 0), (u 0), (u 0)]), (.agg #[(u 1966023127), (u 0), (u 0), (u 0)])], (.tuple #[(.agg #[(u 1310682085), (u 0), (u 0), (u 0)]), (n 0)])),
  ([(.agg #[(u 0), (u 0), (u 0), (u 0)]), (.agg #[(u 1310682085), (u 0), (u 0), (u 0)]), (.agg #[(u 1966023127), (u 0), (u 0), (u 0)])], (.tuple #[(.agg #[(u 1310682085), (u 0), (u 0), (u 0)]), (n 0)])),
  ([(.agg #[(u 0), (u 0), (u 0), (u 0)]), (.agg #[(u 1310682083), (u 0), (u 0), (u 0)]), (.agg #[(u 1966023127), (u 0), (u 0), (u 0)])], (.tuple #[(.agg #[(u 1310682083), (u 0), (u 0), (u 0)]), (n 0)])),
  ([(.agg #[(u 1310682083), (u 0), (u 0), (u 0)]), (.agg #[(u 655341046), (u 0), (u 0), (u 0)]), (.agg #[(u 1966023127), (u 0), (u 0), (u 0)])], (.tuple #[(.agg #[(u 2), (u 0), (u 0), (u 0)]), (n 0)])),
  ([(.agg #[(u 5), (u 0), (u 0), (u 0)]), (.agg #[(u 0), (u 0), (u 0), (u 0)]), (.agg #[(u 1966023127), (u 0), (u 0), (u 0)])], (.tuple #[(.agg #[(u 5), (u 0), (u 0), (u 0)]), (n 0)])),
  ([(.agg #[(u 2), (u 0), (u 0), (u 0)]), (.agg #[(u 0), (u 0), (u 0), (u 0)]), (.agg #[(u 1966023127), (u 0), (u 0), (u 0)])], (.tuple #[(.agg #[(u 2), (u 0), (u 0), (u 0)]), (n 0)])),
  ([(.agg #[(u 0), (u 0), (u 0), (u 0)]), (.agg #[(u 2), (u 0), (u 0), (u 0)]), (.agg #[(u 1966023127), (u 0), (u 0), (u 0)])], (.tuple #[(.agg #[(u 2), (u 0), (u 0), (u 0)]), (n 0)])),
  ([(.agg #[(u 2), (u 0), (u 0), (u 0)]), (.agg #[(u 5), (u 0), (u 0), (u 0)]), (.agg #[(u 1966023127), (u 0), (u 0), (u 0)])], (.tuple #[(.agg #[(u 7), (u 0), (u 0), (u 0)]), (n 0)])),
  ([(.agg #[(u 4), (u 0), (u 0), (u 0)]), (.agg #[(u 5), (u 0), (u 0), (u 0)]), (.agg #[(u 1966023127), (u 0), (u 0), (u 0)])], (.tuple #[(.agg #[(u 9), (u 0), (u 0), (u 0)]), (n 0)])),
  ([(.agg #[(u 6), (u 0), (u 0), (u 0)]), (.agg #[(u 5), (u 0), (u 0), (u 0)]), (.agg #[(u 1966023127), (u 0), (u 0), (u 0)])], (.tuple #[(.agg #[(u 11), (u 0), (u 0), (u 0)]), (n 0)])),
  ([(.agg #[(u 8), (u 0), (u 0), (u 0)]), (.agg #[(u 5), (u 0), (u 0), (u 0)]), (.agg #[(u 1966023127), (u 0), (u 0), (u 0)])], (.tuple #[(.agg #[(u 13), (u 0), (u 0), (u 0)]), (n 0)])),
  ([(.agg #[(u 0), (u 0), (u 0), (u 0)]), (.agg #[(u 655341046), (u 0), (u 0), (u 0)]), (.agg #[(u 1966023127), (u 0), (u 0), (u 0)])], (.tuple #[(.agg #[(u 655341046), (u 0), (u 0), (u 0)]), (n 0)]))]
theorem tabAdd_ok : tabB run4 144 tabAdd = true := by decide +kernel
noncomputable def tabInv : Tab := [([(.agg #[(u 1), (u 0), (u 0), (u 0)]), (.agg #[(u 1966023127), (u 0), (u 0), (u 0)])], (.tuple #[(.agg #[(u 1), (u 0), (u 0), (u 0)]), (n 0)])),
  ([(.agg #[(u 3), (u 0), (u 0), (u 0)]), (.agg #[(u 1966023127), (u 0), (u 0), (u 0)])], (.tuple #[(.agg #[(u 1310682085), (u 0), (u 0), (u 0)]), (n 0)]))]
theorem tabInv_ok : tabB run4 187 tabInv = true := by decide +kernel
end Go.Proofs.YtlagmjdifilheaaGreat.Ef
