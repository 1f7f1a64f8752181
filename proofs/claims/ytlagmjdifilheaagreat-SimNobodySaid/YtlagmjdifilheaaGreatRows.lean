/-
  No cell of these rows narrows 'for every input' (looked for: loops, veiled, ifaces, maps, wideKeys, modest, calm, conditions, laid).
  DERIVED. THE GIVEN ROWS OF THIS SEAT. 4 by the template 'for every input the law returns true; each argument reads behind the call as it read before'; 0 by the template 'total and deterministic' (their statements: YtlagmjdifilheaaGreatTotals.lean).
  GIVEN WITH THE SEED: the statements are not yours to turn. If you find one false, say at which input.
  Laid BY PROGRAM, IN A SANDBOX (cutbox-rows.mjs): the forced cells as the released guide's own fill.sh prints them over the translation 709aaedd00d5cdcb… (all of the seat's roots in one cut). By AI agents, Wed Nov 11 2026. No macro, syntax, notation, axiom, sorry.
-/
import Derived.Test.YtlagmjdifilheaaGreatChecked
import GoSem.Claim
import GoSem.ClaimJoined
import GoSem.ClaimMapViews
import Derived.JoinedTies
import Derived.KernelRfl
namespace Go.Proofs.YtlagmjdifilheaaGreat
/- THE CELL 'sum', in the pinned program and in every row, IS THE sha256 OF THE DUMP (.gsa) THAT YtlagmjdifilheaaGreatProg.lean LOADS. Nothing in Lean hashes anything: it is a label: what it is worth is what the hold of that sum in a sandbox is worth. -/
noncomputable def Tryz.pinned : Pinned := { name := "ytlagmjdifilheaagreat", sum := "709aaedd00d5cdcbeb480b3b0ca9a4d780a209ec72e053a4e07340f5f5132a9e", checked := Tryz.checked }
namespace Rows
def none {H : Type} : Left H := { results := [], args := [] }

/-- 'sacristylaw31.SimMakes': WHATEVER THE INPUT: true; the input reads as it did. -/
def simMakesSpec : ChangeSpec := { name := "simMakes", fn := fun _ => fun
  | [d1, d2, d3] => { results := [.lit (.bool true)], args := [d1, d2, d3] }
  | _ => none }
def simMakesRow : OpenClaim := { program := "ytlagmjdifilheaagreat", sum := "709aaedd00d5cdcbeb480b3b0ca9a4d780a209ec72e053a4e07340f5f5132a9e", func := "sacristy/sacristylaw31.SimMakes", spec := "simMakes", inPlace := ["math/bits.Sub64", "math/bits.Add64", "internal/abi.NoEscape"], unfollowed := true, recurses := true, named := ["math/bits.divideError", "math/bits.overflowError"], apart := false }
def SimMakesSaid : Prop := simMakesRow.holds Tryz.pinned (OpenSpec.ofChange simMakesSpec)

/-- ITS FALSE NEIGHBOUR: 'it returns false'. Refute it at one input. -/
def simMakesWrong : ChangeSpec := { name := "simMakes", fn := fun _ => fun
  | [d1, d2, d3] => { results := [.lit (.bool false)], args := [d1, d2, d3] }
  | _ => none }
def SimMakesWrongFalsely : Prop := simMakesRow.holds Tryz.pinned (OpenSpec.ofChange simMakesWrong)

/-- 'sacristylaw31.SimProposes': WHATEVER THE INPUT: true; the input reads as it did. -/
def simProposesSpec : ChangeSpec := { name := "simProposes", fn := fun _ => fun
  | [d1, d2, d3] => { results := [.lit (.bool true)], args := [d1, d2, d3] }
  | _ => none }
def simProposesRow : OpenClaim := { program := "ytlagmjdifilheaagreat", sum := "709aaedd00d5cdcbeb480b3b0ca9a4d780a209ec72e053a4e07340f5f5132a9e", func := "sacristy/sacristylaw31.SimProposes", spec := "simProposes", inPlace := ["math/bits.Sub64", "math/bits.Add64", "internal/abi.NoEscape"], unfollowed := true, recurses := true, named := ["math/bits.divideError", "math/bits.overflowError"], apart := false }
def SimProposesSaid : Prop := simProposesRow.holds Tryz.pinned (OpenSpec.ofChange simProposesSpec)

/-- ITS FALSE NEIGHBOUR: 'it returns false'. Refute it at one input. -/
def simProposesWrong : ChangeSpec := { name := "simProposes", fn := fun _ => fun
  | [d1, d2, d3] => { results := [.lit (.bool false)], args := [d1, d2, d3] }
  | _ => none }
def SimProposesWrongFalsely : Prop := simProposesRow.holds Tryz.pinned (OpenSpec.ofChange simProposesWrong)

/-- 'sacristylaw31.SimHides': WHATEVER THE INPUT: true; the input reads as it did. -/
def simHidesSpec : ChangeSpec := { name := "simHides", fn := fun _ => fun
  | [d1, d2, d3] => { results := [.lit (.bool true)], args := [d1, d2, d3] }
  | _ => none }
def simHidesRow : OpenClaim := { program := "ytlagmjdifilheaagreat", sum := "709aaedd00d5cdcbeb480b3b0ca9a4d780a209ec72e053a4e07340f5f5132a9e", func := "sacristy/sacristylaw31.SimHides", spec := "simHides", inPlace := ["math/bits.Sub64", "math/bits.Add64", "internal/abi.NoEscape"], unfollowed := true, recurses := true, named := ["math/bits.divideError", "math/bits.overflowError"], apart := false }
def SimHidesSaid : Prop := simHidesRow.holds Tryz.pinned (OpenSpec.ofChange simHidesSpec)

/-- ITS FALSE NEIGHBOUR: 'it returns false'. Refute it at one input. -/
def simHidesWrong : ChangeSpec := { name := "simHides", fn := fun _ => fun
  | [d1, d2, d3] => { results := [.lit (.bool false)], args := [d1, d2, d3] }
  | _ => none }
def SimHidesWrongFalsely : Prop := simHidesRow.holds Tryz.pinned (OpenSpec.ofChange simHidesWrong)

/-- 'sacristylaw31.SimNobody': WHATEVER THE INPUT: true; the input reads as it did. -/
def simNobodySpec : ChangeSpec := { name := "simNobody", fn := fun _ => fun
  | [d1, d2] => { results := [.lit (.bool true)], args := [d1, d2] }
  | _ => none }
def simNobodyRow : OpenClaim := { program := "ytlagmjdifilheaagreat", sum := "709aaedd00d5cdcbeb480b3b0ca9a4d780a209ec72e053a4e07340f5f5132a9e", func := "sacristy/sacristylaw31.SimNobody", spec := "simNobody", inPlace := ["math/bits.Sub64", "math/bits.Add64", "internal/abi.NoEscape"], unfollowed := true, recurses := true, named := ["math/bits.divideError", "math/bits.overflowError"], apart := false }
def SimNobodySaid : Prop := simNobodyRow.holds Tryz.pinned (OpenSpec.ofChange simNobodySpec)

/-- ITS FALSE NEIGHBOUR: 'it returns false'. Refute it at one input. -/
def simNobodyWrong : ChangeSpec := { name := "simNobody", fn := fun _ => fun
  | [d1, d2] => { results := [.lit (.bool false)], args := [d1, d2] }
  | _ => none }
def SimNobodyWrongFalsely : Prop := simNobodyRow.holds Tryz.pinned (OpenSpec.ofChange simNobodyWrong)

/- THE SECOND FORM. 'bulk': how many values and letters a reading holds, each counted each time it is reached (what is shared counts as often as it is met; a slice's spare places count too). A statement '..UptoSaid' is the law's where the arguments, and the package variables that the reading takes, are together of bulk at most 1048576: NARROWER than '..Said'. Prove '..Said' where nothing that the law and all that it calls make is longer than what came in: it says more and counts as full. Else prove '..UptoSaid'. A law counts once. -/
mutual
def uptoBulk {H : Type} : DataW H → Nat
  | .lit (.string bytes) => bytes.length + 1
  | .lit _ => 1
  | .nil => 1
  | .ptr d => uptoBulk d + 1
  | .slice elems spare => uptoBulkAll elems + uptoBulkAll spare + 1
  | .agg parts => uptoBulkAll parts + 1
  | .iface _ d => uptoBulk d + 1
  | .map entries => uptoBulkEntries entries + 1
  | .held _ => 1
def uptoBulkAll {H : Type} : List (DataW H) → Nat
  | [] => 0
  | d :: r => uptoBulk d + uptoBulkAll r
def uptoBulkEntries {H : Type} : List (Lit × DataW H) → Nat
  | [] => 0
  | x :: r => uptoBulkEntry x + uptoBulkEntries r
def uptoBulkEntry {H : Type} : Lit × DataW H → Nat
  | (.string bytes, d) => bytes.length + uptoBulk d + 1
  | (_, d) => uptoBulk d + 1
 end
def uptoSmall : (H : Type) → List (DataW H) → Bool := fun _ ds => decide (uptoBulkAll ds ≤ 1048576)
def OpenSpec.upto (s : _root_.Go.ChangeSpec) : _root_.Go.OpenSpec := { _root_.Go.OpenSpec.ofChange s with cond := some uptoSmall }

/-- 'sacristylaw31.SimMakes', WHERE WHAT IT READS IS OF BULK AT MOST 1048576: true; the input reads as it did. -/
def simMakesUptoRow : OpenClaim := { program := "ytlagmjdifilheaagreat", sum := "709aaedd00d5cdcbeb480b3b0ca9a4d780a209ec72e053a4e07340f5f5132a9e", func := "sacristy/sacristylaw31.SimMakes", spec := "simMakes", inPlace := ["math/bits.Sub64", "math/bits.Add64", "internal/abi.NoEscape"], unfollowed := true, recurses := true, named := ["math/bits.divideError", "math/bits.overflowError"], apart := false, narrowed := true }
def SimMakesUptoSaid : Prop := simMakesUptoRow.holds Tryz.pinned (OpenSpec.upto simMakesSpec)

/-- 'sacristylaw31.SimProposes', WHERE WHAT IT READS IS OF BULK AT MOST 1048576: true; the input reads as it did. -/
def simProposesUptoRow : OpenClaim := { program := "ytlagmjdifilheaagreat", sum := "709aaedd00d5cdcbeb480b3b0ca9a4d780a209ec72e053a4e07340f5f5132a9e", func := "sacristy/sacristylaw31.SimProposes", spec := "simProposes", inPlace := ["math/bits.Sub64", "math/bits.Add64", "internal/abi.NoEscape"], unfollowed := true, recurses := true, named := ["math/bits.divideError", "math/bits.overflowError"], apart := false, narrowed := true }
def SimProposesUptoSaid : Prop := simProposesUptoRow.holds Tryz.pinned (OpenSpec.upto simProposesSpec)

/-- 'sacristylaw31.SimHides', WHERE WHAT IT READS IS OF BULK AT MOST 1048576: true; the input reads as it did. -/
def simHidesUptoRow : OpenClaim := { program := "ytlagmjdifilheaagreat", sum := "709aaedd00d5cdcbeb480b3b0ca9a4d780a209ec72e053a4e07340f5f5132a9e", func := "sacristy/sacristylaw31.SimHides", spec := "simHides", inPlace := ["math/bits.Sub64", "math/bits.Add64", "internal/abi.NoEscape"], unfollowed := true, recurses := true, named := ["math/bits.divideError", "math/bits.overflowError"], apart := false, narrowed := true }
def SimHidesUptoSaid : Prop := simHidesUptoRow.holds Tryz.pinned (OpenSpec.upto simHidesSpec)

/-- 'sacristylaw31.SimNobody', WHERE WHAT IT READS IS OF BULK AT MOST 1048576: true; the input reads as it did. -/
def simNobodyUptoRow : OpenClaim := { program := "ytlagmjdifilheaagreat", sum := "709aaedd00d5cdcbeb480b3b0ca9a4d780a209ec72e053a4e07340f5f5132a9e", func := "sacristy/sacristylaw31.SimNobody", spec := "simNobody", inPlace := ["math/bits.Sub64", "math/bits.Add64", "internal/abi.NoEscape"], unfollowed := true, recurses := true, named := ["math/bits.divideError", "math/bits.overflowError"], apart := false, narrowed := true }
def SimNobodyUptoSaid : Prop := simNobodyUptoRow.holds Tryz.pinned (OpenSpec.upto simNobodySpec)

end Rows
end Go.Proofs.YtlagmjdifilheaaGreat
