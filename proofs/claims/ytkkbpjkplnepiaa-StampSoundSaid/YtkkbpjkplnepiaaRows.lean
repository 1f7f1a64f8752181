/-
  No cell of these rows narrows 'for every input' (looked for: loops, veiled, ifaces, maps, wideKeys, modest, calm, conditions, laid).
  DERIVED. THE GIVEN ROWS OF THIS SEAT. 4 by the template 'for every input the law returns true; each argument reads behind the call as it read before'; 0 by the template 'total and deterministic' (their statements: YtkkbpjkplnepiaaTotals.lean).
  GIVEN WITH THE SEED: the statements are not yours to turn. If you find one false, say at which input.
  Laid BY PROGRAM, IN A SANDBOX (cutbox-rows.mjs): the forced cells as the released guide's own fill.sh prints them over the translation 0a8924b4f2568414… (all of the seat's roots in one cut). By AI agents, Wed Nov 11 2026. No macro, syntax, notation, axiom, sorry.
-/
import Derived.Test.YtkkbpjkplnepiaaChecked
import GoSem.Claim
import GoSem.ClaimJoined
import GoSem.ClaimMapViews
import Derived.JoinedTies
import Derived.KernelRfl
namespace Go.Proofs.Ytkkbpjkplnepiaa
/- THE CELL 'sum', in the pinned program and in every row, IS THE sha256 OF THE DUMP (.gsa) THAT YtkkbpjkplnepiaaProg.lean LOADS. Nothing in Lean hashes anything: it is a label: what it is worth is what the hold of that sum in a sandbox is worth. -/
noncomputable def Try.pinned : Pinned := { name := "ytkkbpjkplnepiaa", sum := "0a8924b4f256841456dcadbbfc41c1ff79eb95aca6ad362d36ccaa2f5c52810d", checked := Try.checked }
namespace Rows
def none {H : Type} : Left H := { results := [], args := [] }

/-- 'sacristylaw20.StampCompares': WHATEVER THE INPUT: true; the input reads as it did. -/
def stampComparesSpec : ChangeSpec := { name := "stampCompares", fn := fun _ => fun
  | [d1, d2, d3] => { results := [.lit (.bool true)], args := [d1, d2, d3] }
  | _ => none }
def stampComparesRow : OpenClaim := { program := "ytkkbpjkplnepiaa", sum := "0a8924b4f256841456dcadbbfc41c1ff79eb95aca6ad362d36ccaa2f5c52810d", func := "sacristy/sacristylaw20.StampCompares", spec := "stampCompares", unfollowed := true, recurses := true, apart := false }
def StampComparesSaid : Prop := stampComparesRow.holds Try.pinned (OpenSpec.ofChange stampComparesSpec)

/-- ITS FALSE NEIGHBOUR: 'it returns false'. Refute it at one input. -/
def stampComparesWrong : ChangeSpec := { name := "stampCompares", fn := fun _ => fun
  | [d1, d2, d3] => { results := [.lit (.bool false)], args := [d1, d2, d3] }
  | _ => none }
def StampComparesWrongFalsely : Prop := stampComparesRow.holds Try.pinned (OpenSpec.ofChange stampComparesWrong)

/-- 'sacristylaw20.StampVouches': WHATEVER THE INPUT: true; the input reads as it did. -/
def stampVouchesSpec : ChangeSpec := { name := "stampVouches", fn := fun _ => fun
  | [d1, d2] => { results := [.lit (.bool true)], args := [d1, d2] }
  | _ => none }
def stampVouchesRow : OpenClaim := { program := "ytkkbpjkplnepiaa", sum := "0a8924b4f256841456dcadbbfc41c1ff79eb95aca6ad362d36ccaa2f5c52810d", func := "sacristy/sacristylaw20.StampVouches", spec := "stampVouches", unfollowed := true, recurses := true, apart := false }
def StampVouchesSaid : Prop := stampVouchesRow.holds Try.pinned (OpenSpec.ofChange stampVouchesSpec)

/-- ITS FALSE NEIGHBOUR: 'it returns false'. Refute it at one input. -/
def stampVouchesWrong : ChangeSpec := { name := "stampVouches", fn := fun _ => fun
  | [d1, d2] => { results := [.lit (.bool false)], args := [d1, d2] }
  | _ => none }
def StampVouchesWrongFalsely : Prop := stampVouchesRow.holds Try.pinned (OpenSpec.ofChange stampVouchesWrong)

/-- 'sacristylaw20.StampSound': WHATEVER THE INPUT: true; the input reads as it did. -/
def stampSoundSpec : ChangeSpec := { name := "stampSound", fn := fun _ => fun
  | [d1, d2, d3] => { results := [.lit (.bool true)], args := [d1, d2, d3] }
  | _ => none }
def stampSoundRow : OpenClaim := { program := "ytkkbpjkplnepiaa", sum := "0a8924b4f256841456dcadbbfc41c1ff79eb95aca6ad362d36ccaa2f5c52810d", func := "sacristy/sacristylaw20.StampSound", spec := "stampSound", unfollowed := true, recurses := true, apart := false }
def StampSoundSaid : Prop := stampSoundRow.holds Try.pinned (OpenSpec.ofChange stampSoundSpec)

/-- ITS FALSE NEIGHBOUR: 'it returns false'. Refute it at one input. -/
def stampSoundWrong : ChangeSpec := { name := "stampSound", fn := fun _ => fun
  | [d1, d2, d3] => { results := [.lit (.bool false)], args := [d1, d2, d3] }
  | _ => none }
def StampSoundWrongFalsely : Prop := stampSoundRow.holds Try.pinned (OpenSpec.ofChange stampSoundWrong)

/-- 'sacristylaw20.StampLater': WHATEVER THE INPUT: true; the input reads as it did. -/
def stampLaterSpec : ChangeSpec := { name := "stampLater", fn := fun _ => fun
  | [d1, d2, d3] => { results := [.lit (.bool true)], args := [d1, d2, d3] }
  | _ => none }
def stampLaterRow : OpenClaim := { program := "ytkkbpjkplnepiaa", sum := "0a8924b4f256841456dcadbbfc41c1ff79eb95aca6ad362d36ccaa2f5c52810d", func := "sacristy/sacristylaw20.StampLater", spec := "stampLater", unfollowed := true, recurses := true, apart := false }
def StampLaterSaid : Prop := stampLaterRow.holds Try.pinned (OpenSpec.ofChange stampLaterSpec)

/-- ITS FALSE NEIGHBOUR: 'it returns false'. Refute it at one input. -/
def stampLaterWrong : ChangeSpec := { name := "stampLater", fn := fun _ => fun
  | [d1, d2, d3] => { results := [.lit (.bool false)], args := [d1, d2, d3] }
  | _ => none }
def StampLaterWrongFalsely : Prop := stampLaterRow.holds Try.pinned (OpenSpec.ofChange stampLaterWrong)

/- THE SECOND FORM. 'bulk': how many values and letters a reading holds, each counted each time it is reached (what is shared counts as often as it is met; a slice's spare places count too). A statement '..UptoSaid' is the law's where the arguments, and the package variables that the reading takes, are together of bulk at most 1048576: NARROWER than '..Said'. Prove '..Said' where nothing that the law and all that it calls make is longer than what came in: it says more and counts as full. Else prove '..UptoSaid'. A law counts once. -/
mutual
def uptoBulk {H : Type} : DataW H → Nat
  | .lit (.string bytes) => bytes.length + 1
  | .lit _ => 1
  | .nil => 1
  | .ptr d => uptoBulk d + 1
  | .slice elems spare => uptoBulkAll elems + uptoBulkAll spare + 1
  | .agg parts => uptoBulkAll parts + 1
  | .iface _ d => uptoBulk d + 1
  | .map entries => uptoBulkEntries entries + 1
  | .held _ => 1
def uptoBulkAll {H : Type} : List (DataW H) → Nat
  | [] => 0
  | d :: r => uptoBulk d + uptoBulkAll r
def uptoBulkEntries {H : Type} : List (Lit × DataW H) → Nat
  | [] => 0
  | x :: r => uptoBulkEntry x + uptoBulkEntries r
def uptoBulkEntry {H : Type} : Lit × DataW H → Nat
  | (.string bytes, d) => bytes.length + uptoBulk d + 1
  | (_, d) => uptoBulk d + 1
 end
def uptoSmall : (H : Type) → List (DataW H) → Bool := fun _ ds => decide (uptoBulkAll ds ≤ 1048576)
def OpenSpec.upto (s : _root_.Go.ChangeSpec) : _root_.Go.OpenSpec := { _root_.Go.OpenSpec.ofChange s with cond := some uptoSmall }

/-- 'sacristylaw20.StampCompares', WHERE WHAT IT READS IS OF BULK AT MOST 1048576: true; the input reads as it did. -/
def stampComparesUptoRow : OpenClaim := { program := "ytkkbpjkplnepiaa", sum := "0a8924b4f256841456dcadbbfc41c1ff79eb95aca6ad362d36ccaa2f5c52810d", func := "sacristy/sacristylaw20.StampCompares", spec := "stampCompares", unfollowed := true, recurses := true, apart := false, narrowed := true }
def StampComparesUptoSaid : Prop := stampComparesUptoRow.holds Try.pinned (OpenSpec.upto stampComparesSpec)

/-- 'sacristylaw20.StampVouches', WHERE WHAT IT READS IS OF BULK AT MOST 1048576: true; the input reads as it did. -/
def stampVouchesUptoRow : OpenClaim := { program := "ytkkbpjkplnepiaa", sum := "0a8924b4f256841456dcadbbfc41c1ff79eb95aca6ad362d36ccaa2f5c52810d", func := "sacristy/sacristylaw20.StampVouches", spec := "stampVouches", unfollowed := true, recurses := true, apart := false, narrowed := true }
def StampVouchesUptoSaid : Prop := stampVouchesUptoRow.holds Try.pinned (OpenSpec.upto stampVouchesSpec)

/-- 'sacristylaw20.StampSound', WHERE WHAT IT READS IS OF BULK AT MOST 1048576: true; the input reads as it did. -/
def stampSoundUptoRow : OpenClaim := { program := "ytkkbpjkplnepiaa", sum := "0a8924b4f256841456dcadbbfc41c1ff79eb95aca6ad362d36ccaa2f5c52810d", func := "sacristy/sacristylaw20.StampSound", spec := "stampSound", unfollowed := true, recurses := true, apart := false, narrowed := true }
def StampSoundUptoSaid : Prop := stampSoundUptoRow.holds Try.pinned (OpenSpec.upto stampSoundSpec)

/-- 'sacristylaw20.StampLater', WHERE WHAT IT READS IS OF BULK AT MOST 1048576: true; the input reads as it did. -/
def stampLaterUptoRow : OpenClaim := { program := "ytkkbpjkplnepiaa", sum := "0a8924b4f256841456dcadbbfc41c1ff79eb95aca6ad362d36ccaa2f5c52810d", func := "sacristy/sacristylaw20.StampLater", spec := "stampLater", unfollowed := true, recurses := true, apart := false, narrowed := true }
def StampLaterUptoSaid : Prop := stampLaterUptoRow.holds Try.pinned (OpenSpec.upto stampLaterSpec)

end Rows
end Go.Proofs.Ytkkbpjkplnepiaa
