/-
  No cell of these rows narrows 'for every input' (looked for: loops, veiled, ifaces, maps, wideKeys, modest, calm, conditions, laid).
  DERIVED. THE GIVEN ROWS OF THIS SEAT. 4 by the template 'for every input the law returns true; each argument reads behind the call as it read before'; 0 by the template 'total and deterministic' (their statements: YtagjgofnaplefaaTotals.lean).
  GIVEN WITH THE SEED: the statements are not yours to turn. If you find one false, say at which input.
  Laid BY PROGRAM, IN A SANDBOX (cutbox-rows.mjs): the forced cells as the released guide's own fill.sh prints them over the translation 603f19ca13912ccf… (all of the seat's roots in one cut). By AI agents, Wed Nov 11 2026. No macro, syntax, notation, axiom, sorry.
-/
import Derived.Test.YtagjgofnaplefaaChecked
import GoSem.Claim
import GoSem.ClaimJoined
import GoSem.ClaimMapViews
import Derived.JoinedTies
import Derived.KernelRfl
namespace Go.Proofs.Ytagjgofnaplefaa
/- THE CELL 'sum', in the pinned program and in every row, IS THE sha256 OF THE DUMP (.gsa) THAT YtagjgofnaplefaaProg.lean LOADS. Nothing in Lean hashes anything: it is a label: what it is worth is what the hold of that sum in a sandbox is worth. -/
noncomputable def Try.pinned : Pinned := { name := "ytagjgofnaplefaa", sum := "603f19ca13912ccfa9258fdaf0e757fc06a2a5da9c68a6bf07dbc5017edae691", checked := Try.checked }
namespace Rows
def none {H : Type} : Left H := { results := [], args := [] }

/-- 'sacristylaw17.WeighTotal': WHATEVER THE INPUT: true; the input reads as it did. -/
def weighTotalSpec : ChangeSpec := { name := "weighTotal", fn := fun _ => fun
  | [d1, d2, d3] => { results := [.lit (.bool true)], args := [d1, d2, d3] }
  | _ => none }
def weighTotalRow : OpenClaim := { program := "ytagjgofnaplefaa", sum := "603f19ca13912ccfa9258fdaf0e757fc06a2a5da9c68a6bf07dbc5017edae691", func := "sacristy/sacristylaw17.WeighTotal", spec := "weighTotal", inPlace := ["math.Float64frombits", "math.Float64bits"], unfollowed := true, recurses := true, apart := false }
def WeighTotalSaid : Prop := weighTotalRow.holds Try.pinned (OpenSpec.ofChange weighTotalSpec)

/-- ITS FALSE NEIGHBOUR: 'it returns false'. Refute it at one input. -/
def weighTotalWrong : ChangeSpec := { name := "weighTotal", fn := fun _ => fun
  | [d1, d2, d3] => { results := [.lit (.bool false)], args := [d1, d2, d3] }
  | _ => none }
def WeighTotalWrongFalsely : Prop := weighTotalRow.holds Try.pinned (OpenSpec.ofChange weighTotalWrong)

/-- 'sacristylaw17.WeighCompares': WHATEVER THE INPUT: true; the input reads as it did. -/
def weighComparesSpec : ChangeSpec := { name := "weighCompares", fn := fun _ => fun
  | [d1, d2] => { results := [.lit (.bool true)], args := [d1, d2] }
  | _ => none }
def weighComparesRow : OpenClaim := { program := "ytagjgofnaplefaa", sum := "603f19ca13912ccfa9258fdaf0e757fc06a2a5da9c68a6bf07dbc5017edae691", func := "sacristy/sacristylaw17.WeighCompares", spec := "weighCompares", inPlace := ["math.Float64frombits", "math.Float64bits"], unfollowed := true, recurses := true, apart := false }
def WeighComparesSaid : Prop := weighComparesRow.holds Try.pinned (OpenSpec.ofChange weighComparesSpec)

/-- ITS FALSE NEIGHBOUR: 'it returns false'. Refute it at one input. -/
def weighComparesWrong : ChangeSpec := { name := "weighCompares", fn := fun _ => fun
  | [d1, d2] => { results := [.lit (.bool false)], args := [d1, d2] }
  | _ => none }
def WeighComparesWrongFalsely : Prop := weighComparesRow.holds Try.pinned (OpenSpec.ofChange weighComparesWrong)

/-- 'sacristylaw17.WeighOrders': WHATEVER THE INPUT: true; the input reads as it did. -/
def weighOrdersSpec : ChangeSpec := { name := "weighOrders", fn := fun _ => fun
  | [d] => { results := [.lit (.bool true)], args := [d] }
  | _ => none }
def weighOrdersRow : OpenClaim := { program := "ytagjgofnaplefaa", sum := "603f19ca13912ccfa9258fdaf0e757fc06a2a5da9c68a6bf07dbc5017edae691", func := "sacristy/sacristylaw17.WeighOrders", spec := "weighOrders", inPlace := ["math.Float64frombits", "math.Float64bits"], unfollowed := true, recurses := true, apart := false }
def WeighOrdersSaid : Prop := weighOrdersRow.holds Try.pinned (OpenSpec.ofChange weighOrdersSpec)

/-- ITS FALSE NEIGHBOUR: 'it returns false'. Refute it at one input. -/
def weighOrdersWrong : ChangeSpec := { name := "weighOrders", fn := fun _ => fun
  | [d] => { results := [.lit (.bool false)], args := [d] }
  | _ => none }
def WeighOrdersWrongFalsely : Prop := weighOrdersRow.holds Try.pinned (OpenSpec.ofChange weighOrdersWrong)

/-- 'sacristylaw17.WeighSteps': WHATEVER THE INPUT: true; the input reads as it did. -/
def weighStepsSpec : ChangeSpec := { name := "weighSteps", fn := fun _ => fun
  | [d1, d2] => { results := [.lit (.bool true)], args := [d1, d2] }
  | _ => none }
def weighStepsRow : OpenClaim := { program := "ytagjgofnaplefaa", sum := "603f19ca13912ccfa9258fdaf0e757fc06a2a5da9c68a6bf07dbc5017edae691", func := "sacristy/sacristylaw17.WeighSteps", spec := "weighSteps", inPlace := ["math.Float64frombits", "math.Float64bits"], unfollowed := true, recurses := true, apart := false }
def WeighStepsSaid : Prop := weighStepsRow.holds Try.pinned (OpenSpec.ofChange weighStepsSpec)

/-- ITS FALSE NEIGHBOUR: 'it returns false'. Refute it at one input. -/
def weighStepsWrong : ChangeSpec := { name := "weighSteps", fn := fun _ => fun
  | [d1, d2] => { results := [.lit (.bool false)], args := [d1, d2] }
  | _ => none }
def WeighStepsWrongFalsely : Prop := weighStepsRow.holds Try.pinned (OpenSpec.ofChange weighStepsWrong)

/- THE SECOND FORM. 'bulk': how many values and letters a reading holds, each counted each time it is reached (what is shared counts as often as it is met; a slice's spare places count too). A statement '..UptoSaid' is the law's where the arguments, and the package variables that the reading takes, are together of bulk at most 1048576: NARROWER than '..Said'. Prove '..Said' where nothing that the law and all that it calls make is longer than what came in: it says more and counts as full. Else prove '..UptoSaid'. A law counts once. -/
mutual
def uptoBulk {H : Type} : DataW H → Nat
  | .lit (.string bytes) => bytes.length + 1
  | .lit _ => 1
  | .nil => 1
  | .ptr d => uptoBulk d + 1
  | .slice elems spare => uptoBulkAll elems + uptoBulkAll spare + 1
  | .agg parts => uptoBulkAll parts + 1
  | .iface _ d => uptoBulk d + 1
  | .map entries => uptoBulkEntries entries + 1
  | .held _ => 1
def uptoBulkAll {H : Type} : List (DataW H) → Nat
  | [] => 0
  | d :: r => uptoBulk d + uptoBulkAll r
def uptoBulkEntries {H : Type} : List (Lit × DataW H) → Nat
  | [] => 0
  | x :: r => uptoBulkEntry x + uptoBulkEntries r
def uptoBulkEntry {H : Type} : Lit × DataW H → Nat
  | (.string bytes, d) => bytes.length + uptoBulk d + 1
  | (_, d) => uptoBulk d + 1
 end
def uptoSmall : (H : Type) → List (DataW H) → Bool := fun _ ds => decide (uptoBulkAll ds ≤ 1048576)
def OpenSpec.upto (s : _root_.Go.ChangeSpec) : _root_.Go.OpenSpec := { _root_.Go.OpenSpec.ofChange s with cond := some uptoSmall }

/-- 'sacristylaw17.WeighTotal', WHERE WHAT IT READS IS OF BULK AT MOST 1048576: true; the input reads as it did. -/
def weighTotalUptoRow : OpenClaim := { program := "ytagjgofnaplefaa", sum := "603f19ca13912ccfa9258fdaf0e757fc06a2a5da9c68a6bf07dbc5017edae691", func := "sacristy/sacristylaw17.WeighTotal", spec := "weighTotal", inPlace := ["math.Float64frombits", "math.Float64bits"], unfollowed := true, recurses := true, apart := false, narrowed := true }
def WeighTotalUptoSaid : Prop := weighTotalUptoRow.holds Try.pinned (OpenSpec.upto weighTotalSpec)

/-- 'sacristylaw17.WeighCompares', WHERE WHAT IT READS IS OF BULK AT MOST 1048576: true; the input reads as it did. -/
def weighComparesUptoRow : OpenClaim := { program := "ytagjgofnaplefaa", sum := "603f19ca13912ccfa9258fdaf0e757fc06a2a5da9c68a6bf07dbc5017edae691", func := "sacristy/sacristylaw17.WeighCompares", spec := "weighCompares", inPlace := ["math.Float64frombits", "math.Float64bits"], unfollowed := true, recurses := true, apart := false, narrowed := true }
def WeighComparesUptoSaid : Prop := weighComparesUptoRow.holds Try.pinned (OpenSpec.upto weighComparesSpec)

/-- 'sacristylaw17.WeighOrders', WHERE WHAT IT READS IS OF BULK AT MOST 1048576: true; the input reads as it did. -/
def weighOrdersUptoRow : OpenClaim := { program := "ytagjgofnaplefaa", sum := "603f19ca13912ccfa9258fdaf0e757fc06a2a5da9c68a6bf07dbc5017edae691", func := "sacristy/sacristylaw17.WeighOrders", spec := "weighOrders", inPlace := ["math.Float64frombits", "math.Float64bits"], unfollowed := true, recurses := true, apart := false, narrowed := true }
def WeighOrdersUptoSaid : Prop := weighOrdersUptoRow.holds Try.pinned (OpenSpec.upto weighOrdersSpec)

/-- 'sacristylaw17.WeighSteps', WHERE WHAT IT READS IS OF BULK AT MOST 1048576: true; the input reads as it did. -/
def weighStepsUptoRow : OpenClaim := { program := "ytagjgofnaplefaa", sum := "603f19ca13912ccfa9258fdaf0e757fc06a2a5da9c68a6bf07dbc5017edae691", func := "sacristy/sacristylaw17.WeighSteps", spec := "weighSteps", inPlace := ["math.Float64frombits", "math.Float64bits"], unfollowed := true, recurses := true, apart := false, narrowed := true }
def WeighStepsUptoSaid : Prop := weighStepsUptoRow.holds Try.pinned (OpenSpec.upto weighStepsSpec)

end Rows
end Go.Proofs.Ytagjgofnaplefaa
