/- The closed facts of the row TraceNobody, each by itself. No condition. -/
import Derived.Test.YtphfjhpgcdmonaaGreatDoorLoA
import Derived.Test.YtphfjhpgcdmonaaGreatDoorRows
import Derived.JoinedOf
import Derived.SevenTiedAt
import Derived.WalkKit
import Derived.ProofKit
namespace Go.Proofs.YtphfjhpgcdmonaaGreatDoor.traceNobody
open Go.ChangeShapes Go.WideShapes Go.ChangeAt Go.RowKit
set_option maxRecDepth 100000
theorem c_place : (Rows.traceNobodyRow.inPlace == Tryz.prog.inPlace 3) = true := by kernel_rfl
theorem c_unf : (Rows.traceNobodyRow.unfollowed == Tryz.prog.unfollowed 3) = true := by kernel_rfl
theorem c_rec : (Rows.traceNobodyRow.recurses == Tryz.prog.recurses 3) = true := by kernel_rfl
theorem c_named : (Rows.traceNobodyRow.named == Tryz.prog.varsNamed 3) = true := by kernel_rfl
theorem c_lift : (Rows.traceNobodyRow.lifted == Tryz.prog.liftsFinal) = true := by kernel_rfl
theorem closed : joinedFacts Tryz.prog 3 Tryz.f3 Rows.traceNobodySpec Rows.traceNobodyRow = true := by
  unfold joinedFacts
  rw [Lo.laidOut, Lo.mapsRow, c_place, c_unf, c_rec, c_named, c_lift]
  kernel_rfl
theorem c_wf : Rows.traceNobodyRow.wfByText (OpenSpec.ofChange Rows.traceNobodySpec) = true := by kernel_rfl
theorem c_main : Tryz.prog.mainIs = some (true, "d74030ed069b0546b026fa9a77b541e240b1258adc22dab6245ad327462598ae".toList) := by kernel_rfl
theorem c_looks : true = Tryz.prog.looks [] := by kernel_rfl
theorem c_goes : false = Rows.traceNobodyRow.goesBy Tryz.prog := by kernel_rfl
end Go.Proofs.YtphfjhpgcdmonaaGreatDoor.traceNobody
