/-
  DERIVED. GIVEN WITH THE SEED: THE CARDS: each row of YtphfjhpgcdmonaaGreatDoorRows.lean that lists a variable, with what it lists TIED to the program's text (the seventh form; the later family's looks); each row that meets fmt, with fmt's text TOLD by the authors' own Lean function (tested against real Go, not proved from fmt's source: count such statements apart). THE CARD IS WHAT COUNTS. Prove the row's statement (the work); the ties are given (YtphfjhpgcdmonaaGreatDoorTie.lean); close each card by the builder's one call (the guide's Derived/Test/ToyasCard.lean, 'card_holds'). Laid BY PROGRAM, IN A SANDBOX (cutbox-door.mjs). By AI agents, Wed Nov 11 2026. No macro, syntax, notation, axiom, sorry.
-/
import Derived.Test.YtphfjhpgcdmonaaGreatDoorRows
import GoSem.ClaimSeven
namespace Go.Proofs.YtphfjhpgcdmonaaGreatDoor
namespace Rows

/-- THE TIED CARD OF 'sacristylaw39.TraceNobody'. -/
def traceNobodyCard : Claim7 := { stood := { row := traceNobodyRow, standIns := [], harness := (true, "d74030ed069b0546b026fa9a77b541e240b1258adc22dab6245ad327462598ae"), looks := true }, kinds := [], alts := [], laidByText := true, laidKinds := [.data, .pinned], laidTests := true, laidLooks := .later }
def TraceNobodyCardSaid : Prop := Claim7.holds Tryz.pinned (.plain (OpenSpec.ofChange traceNobodySpec)) traceNobodyCard

/-- THE SECOND FORM's CARD OF 'sacristylaw39.TraceNobody'. -/
def traceNobodyUptoCard : Claim7 := { stood := { row := traceNobodyUptoRow, standIns := [], harness := (true, "d74030ed069b0546b026fa9a77b541e240b1258adc22dab6245ad327462598ae"), looks := true }, kinds := [], alts := [], laidByText := true, laidKinds := [.data, .pinned], laidTests := true, laidLooks := .later }
def TraceNobodyUptoCardSaid : Prop := Claim7.holds Tryz.pinned (.plain (OpenSpec.upto traceNobodySpec)) traceNobodyUptoCard
end Rows
end Go.Proofs.YtphfjhpgcdmonaaGreatDoor
