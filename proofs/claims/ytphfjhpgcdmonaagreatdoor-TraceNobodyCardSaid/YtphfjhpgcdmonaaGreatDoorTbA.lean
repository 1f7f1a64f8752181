/- Tables of calls of rings: what the code does at some arguments, by runs. No condition. -/
import Derived.Test.YtphfjhpgcdmonaaGreatDoorK4A
import Derived.Test.YtphfjhpgcdmonaaGreatDoorMg2
namespace Go.Proofs.YtphfjhpgcdmonaaGreatDoor.Ef
open Go Go.RowKit Exe Ec Ed Ee Eb
set_option maxRecDepth 100000
def ring0 : List Value := [(u 1966023127), (u 0), (u 0), (u 0), (u 8197744676232863257), (u 1054101912), (u 0), (u 0), (u 0), (u 717345431), (u 0), (u 0), (u 0)]
def ring1 : List Value := [(u 1055500680322183127), (u 0), (u 0), (u 0), (u 17380199405207555097), (u 618621049060297669), (u 0), (u 0), (u 0), (u 606632860792959887), (u 0), (u 0), (u 0)]
noncomputable def ptabExp : PTab := [(ring0, [([(.agg #[(u 2), (u 0), (u 0), (u 0)]), (.agg #[(u 30006), (u 0), (u 0), (u 0)])], (.agg #[(u 1365547584), (u 0), (u 0), (u 0)])),
  ([(.agg #[(u 1365547584), (u 0), (u 0), (u 0)]), (.agg #[(u 65521), (u 0), (u 0), (u 0)])], (.agg #[(u 1), (u 0), (u 0), (u 0)]))]),
  (ring1, [([(.agg #[(u 2), (u 0), (u 0), (u 0)]), (.agg #[(u 536870938), (u 0), (u 0), (u 0)])], (.agg #[(u 316543771439780984), (u 0), (u 0), (u 0)])),
  ([(.agg #[(u 316543771439780984), (u 0), (u 0), (u 0)]), (.agg #[(u 1966023127), (u 0), (u 0), (u 0)])], (.agg #[(u 1), (u 0), (u 0), (u 0)]))])]
theorem ptabExp_ok : ptabB run4 90 235 ptabExp = true := by decide +kernel
end Go.Proofs.YtphfjhpgcdmonaaGreatDoor.Ef
