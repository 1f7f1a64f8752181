/- Tables of calls: what the code does at some arguments, by runs. No condition. -/
import Derived.Test.YtphfjhpgcdmonaaGreatDoorK4A
import Derived.Test.YtphfjhpgcdmonaaGreatDoorMg2
namespace Go.Proofs.YtphfjhpgcdmonaaGreatDoor.Ef
open Go Go.RowKit Exe Ec Ed Ee Eb
set_option maxRecDepth 100000
noncomputable def tabSmall : Tab := [([(n (65521))], (.bool true))]
theorem tabSmall_ok : tabB run4 124 tabSmall = true := by decide +kernel
noncomputable def tabStep : Tab := [([(.agg #[(u 1966023127), (u 0), (u 0), (u 0)]), (.agg #[(u 65521), (u 0), (u 0), (u 0)]), (n (2))], (.bool true)),
  ([(.agg #[(u 1055500680322183127), (u 0), (u 0), (u 0)]), (.agg #[(u 1966023127), (u 0), (u 0), (u 0)]), (n (2))], (.bool true))]
theorem tabStep_ok : tabB run4 125 tabStep = true := by decide +kernel
noncomputable def tabLess : Tab := [([(.agg #[(u 1365547584), (u 0), (u 0), (u 0)]), (.agg #[(u 1), (u 0), (u 0), (u 0)]), (.agg #[(u 1966023127), (u 0), (u 0), (u 0)])], (.tuple #[(.agg #[(u 1365547583), (u 0), (u 0), (u 0)]), (n (0))])),
  ([(.agg #[(u 316543771439780984), (u 0), (u 0), (u 0)]), (.agg #[(u 1), (u 0), (u 0), (u 0)]), (.agg #[(u 1055500680322183127), (u 0), (u 0), (u 0)])], (.tuple #[(.agg #[(u 316543771439780983), (u 0), (u 0), (u 0)]), (n (0))]))]
theorem tabLess_ok : tabB run4 168 tabLess = true := by decide +kernel
noncomputable def tabMul : Tab := [([(.agg #[(u 1054101912), (u 0), (u 0), (u 0)]), (.agg #[(u 1054101912), (u 0), (u 0), (u 0)]), (.agg #[(u 1966023127), (u 0), (u 0), (u 0)])], (.tuple #[(.agg #[(u 717345431), (u 0), (u 0), (u 0)]), (n (0))])),
  ([(.agg #[(u 618621049060297669), (u 0), (u 0), (u 0)]), (.agg #[(u 618621049060297669), (u 0), (u 0), (u 0)]), (.agg #[(u 1055500680322183127), (u 0), (u 0), (u 0)])], (.tuple #[(.agg #[(u 606632860792959887), (u 0), (u 0), (u 0)]), (n (0))]))]
theorem tabMul_ok : tabB run4 127 tabMul = true := by decide +kernel
end Go.Proofs.YtphfjhpgcdmonaaGreatDoor.Ef
