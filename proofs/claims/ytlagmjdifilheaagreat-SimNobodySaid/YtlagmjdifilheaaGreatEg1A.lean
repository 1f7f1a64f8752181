/- A digest, by a run. No condition. -/
import Derived.Test.YtlagmjdifilheaaGreatEfA
namespace Go.Proofs.YtlagmjdifilheaaGreat.Ef
open Go Go.RowKit Exe Ec
set_option maxRecDepth 100000
noncomputable def tabSum1 : Tab := [([(S [69, 54, 54, 54, 54, 54, 54, 54, 54, 54, 54, 54, 54, 54, 54, 54, 54, 54, 54, 54, 54, 54, 54, 54, 54, 54, 54, 54, 54, 54, 54, 54, 54, 54, 54, 54, 54, 54, 54, 54, 54, 54, 54, 54, 54, 54, 54, 54, 54, 54, 54, 54, 54, 54, 54, 54, 54, 54, 54, 54, 54, 54, 54, 54, 107, 101, 121, 5, 3])], (S [203, 152, 118, 42, 9, 51, 24, 165, 89, 156, 202, 251, 66, 59, 87, 26, 146, 131, 20, 35, 73, 60, 71, 187, 123, 222, 171, 216, 222, 101, 102, 251]))]
theorem tabSum1_ok : tabB run4 157 tabSum1 = true := by decide +kernel
end Go.Proofs.YtlagmjdifilheaaGreat.Ef
