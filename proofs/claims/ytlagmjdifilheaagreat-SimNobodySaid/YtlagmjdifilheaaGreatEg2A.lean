/- A digest, by a run. No condition. -/
import Derived.Test.YtlagmjdifilheaaGreatEfA
namespace Go.Proofs.YtlagmjdifilheaaGreat.Ef
open Go Go.RowKit Exe Ec
set_option maxRecDepth 100000
noncomputable def tabSum2 : Tab := [([(S [47, 92, 92, 92, 92, 92, 92, 92, 92, 92, 92, 92, 92, 92, 92, 92, 92, 92, 92, 92, 92, 92, 92, 92, 92, 92, 92, 92, 92, 92, 92, 92, 92, 92, 92, 92, 92, 92, 92, 92, 92, 92, 92, 92, 92, 92, 92, 92, 92, 92, 92, 92, 92, 92, 92, 92, 92, 92, 92, 92, 92, 92, 92, 92, 203, 152, 118, 42, 9, 51, 24, 165, 89, 156, 202, 251, 66, 59, 87, 26, 146, 131, 20, 35, 73, 60, 71, 187, 123, 222, 171, 216, 222, 101, 102, 251])], (S [152, 224, 58, 159, 160, 85, 19, 98, 100, 130, 46, 152, 174, 76, 52, 169, 248, 107, 186, 235, 146, 187, 96, 163, 62, 109, 253, 190, 85, 115, 28, 169]))]
theorem tabSum2_ok : tabB run4 157 tabSum2 = true := by decide +kernel
end Go.Proofs.YtlagmjdifilheaaGreat.Ef
