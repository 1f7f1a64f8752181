/- A digest, by a run. No condition. -/
import Derived.Test.YtlagmjdifilheaaGreatEfA
namespace Go.Proofs.YtlagmjdifilheaaGreat.Ef
open Go Go.RowKit Exe Ec
set_option maxRecDepth 100000
noncomputable def tabSum3 : Tab := [([(S [174, 214, 12, 169, 150, 99, 37, 84, 82, 180, 24, 174, 152, 122, 2, 159, 206, 93, 140, 221, 164, 141, 86, 149, 8, 91, 203, 136, 99, 69, 42, 159, 54, 54, 54, 54, 54, 54, 54, 54, 54, 54, 54, 54, 54, 54, 54, 54, 54, 54, 54, 54, 54, 54, 54, 54, 54, 54, 54, 54, 54, 54, 54, 54, 5, 3, 4, 0, 0, 0, 1, 1, 107, 0, 0, 0, 0, 0, 1, 1, 0, 0, 20, 1, 2, 8, 6, 239, 121, 234, 116, 223, 233, 170, 8, 13, 96, 99, 117, 194, 221, 162, 83, 1, 11])], (S [106, 99, 37, 0, 42, 89, 173, 86, 15, 29, 151, 234, 100, 155, 79, 21, 197, 126, 139, 69, 167, 125, 106, 181, 8, 76, 88, 87, 225, 57, 87, 251]))]
theorem tabSum3_ok : tabB run4 157 tabSum3 = true := by decide +kernel
end Go.Proofs.YtlagmjdifilheaaGreat.Ef
