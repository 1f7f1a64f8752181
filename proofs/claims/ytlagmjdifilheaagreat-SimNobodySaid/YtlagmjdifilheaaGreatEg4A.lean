/- A digest, by a run. No condition. -/
import Derived.Test.YtlagmjdifilheaaGreatEfA
namespace Go.Proofs.YtlagmjdifilheaaGreat.Ef
open Go Go.RowKit Exe Ec
set_option maxRecDepth 100000
noncomputable def tabSum4 : Tab := [([(S [196, 188, 102, 195, 252, 9, 79, 62, 56, 222, 114, 196, 242, 16, 104, 245, 164, 55, 230, 183, 206, 231, 60, 255, 98, 49, 161, 226, 9, 47, 64, 245, 92, 92, 92, 92, 92, 92, 92, 92, 92, 92, 92, 92, 92, 92, 92, 92, 92, 92, 92, 92, 92, 92, 92, 92, 92, 92, 92, 92, 92, 92, 92, 92, 106, 99, 37, 0, 42, 89, 173, 86, 15, 29, 151, 234, 100, 155, 79, 21, 197, 126, 139, 69, 167, 125, 106, 181, 8, 76, 88, 87, 225, 57, 87, 251])], (S [218, 26, 63, 93, 191, 15, 65, 120, 88, 92, 219, 36, 168, 173, 57, 53, 6, 77, 57, 112, 241, 10, 63, 10, 0, 226, 175, 137, 118, 51, 96, 33]))]
theorem tabSum4_ok : tabB run4 157 tabSum4 = true := by decide +kernel
end Go.Proofs.YtlagmjdifilheaaGreat.Ef
