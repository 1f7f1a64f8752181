/- trace's own example comes out as it must, in any world. No condition. -/
import Derived.Test.YtphfjhpgcdmonaaGreatDoorTdA
namespace Go.Proofs.YtphfjhpgcdmonaaGreatDoor.Ef
open Go Go.RowKit Exe
set_option maxRecDepth 100000
theorem awake_run : run7 5 [] Hp.none (fun v _ => eqW v (.bool true)) = true := by decide +kernel
end Go.Proofs.YtphfjhpgcdmonaaGreatDoor.Ef
