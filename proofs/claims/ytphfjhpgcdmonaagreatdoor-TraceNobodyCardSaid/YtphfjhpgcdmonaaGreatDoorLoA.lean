/- The program's types lie as they must; no knob of its own. No condition. -/
import Derived.Test.YtphfjhpgcdmonaaGreatDoorChecked
import Derived.WalkKit
import Derived.ChangeOld
import Derived.Below
namespace Go.Proofs.YtphfjhpgcdmonaaGreatDoor.Lo
open Go Go.RowKit
set_option maxRecDepth 100000
theorem own : ownKnob Tryz.prog.godebug = none := by kernel_rfl
theorem laidOut : laidOutB Tryz.prog = true := by kernel_rfl
theorem mapsRow : mapsRowed Tryz.prog = true := by kernel_rfl
end Go.Proofs.YtphfjhpgcdmonaaGreatDoor.Lo
