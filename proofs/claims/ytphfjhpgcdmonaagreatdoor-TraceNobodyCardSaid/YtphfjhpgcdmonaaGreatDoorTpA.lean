/- Whatever the step, a log that nobody made keeps nothing: the law, run by the executor. No condition. -/
import Derived.Test.YtphfjhpgcdmonaaGreatDoorTnA
namespace Go.Proofs.YtphfjhpgcdmonaaGreatDoor.Tn
open Go Go.RowKit Exe Ef
set_option maxRecDepth 100000
theorem nobody_run (kd a b : Int) (key val : ByteArray) (x y : Int) (bd tg : ByteArray) (r : Value → Bool) :
    run8 3 [stepV kd a b key val x y bd tg] Hp.none (fun v _ => r v) = Bool.rec (r (.bool true)) (r (.bool true)) (!(fewB key val bd tg)) := by kernel_rfl
theorem nobody_any (kd a b : Int) (key val : ByteArray) (x y : Int) (bd tg : ByteArray) (w : World) :
    Calls Tryz.prog 3 #[stepV kd a b key val x y bd tg] w fun e w' => e = .returned (.bool true) ∧ Below w.heap.size w w' :=
  calls_of (args := [stepV kd a b key val x y bd tg]) (flat_call sound8 rfl rfl (fun r => (nobody_run kd a b key val x y bd tg r).trans (by cases (!(fewB key val bd tg)) <;> rfl))) (Tryz.call3 _) w
end Go.Proofs.YtphfjhpgcdmonaaGreatDoor.Tn
