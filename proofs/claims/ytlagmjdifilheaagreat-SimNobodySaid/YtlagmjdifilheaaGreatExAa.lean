/- Functions whose calls are told without their code where that is known, and by their code elsewhere. No condition. -/
import Derived.Test.YtlagmjdifilheaaGreatExZ
namespace Go.Proofs.YtlagmjdifilheaaGreat.Exe
open Go Go.RowKit
section
variable {P : Program} {B : Nat → Prop} {w0 : World}
/-- A function that is told without its code where a test holds. -/
noncomputable def elseK (g : FuncId) (t : List Value → Hp → Bool) (f : LeafF) : NodeF := fun F args h q => Bool.rec (F g args h q) (f args h q) (t args h)
theorem elseK_ok {g : FuncId} {t : List Value → Hp → Bool} {f : LeafF} (hf : OneSound P g f) (F : CallC) (hF : CallSound P F) : OneSound P g (elseK g t f F) := by
  intro args h k hr
  have hr' : (Bool.rec (F g args h k) (f args h k) (t args h) : Bool) = true := hr
  cases ht : t args h with
  | true => rw [ht] at hr'; exact hf args h k hr'
  | false => rw [ht] at hr'; exact hF g args h k hr'
end
end Go.Proofs.YtlagmjdifilheaaGreat.Exe
