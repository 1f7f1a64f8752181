/- The statement StampSound's function returns true on any number, whatever servers hold and liars tell, and changes nothing that was there. Conditions: the two arrays have seven numbers. -/
import Derived.Test.YtkkbpjkplnepiaaSoundW
namespace Go.Proofs.Ytkkbpjkplnepiaa.Vou
open Go.RowKit
theorem sound_any (t : Int) (H L : List Int) (w : World) (hh : H.length = 7) (hl : L.length = 7) :
    Calls Try.prog 5 #[.int .i64 t, .agg (H.map (Value.int .i64)).toArray, .agg (L.map (Value.int .i64)).toArray] w fun e w' => e = .returned (.bool true) ∧ Below w.heap.size w w' := by
  rcases (show t % 2 = 0 ∨ t % 2 = 1 by omega) with h | h
  · exact sound_walk1 t H L w hh hl (by rw [i64_and1]; exact h)
  · exact sound_walk2 t H L w hh hl (by rw [i64_and1]; exact h)
end Go.Proofs.Ytkkbpjkplnepiaa.Vou
