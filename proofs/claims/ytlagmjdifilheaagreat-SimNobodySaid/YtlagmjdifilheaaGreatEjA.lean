/- sim's own example comes out as it must, in any world. No condition. -/
import Derived.Test.YtlagmjdifilheaaGreatEiA
namespace Go.Proofs.YtlagmjdifilheaaGreat.Ef
open Go Go.RowKit Go.Shelf Exe
set_option maxRecDepth 100000
theorem awake_run : run5 8 [] Hp.none (fun v _ => eqW v (.bool true)) = true := by decide +kernel
theorem awake_any (w : World) : Calls Tryz.prog 8 #[] w fun e w' => e = .returned (.bool true) ∧ Below w.heap.size w w' := by
  rcases flat_eq (args := []) (v := .bool true) sound5 rfl rfl awake_run w with h | h
  · exact h.2
  · obtain ⟨w', h, _⟩ := h
    rw [enters_of Tryz.func8 (by kernel_rfl) rfl] at h
    cases h
end Go.Proofs.YtlagmjdifilheaaGreat.Ef
