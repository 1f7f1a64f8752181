/- Functions whose calls are told without their code: those that end in 'Below'. Condition: what is said of them. -/
import Derived.Test.YtlagmjdifilheaaGreatExW
namespace Go.Proofs.YtlagmjdifilheaaGreat.Exe
open Go Go.RowKit
section
variable {E : Env} {P : Program} {B : Nat → Prop} {w0 w w' : World} {h : Hp}
theorem WR.keep (W : WR E P B w0 w h) (hb : Below w.heap.size w w') : WR E P B w0 w' h := by
  refine ⟨W.below.trans ⟨hb.os, hb.tape, hb.output, hb.size, fun k hk _ => hb.block k hk⟩, W.base, fun i ob b hi hρ => ?_, W.inj, W.fresh⟩
  obtain ⟨o, h1, h2, h3⟩ := W.live i ob b hi hρ
  have hlt := (Array.getElem?_eq_some_iff.1 h2).1
  exact ⟨o, h1, (hb.block b hlt).trans h2, h3⟩
/-- A function of flat arguments that makes memory at most. -/
theorem calls_one {g : FuncId} {f : LeafF} (henter : ∀ args w, (callFunc g args).run P w = .ok (.enter g args) w)
    (hf : ∀ args h k, f args h k = true → ∃ v, k v h = true ∧ args.all flatB = true ∧ flatB v = true ∧ ∀ w, Calls P g args.toArray w fun e w' => e = .returned v ∧ Below w.heap.size w w') : OneSound P g f := by
  intro args h k hr
  obtain ⟨v, h1, h2, h3, h4⟩ := hf args h k hr
  refine ⟨v, h, h1, fun E w args' W hA => .inl ⟨henter _ _, ?_⟩⟩
  rw [flat_list hA h2]
  refine Calls.mono (h4 w) fun e w' he => ?_
  exact ⟨v, he.1, E, Grow.refl E h, .refl_flat h3, W.keep he.2⟩
end
end Go.Proofs.YtlagmjdifilheaaGreat.Exe
