/- A call of flat arguments that ends in a flat value, told by a run over no memory: it does so in any world. Condition: that the executor is sound. -/
import Derived.Test.YtlagmjdifilheaaGreatExX
namespace Go.Proofs.YtlagmjdifilheaaGreat.Exe
open Go Go.RowKit
section
variable {P : Program} {B : Nat → Prop} {w0 : World} {F : CallC}
def Hp.none : Hp := ⟨.nil, 1⟩
theorem Hp.none_ob (i : Nat) : Hp.none.ob i = Option.none := by
  by_cases hi : i < roomN
  · rw [Hp.ob_eq hi]
    exact T4.get_nil _
  · exact Hp.ob_big hi
theorem WR.none (w : World) : WR ⟨fun _ => Option.none, fun _ => 0⟩ P (fun k => w.heap.size ≤ k) w w Hp.none :=
  ⟨Keep.refl _ _, fun _ hk => hk, fun i ob b h => (by rw [Hp.none_ob] at h; cases h), fun i j b h => (by rw [Hp.none_ob] at h; cases h), fun _ _ => rfl⟩
/-- A call that ends so in any world, and leaves all that was there as it was. -/
def FlatCall (P : Program) (g : FuncId) (args : List Value) (v : Value) : Prop := ∀ w : World, ((callFunc g args.toArray).run P w = .ok (.enter g args.toArray) w ∧ Calls P g args.toArray w fun e w' => e = .returned v ∧ Below w.heap.size w w') ∨
  (∃ w', (callFunc g args.toArray).run P w = .ok (.value v) w' ∧ w' = w)
theorem flat_self {E : Env} : ∀ {l : List Value}, l.all flatB = true → RelL E l l
  | [], _ => trivial
  | a :: l, h => by
    simp only [List.all_cons, Bool.and_eq_true] at h
    exact ⟨.refl_flat h.1, flat_self h.2⟩
theorem flat_call (hF : CallSound P F) {g : FuncId} {args : List Value} {v : Value} (ha : args.all flatB = true) (hv : flatB v = true) (hr : ∀ r : Value → Bool, F g args Hp.none (fun v _ => r v) = r v) : FlatCall P g args v := by
  intro w
  classical
  have h1 : F g args Hp.none (fun v' _ => decide (v' = v)) = true := by rw [hr fun v' => decide (v' = v)]; simp
  obtain ⟨v', h', hk, hS⟩ := hF g args Hp.none _ h1
  have hv' : v' = v := by simpa using hk
  subst hv'
  rcases hS _ w args (WR.none w) (flat_self ha) with ⟨h2, h3⟩ | ⟨x, h2, E', _, h4, h5⟩
  · refine .inl ⟨h2, Calls.mono h3 fun e w' he => ?_⟩
    obtain ⟨x, rfl, E', _, h4, h5⟩ := he
    exact ⟨by rw [h4.of_flat hv], h5.below.below⟩
  · exact .inr ⟨w, by rw [← h4.of_flat hv]; exact h2, rfl⟩
/-- A function that is known by such runs. -/
theorem flat_one {g : FuncId} {f : LeafF} (hf : ∀ args h k, f args h k = true → ∃ v, k v h = true ∧ args.all flatB = true ∧ flatB v = true ∧ FlatCall P g args v) : OneSound P g f := by
  intro args h k hr
  obtain ⟨v, h1, h2, h3, h4⟩ := hf args h k hr
  refine ⟨v, h, h1, fun E w args' W hA => ?_⟩
  rw [flat_list hA h2]
  rcases h4 w with ⟨h5, h6⟩ | ⟨w', h5, rfl⟩
  · refine .inl ⟨h5, Calls.mono h6 fun e w' he => ?_⟩
    exact ⟨v, he.1, E, Grow.refl E h, .refl_flat h3, W.keep he.2⟩
  · exact .inr ⟨v, h5, E, Grow.refl E h, .refl_flat h3, W⟩
end
end Go.Proofs.YtlagmjdifilheaaGreat.Exe
