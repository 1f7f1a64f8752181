/- A region in the order of the text, its head walked quietly. Conditions: those that are named. -/
import Derived.Test.YticegglphmgoaaaCls
namespace Go.Proofs.Yticegglphmgoaaa.Pln
open Go Go.RowKit
section
variable {P : Program} {ops : Array Oper} {Q : Exit → Act → World → Prop} {C : World → Prop}
theorem list_quiet {l2 : List Oper} : ∀ (l1 : List Oper) (a : Act) (w : World), C w → wpQuiet P ops C (fun a' => ∀ w', C w' → wpList P ops Q l2 a' w') l1 a → wpList P ops Q (l1 ++ l2) a w
  | [], _, w, hC, h => h w hC
  | o :: l, a, w, hC, h => by
    rw [List.cons_append]
    unfold wpQuiet at h
    unfold wpList
    by_cases hw : Region.wanted o (yielded ops a.tmps) = true
    · rw [if_pos hw] at h ⊢
      exact .inl (Oper.wp_of_quiet hC (fun a' w' hC' hk => list_quiet l a' w' hC' hk) h)
    · rw [if_neg hw] at h ⊢
      exact list_quiet l _ w hC h
theorem region_plain {id : Nat} {a : Act} {w : World} {l : List Oper} (n : Nat)
    (h : wpQuiet P l.toArray (Cls.In (Cls.Kept w)) (fun a' => ∀ w', Below w.heap.size w w' → wpList P l.toArray Q (l.drop n) a' w') (l.take n) a) : (Code.region id l.toArray false).wp P Q a w := by
  refine wp_region_lit ?_
  have := list_quiet (Q := Q) (l2 := l.drop n) (l.take n) a w ⟨⟨w, Below.refl _ _⟩, rfl⟩ (Cls.quiet_mono' (fun a' ha w' ⟨x, hx⟩ => hx ▸ ha x.w x.ok) h)
  rwa [List.take_append_drop] at this
end
end Go.Proofs.Yticegglphmgoaaa.Pln
