/- An array of integers that comes in by value is a row of integers of its kind. Conditions: its type is an array of one-cell integers. -/
import Derived.WalkKit
import Derived.ProofKit
import Derived.OpenShut
import Derived.Lib.SmallJoins
namespace Go.Proofs.Yticegglphmgoaaa.Arr
open Go.ChangeShapes Go.WideShapes Go.ChangeAt Go.RowKit Go.Joins
variable {H : Type} {enc : TypeId × Value → H} {P : Program} {w : World} {base : Nat} {spare : Nat → Bool} {held : Bool}

theorem open_arr {r : Reach} {b0 : Nat} {t e : TypeId} {n : Nat} {k : IntKind} {v : Value} {d : DataW H} {p : List MemPlace} (hs : P.underlying t = some (.array n e)) (he : P.underlying e = some (.int k)) (hce : P.cellsOf e = 1) (hC : P.cellsOf t = n)
    (hv : Value.okWide P w r b0 t v) (h : DataW.Trod enc P w base spare held t v d p) :
    ∃ xs : List Int, v = .agg (xs.map (Value.int k)).toArray ∧ xs.length = n ∧ ∀ x ∈ xs, (Lit.int k x).wf = true := by
  simp only [Value.okWide, hs] at hv
  obtain ⟨cs, rfl, hsz, _⟩ := hv
  obtain ⟨fuel, hf⟩ := h
  obtain ⟨ys, m, rfl, hx, hcl, hyl, hall⟩ := DataW.trod_array hs hf
  have hcn : cs.toList.length = n := by simpa [Value.cells, hC] using hcl
  have key : ∀ i, i < n → ∃ x : Int, cs.toList[i]? = some (.int k x) ∧ (Lit.int k x).wf = true := by
    intro i hi
    have h1 := hall i hi
    rw [hce] at h1
    obtain ⟨y, hy⟩ : ∃ y, ys[i]? = some y := ⟨_, List.getElem?_eq_getElem (by omega)⟩
    rw [hy] at h1
    obtain ⟨x, h2, _, h3⟩ := DataW.trod_int he h1
    refine ⟨x, ?_, h3⟩
    have h4 : (cs.toList.drop (i * 1)).take 1 = [.int k x] := by simpa [Value.cells] using h2
    rw [Nat.mul_one] at h4
    have h5 := congrArg (·[0]?) h4
    simpa [List.getElem?_drop] using h5
  refine ⟨cs.toList.map (fun v => match v with | .int _ x => x | _ => 0), ?_, by simpa using hcn, ?_⟩
  · congr 1
    apply Array.ext'
    apply List.ext_getElem?
    intro i
    by_cases hi : i < n
    · obtain ⟨x, h1, _⟩ := key i hi
      simp only [List.map_map, List.getElem?_map, h1, Option.map_some, Function.comp]
    · rw [List.getElem?_eq_none (by omega), List.getElem?_eq_none (by simp at hcn ⊢; omega)]
  · intro x hx'
    obtain ⟨v, hv, rfl⟩ := List.mem_map.1 hx'
    obtain ⟨i, hi, hiv⟩ := List.mem_iff_getElem.1 hv
    obtain ⟨x, h1, h2⟩ := key i (by omega)
    rw [List.getElem?_eq_getElem hi, hiv] at h1
    obtain rfl := Option.some.inj h1
    exact h2
end Go.Proofs.Yticegglphmgoaaa.Arr
