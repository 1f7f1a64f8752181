/- A slice of texts that comes in is a row of texts. Conditions: its type is a slice of strings of one cell. -/
import Derived.WalkKit
import Derived.ProofKit
import Derived.OpenShut
import Derived.Lib.SmallJoins
import Derived.SliceStrings
namespace Go.Proofs.YtphfjhpgcdmonaaGreatDoor.Ars
open Go.ChangeShapes Go.WideShapes Go.ChangeAt Go.RowKit Go.Joins
/-- A slice of texts that came in. -/
def Strs (w : World) (v : Value) (ss : List (List UInt8)) : Prop :=
  (v = .slice none 0 0 ∧ ss = []) ∨ ∃ x cap, v = .slice (some x) ss.length cap ∧ ss.length ≤ maxLen ∧ ∀ i s, ss[i]? = some s → w.cell? (x.add i) = some (.string ⟨s.toArray⟩)
theorem add_block (x : Addr) (i : Nat) : (x.add i).block = x.block := by by_cases h0 : i = 0 <;> simp [Addr.add, h0]
theorem Strs.below {w w' : World} {v : Value} {ss : List (List UInt8)} (h : Strs w v ss) (hb : Below w.heap.size w w') : Strs w' v ss := by
  rcases h with h | ⟨x, cap, h1, h2, h4⟩
  · exact .inl h
  · exact .inr ⟨x, cap, h1, h2, fun i s hs => (hb.cell (World.block_lt_of_cell? _ _ (h4 i s hs))).trans (h4 i s hs)⟩
theorem Strs.parts {w : World} {v : Value} {ss : List (List UInt8)} (h : Strs w v ss) : ∃ ao cap, v = .slice ao ss.length cap ∧ ss.length ≤ maxLen ∧ ∀ i s, ss[i]? = some s → ∃ x, ao = some x ∧ x.block < w.heap.size ∧ w.cell? (x.add i) = some (.string ⟨s.toArray⟩) := by
  rcases h with ⟨rfl, rfl⟩ | ⟨x, cap, rfl, h2, h4⟩
  · exact ⟨none, 0, rfl, by decide, fun i s h => by simp at h⟩
  · exact ⟨some x, cap, rfl, h2, fun i s h => ⟨x, rfl, by rw [← add_block x i]; exact World.block_lt_of_cell? _ _ (h4 i s h), h4 i s h⟩⟩
variable {H : Type} {enc : TypeId × Value → H} {P : Program} {w : World} {base : Nat} {spare : Nat → Bool} {held : Bool}
theorem open_strs {r : Reach} {b0 : Nat} {t e : TypeId} {v : Value} {d : DataW H} {p : List MemPlace} (hs : P.underlying t = some (.slice e)) (he : P.underlying e = some .string) (hce : P.cellsOf e = 1)
    (hv : Value.okWide P w r b0 t v) (h : DataW.Trod enc P w base spare held t v d p) : ∃ ss, Strs w v ss := by
  obtain ⟨a, len, cap, rfl⟩ := okWide_slice hs hv
  obtain ⟨fuel, hf⟩ := h
  rcases open_strings hs he hce hf with ⟨hcs, _⟩ | ⟨x, l, c, ss, hcs, _, hl, hm, hz, _, hcell, _⟩
  · simp [Value.cells] at hcs
    obtain ⟨rfl, rfl, rfl⟩ := hcs
    exact ⟨[], .inl ⟨rfl, rfl⟩⟩
  · simp [Value.cells] at hcs
    obtain ⟨rfl, rfl, rfl⟩ := hcs
    have hlen : len ≤ ss.length := by rw [hz]; split <;> omega
    refine ⟨(ss.take len).map fun s => s.data.toList, .inr ⟨x, cap, by rw [List.length_map, List.length_take, Nat.min_eq_left hlen], by rw [List.length_map, List.length_take]; omega, fun i s hi => ?_⟩⟩
    rw [List.getElem?_map] at hi
    cases hq : (ss.take len)[i]? with
    | none => rw [hq] at hi; cases hi
    | some u =>
      rw [hq] at hi
      simp only [Option.map_some, Option.some.injEq] at hi
      subst hi
      have hil : i < len := by
        have := (List.getElem?_eq_some_iff.1 hq).1
        rw [List.length_take] at this
        omega
      rw [List.getElem?_take_of_lt hil] at hq
      rw [hcell i (by omega), List.getD_eq_getElem?_getD, hq]
      rfl
end Go.Proofs.YtphfjhpgcdmonaaGreatDoor.Ars
