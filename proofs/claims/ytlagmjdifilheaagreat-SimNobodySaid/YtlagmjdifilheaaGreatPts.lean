/- A slice of structs of a number and a slice that comes in is a row of such. Conditions: its type is such a slice, each field one cell. -/
import Derived.Test.YtlagmjdifilheaaGreatArs
namespace Go.Proofs.YtlagmjdifilheaaGreat.Pts
open Go.ChangeShapes Go.WideShapes Go.ChangeAt Go.RowKit Go.Joins Go.Deep Go.WideElems
/-- A slice of such structs that came in. -/
def Parts (w : World) (v : Value) (n : Nat) : Prop :=
  (v = .slice none 0 0 ∧ n = 0) ∨ ∃ x cap, v = .slice (some x) n cap ∧ n ≤ maxLen ∧ ∀ i, i < n → ∃ ao len c, w.cell? ((x.add (i * 2)).add 1) = some (.slice ao len c)
theorem Parts.below {w w' : World} {v : Value} {n : Nat} (h : Parts w v n) (hb : Below w.heap.size w w') : Parts w' v n := by
  rcases h with h | ⟨x, cap, h1, h2, h4⟩
  · exact .inl h
  · refine .inr ⟨x, cap, h1, h2, fun i hi => ?_⟩
    obtain ⟨ao, len, c, a⟩ := h4 i hi
    exact ⟨ao, len, c, (hb.cell (World.block_lt_of_cell? _ _ a)).trans a⟩
theorem Parts.len {w : World} {v : Value} {n : Nat} (h : Parts w v n) : ∃ ao cap, v = .slice ao n cap ∧ n ≤ maxLen ∧ ∀ i, i < n → ∃ x, ao = some x ∧ ∃ a2 len c, w.cell? ((x.add (i * 2)).add 1) = some (.slice a2 len c) := by
  rcases h with ⟨rfl, rfl⟩ | ⟨x, cap, rfl, h2, h4⟩
  · exact ⟨none, 0, rfl, by decide, fun i h => by omega⟩
  · exact ⟨some x, cap, rfl, h2, fun i h => ⟨x, rfl, h4 i h⟩⟩
variable {H : Type} {enc : TypeId × Value → H} {P : Program} {w : World} {base : Nat} {spare : Nat → Bool} {held : Bool}
theorem one_part {e e1 : TypeId} {f0 f1 : Field} (he : P.underlying e = some (.struct #[f0, f1])) (hone : oneCellFields P #[f0, f1] = true) (t1 : P.underlying f1.type = some (.slice e1))
    (a : Addr) (n : Nat) (y : DataW H × List MemPlace) (h : (w.cells? base a 2).bind (DataW.trod enc P w base spare held n e) = some y) : ∃ ao len c, w.cell? (a.add 1) = some (.slice ao len c) := by
  rw [Option.bind_eq_some_iff] at h
  obtain ⟨cs, hcs, hy⟩ := h
  obtain ⟨_, hl, hc⟩ := World.cells?_some hcs
  obtain ⟨c0, c1, rfl⟩ : ∃ c0 c1, cs = [c0, c1] := by
    match cs, hl with
    | [c0, c1], _ => exact ⟨c0, c1, rfl⟩
  obtain ⟨y0, y1, n', _, _, h0, h1⟩ := trod_struct2 he hy
  obtain ⟨o0, k0⟩ := hone_of hone 0 f0 rfl
  obtain ⟨o1, k1⟩ := hone_of hone 1 f1 rfl
  have h1 : DataW.trod enc P w base spare held n' f1.type [c1] = some y1 := by simpa [o1, k1] using h1
  rcases DataW.trod_slice t1 h1 with ⟨hcs, _⟩ | ⟨x, l, c, elems, rest, n, _, hcs, _⟩
  · simp at hcs
    subst hcs
    exact ⟨none, 0, 0, hc 1 (by decide)⟩
  · simp at hcs
    subst hcs
    exact ⟨some x, l, c, hc 1 (by decide)⟩
theorem open_parts {r : Reach} {b0 : Nat} {t e e1 : TypeId} {f0 f1 : Field} {v : Value} {d : DataW H} {p : List MemPlace} (hs : P.underlying t = some (.slice e)) (he : P.underlying e = some (.struct #[f0, f1])) (hone : oneCellFields P #[f0, f1] = true) (hC : P.cellsOf e = 2)
    (t1 : P.underlying f1.type = some (.slice e1)) (hv : Value.okWide P w r b0 t v) (h : DataW.Trod enc P w base spare held t v d p) : ∃ n, Parts w v n := by
  obtain ⟨a, len, cap, rfl⟩ := okWide_slice hs hv
  obtain ⟨fuel, hf⟩ := h
  rcases DataW.trod_slice hs hf with ⟨hcs, _⟩ | ⟨x, l, c, elems, rest, n, _, hcs, _, _, hl, hm, hlen, hel, _, _⟩
  · simp [Value.cells] at hcs
    obtain ⟨rfl, rfl, rfl⟩ := hcs
    exact ⟨0, .inl ⟨rfl, rfl⟩⟩
  · simp [Value.cells] at hcs
    obtain ⟨rfl, rfl, rfl⟩ := hcs
    rw [hC] at hel
    refine ⟨len, .inr ⟨x, cap, rfl, by omega, fun i hi => ?_⟩⟩
    have h := hel i hi
    rw [List.getElem?_eq_getElem (by omega)] at h
    exact one_part he hone t1 _ n _ h
end Go.Proofs.YtlagmjdifilheaaGreat.Pts
