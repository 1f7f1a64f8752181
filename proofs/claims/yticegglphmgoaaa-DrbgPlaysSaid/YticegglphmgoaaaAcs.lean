/- A slice of structs of a number and two texts that comes in is a row of such. Conditions: its type is such a slice, each field one cell. -/
import Derived.Test.YticegglphmgoaaaArs
namespace Go.Proofs.Yticegglphmgoaaa.Acs
open Go.ChangeShapes Go.WideShapes Go.ChangeAt Go.RowKit Go.Joins Go.Deep Go.WideElems
/-- An element: a number, two texts. -/
abbrev Act3 := Int × List UInt8 × List UInt8
/-- A slice of such structs that came in. -/
def Acts (w : World) (v : Value) (l : List Act3) : Prop :=
  (v = .slice none 0 0 ∧ l = []) ∨ ∃ x cap, v = .slice (some x) l.length cap ∧ l.length ≤ maxLen ∧
    ∀ i n p q, l[i]? = some (n, p, q) → w.cell? ((x.add (i * 3)).add 0) = some (.int .i64 n) ∧ w.cell? ((x.add (i * 3)).add 1) = some (.string ⟨p.toArray⟩) ∧ w.cell? ((x.add (i * 3)).add 2) = some (.string ⟨q.toArray⟩)
theorem Acts.below {w w' : World} {v : Value} {l : List Act3} (h : Acts w v l) (hb : Below w.heap.size w w') : Acts w' v l := by
  rcases h with h | ⟨x, cap, h1, h2, h4⟩
  · exact .inl h
  · refine .inr ⟨x, cap, h1, h2, fun i n p q hs => ?_⟩
    obtain ⟨a, b, c⟩ := h4 i n p q hs
    exact ⟨(hb.cell (World.block_lt_of_cell? _ _ a)).trans a, (hb.cell (World.block_lt_of_cell? _ _ b)).trans b, (hb.cell (World.block_lt_of_cell? _ _ c)).trans c⟩
theorem Acts.len {w : World} {v : Value} {l : List Act3} (h : Acts w v l) : ∃ ao cap, v = .slice ao l.length cap ∧ l.length ≤ maxLen ∧ ∀ i n p q, l[i]? = some (n, p, q) → ∃ x, ao = some x ∧ x.block < w.heap.size ∧
    w.cell? ((x.add (i * 3)).add 0) = some (.int .i64 n) ∧ w.cell? ((x.add (i * 3)).add 1) = some (.string ⟨p.toArray⟩) ∧ w.cell? ((x.add (i * 3)).add 2) = some (.string ⟨q.toArray⟩) := by
  rcases h with ⟨rfl, rfl⟩ | ⟨x, cap, rfl, h2, h4⟩
  · exact ⟨none, 0, rfl, by decide, fun i n p q h => by simp at h⟩
  · refine ⟨some x, cap, rfl, h2, fun i n p q h => ⟨x, rfl, ?_, h4 i n p q h⟩⟩
    have := World.block_lt_of_cell? _ _ (h4 i n p q h).1
    rwa [Ars.add_block, Ars.add_block] at this
variable {H : Type} {enc : TypeId × Value → H} {P : Program} {w : World} {base : Nat} {spare : Nat → Bool} {held : Bool}
theorem one_act {e : TypeId} {f0 f1 f2 : Field} (he : P.underlying e = some (.struct #[f0, f1, f2])) (hone : oneCellFields P #[f0, f1, f2] = true) (t0 : P.underlying f0.type = some (.int .i64)) (t1 : P.underlying f1.type = some .string) (t2 : P.underlying f2.type = some .string)
    (a : Addr) (n : Nat) (y : DataW H × List MemPlace) (h : (w.cells? base a 3).bind (DataW.trod enc P w base spare held n e) = some y) :
    ∃ (i : Int) (p q : List UInt8), w.cell? (a.add 0) = some (.int .i64 i) ∧ w.cell? (a.add 1) = some (.string ⟨p.toArray⟩) ∧ w.cell? (a.add 2) = some (.string ⟨q.toArray⟩) := by
  rw [Option.bind_eq_some_iff] at h
  obtain ⟨cs, hcs, hy⟩ := h
  obtain ⟨_, hl, hc⟩ := World.cells?_some hcs
  obtain ⟨c0, c1, c2, rfl⟩ : ∃ c0 c1 c2, cs = [c0, c1, c2] := by
    match cs, hl with
    | [c0, c1, c2], _ => exact ⟨c0, c1, c2, rfl⟩
  obtain ⟨y0, y1, y2, n', _, _, h0, h1, h2⟩ := trod_struct3 he hy
  obtain ⟨o0, k0⟩ := hone_of hone 0 f0 rfl
  obtain ⟨o1, k1⟩ := hone_of hone 1 f1 rfl
  obtain ⟨o2, k2⟩ := hone_of hone 2 f2 rfl
  have h0 : DataW.trod enc P w base spare held n' f0.type [c0] = some y0 := by simpa [o0, k0] using h0
  have h1 : DataW.trod enc P w base spare held n' f1.type [c1] = some y1 := by simpa [o1, k1] using h1
  have h2 : DataW.trod enc P w base spare held n' f2.type [c2] = some y2 := by simpa [o2, k2] using h2
  obtain ⟨i, e0, _, _⟩ := DataW.trod_int t0 h0
  obtain ⟨p, e1, _, _⟩ := DataW.trod_string t1 h1
  obtain ⟨q, e2, _, _⟩ := DataW.trod_string t2 h2
  simp only [List.cons.injEq, and_true] at e0 e1 e2
  subst e0 e1 e2
  exact ⟨i, p.data.toList, q.data.toList, hc 0 (by decide), hc 1 (by decide), hc 2 (by decide)⟩
theorem open_acts {r : Reach} {b0 : Nat} {t e : TypeId} {f0 f1 f2 : Field} {v : Value} {d : DataW H} {p : List MemPlace} (hs : P.underlying t = some (.slice e)) (he : P.underlying e = some (.struct #[f0, f1, f2])) (hone : oneCellFields P #[f0, f1, f2] = true) (hC : P.cellsOf e = 3)
    (t0 : P.underlying f0.type = some (.int .i64)) (t1 : P.underlying f1.type = some .string) (t2 : P.underlying f2.type = some .string)
    (hv : Value.okWide P w r b0 t v) (h : DataW.Trod enc P w base spare held t v d p) : ∃ l, Acts w v l := by
  obtain ⟨a, len, cap, rfl⟩ := okWide_slice hs hv
  obtain ⟨fuel, hf⟩ := h
  rcases DataW.trod_slice hs hf with ⟨hcs, _⟩ | ⟨x, l, c, elems, rest, n, _, hcs, _, _, hl, hm, hlen, hel, _, _⟩
  · simp [Value.cells] at hcs
    obtain ⟨rfl, rfl, rfl⟩ := hcs
    exact ⟨[], .inl ⟨rfl, rfl⟩⟩
  · simp [Value.cells] at hcs
    obtain ⟨rfl, rfl, rfl⟩ := hcs
    rw [hC] at hel
    have each : ∀ i, i < len → ∃ (k : Int) (p q : List UInt8), w.cell? ((x.add (i * 3)).add 0) = some (.int .i64 k) ∧ w.cell? ((x.add (i * 3)).add 1) = some (.string ⟨p.toArray⟩) ∧ w.cell? ((x.add (i * 3)).add 2) = some (.string ⟨q.toArray⟩) := fun i hi => by
      have h := hel i hi
      rw [List.getElem?_eq_getElem (by omega)] at h
      exact one_act he hone t0 t1 t2 _ n _ h
    have all : ∀ m, m ≤ len → ∃ l : List Act3, l.length = m ∧ ∀ i n p q, l[i]? = some (n, p, q) → w.cell? ((x.add (i * 3)).add 0) = some (.int .i64 n) ∧ w.cell? ((x.add (i * 3)).add 1) = some (.string ⟨p.toArray⟩) ∧ w.cell? ((x.add (i * 3)).add 2) = some (.string ⟨q.toArray⟩) := by
      intro m
      induction m with
      | zero => exact fun _ => ⟨[], rfl, fun i n p q h => by simp at h⟩
      | succ m ih =>
        intro hm
        obtain ⟨l, hl, h⟩ := ih (by omega)
        obtain ⟨k, p, q, hh⟩ := each m (by omega)
        refine ⟨l ++ [(k, p, q)], by simp [hl], fun i n p' q' hi => ?_⟩
        rcases Nat.lt_trichotomy i m with h' | h' | h'
        · rw [List.getElem?_append_left (by omega)] at hi
          exact h i n p' q' hi
        · subst h'
          rw [List.getElem?_append_right (by omega), hl, Nat.sub_self] at hi
          simp only [List.getElem?_cons_zero, Option.some.injEq, Prod.mk.injEq] at hi
          obtain ⟨rfl, rfl, rfl⟩ := hi
          exact hh
        · rw [List.getElem?_eq_none (by simp; omega)] at hi
          cases hi
    obtain ⟨L, hL, hh⟩ := all len (Nat.le_refl _)
    exact ⟨L, .inr ⟨x, cap, by rw [hL], by omega, hh⟩⟩
end Go.Proofs.Yticegglphmgoaaa.Acs
