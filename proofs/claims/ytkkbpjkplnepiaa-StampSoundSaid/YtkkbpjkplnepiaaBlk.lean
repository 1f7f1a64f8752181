/- Small laws on a block of memory that is known whole: its cells, a store into it, and what leaves it as it is. No conditions but those that are named. -/
import Derived.WalkKit
import Derived.Below
import Derived.Lib.Hide
import Derived.Laws.Rows
import Derived.Laws.MakeOwn
import Derived.Deep.Draws
namespace Go.Proofs.Ytkkbpjkplnepiaa.Blk
open Go Go.RowKit

/-- A block of the call's own holds these cells, and is not frozen. -/
def Is (w : World) (b : Nat) (cs : List Value) (t : TypeId) : Prop := w.heap[b]? = some (.cells cs.toArray t (0, 0))
/-- Whole numbers as cells. -/
def ints (k : IntKind) (xs : List Int) : List Value := xs.map (Value.int k)
theorem ints_length (k : IntKind) (xs : List Int) : (ints k xs).length = xs.length := by simp [ints]
theorem ints_at (k : IntKind) (xs : List Int) (i : Nat) (h : i < xs.length) : (ints k xs)[i]? = some (.int k (xs.getD i 0)) := by
  simp [ints, List.getD_eq_getElem?_getD, List.getElem?_eq_getElem h]
theorem ints_set (k : IntKind) (xs : List Int) (i : Nat) (v : Int) : (ints k xs).set i (.int k v) = ints k (xs.set i v) := by simp [ints, List.map_set]
theorem Is.lt {w : World} {b : Nat} {cs : List Value} {t : TypeId} (h : Is w b cs t) : b < w.heap.size := (Array.getElem?_eq_some_iff.1 h).1
theorem Is.cell {w : World} {b : Nat} {cs : List Value} {t : TypeId} (h : Is w b cs t) (i : Nat) : w.cell? ⟨b, i, none⟩ = cs[i]? := by
  unfold Is at h
  simp [World.cell?, h]
theorem Is.frozen {w : World} {b : Nat} {cs : List Value} {t : TypeId} (h : Is w b cs t) (i : Nat) : w.frozen? ⟨b, i, none⟩ = false := by
  unfold Is at h
  simp [World.frozen?, h]
theorem Is.int {w : World} {b : Nat} {k : IntKind} {xs : List Int} {t : TypeId} (h : Is w b (ints k xs) t) (i : Nat) (hi : i < xs.length) : w.cell? ⟨b, i, none⟩ = some (.int k (xs.getD i 0)) := by
  rw [h.cell, ints_at k xs i hi]
theorem new (w : World) (cs : List Value) (t : TypeId) : Is (w.alloc (.cells cs.toArray t)) w.heap.size cs t := by
  show (w.heap.push (.cells cs.toArray t))[w.heap.size]? = _
  simp
theorem Is.alloc {w : World} {b : Nat} {cs : List Value} {t : TypeId} (h : Is w b cs t) (o : Obj) : Is (w.alloc o) b cs t := by
  have hb := h.lt
  unfold Is at h ⊢
  rw [Below.heap_alloc w o b hb]
  exact h
theorem Is.drew {w : World} {b : Nat} {cs : List Value} {t : TypeId} (h : Is w b cs t) : Is w.drew b cs t := h
theorem Is.drewN {w : World} {b : Nat} {cs : List Value} {t : TypeId} (h : Is w b cs t) (n : Nat) : Is (w.drewN n) b cs t := h
theorem Is.set {w : World} {b : Nat} {cs : List Value} {t : TypeId} (h : Is w b cs t) (i : Nat) (v : Value) : Is (w.setCell ⟨b, i, none⟩ v) b (cs.set i v) t := by
  have hb := h.lt
  unfold Is at h ⊢
  simp only [World.setCell, Array.getElem?_modify, if_true, h, Option.map_some, Option.isSome_none, Bool.false_eq_true, if_false]
  simp
theorem Is.setInt {w : World} {b : Nat} {k : IntKind} {xs : List Int} {t : TypeId} (h : Is w b (ints k xs) t) (i : Nat) (v : Int) : Is (w.setCell ⟨b, i, none⟩ (.int k v)) b (ints k (xs.set i v)) t := by
  rw [← ints_set]
  exact h.set i _
theorem Is.other {w : World} {b : Nat} {cs : List Value} {t : TypeId} (h : Is w b cs t) {a : Addr} (ha : b ≠ a.block) (v : Value) : Is (w.setCell a v) b cs t := by
  unfold Is at h ⊢
  rw [Below.heap_setCell w a v b ha]
  exact h
theorem Is.keep {w w' : World} {B b : Nat} {cs : List Value} {t : TypeId} (h : Is w b cs t) (hb : Below B w w') (hlt : b < B) : Is w' b cs t := by
  unfold Is at h ⊢
  rw [hb.block b hlt]
  exact h
theorem Is.below {w w' : World} {b : Nat} {cs : List Value} {t : TypeId} (h : Is w b cs t) (hb : Below w.heap.size w w') : Is w' b cs t := h.keep hb h.lt
theorem made_ints (k : IntKind) (m : Nat) : madeCells #[Value.int k 0] m = (ints k (List.replicate m 0)).toArray := by
  apply Array.ext'
  apply List.ext_getElem
  · simp [ints, madeCells]
  · intro i h1 h2
    simp [ints, madeCells, Nat.mod_one]
theorem cell_below {w w' : World} (hb : Below w.heap.size w w') {a : Addr} {v : Value} (hc : w.cell? a = some v) : w'.cell? a = some v := (hb.cell (World.block_lt_of_cell? w a hc)).trans hc
/-- A guarded operation whose guard wants it goes as one without a guard. -/
theorem unguard {P : Program} {ops : Array Oper} {rest : List Oper} {o : Oper} {a : Act} {Q : Exit → Act → World → Prop} {W : World} (hw : Region.wanted o (yielded ops a.tmps) = true)
    (h : wpList P ops Q ({ o with guard := none } :: rest) a W) : wpList P ops Q (o :: rest) a W := by
  have h1 : Region.wanted { o with guard := none } (yielded ops a.tmps) = true := rfl
  unfold wpList at h ⊢
  rw [if_pos h1] at h
  rw [if_pos hw]
  exact h
/-- A whole array is read out of a block that is known. -/
theorem load_row {P : Program} {ops : Array Oper} {rest : List Oper} {o : Oper} {a : Act} {w : World} {Q : Exit → Act → World → Prop} (ty : TypeId) (x : Operand) (ho : o.op = .load ty x) (hw : Region.wanted o (yielded ops a.tmps) = true)
    (g : Nat) (hx : a.eval x = .pointer (some ⟨g, 0, none⟩)) (t : TypeId) (cs : List Value) (d : TypeDesc) (hg : Is w g cs t)
    (hu : P.underlying ty = some d) (hd : (match d with | .struct _ | .array _ _ => true | _ => false) = true) (hi : (P.info? ty).map (·.size) = some cs.length)
    (h : wpList P ops Q rest (a.put o.dst (.agg cs.toArray)) w) : wpList P ops Q (o :: rest) a w :=
  unguard hw (wpList_load_row rfl ty x ho g hx t cs.toArray (0, 0) d hg hu hd (by simpa using hi) h)
end Go.Proofs.Ytkkbpjkplnepiaa.Blk
