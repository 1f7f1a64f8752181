/- Small laws on a block of memory that is known whole: its cells, a store into it, and what leaves it as it is. No conditions but those that are named. -/
import Derived.WalkKit
import Derived.Below
import Derived.Lib.Hide
import Derived.Laws.Tables
import Derived.Deep.MidRow
import Derived.Deep.Quiet
import Derived.Laws.Rows
import Derived.Laws.MakeOwn
import Derived.Deep.Draws
namespace Go.Proofs.YtphfjhpgcdmonaaGreatDoor.Blk
open Go Go.RowKit

/-- A block of the call's own holds these cells, and is not frozen. -/
def Is (w : World) (b : Nat) (cs : List Value) (t : TypeId) : Prop := w.heap[b]? = some (.cells cs.toArray t (0, 0))
/-- Whole numbers as cells. -/
def ints (k : IntKind) (xs : List Int) : List Value := xs.map (Value.int k)
theorem ints_length (k : IntKind) (xs : List Int) : (ints k xs).length = xs.length := by simp [ints]
theorem ints_at (k : IntKind) (xs : List Int) (i : Nat) (h : i < xs.length) : (ints k xs)[i]? = some (.int k (xs.getD i 0)) := by
  simp [ints, List.getD_eq_getElem?_getD, List.getElem?_eq_getElem h]
theorem ints_set (k : IntKind) (xs : List Int) (i : Nat) (v : Int) : (ints k xs).set i (.int k v) = ints k (xs.set i v) := by simp [ints, List.map_set]
/-- Natural numbers as cells. -/
def nats (k : IntKind) (xs : List Nat) : List Value := xs.map fun x : Nat => Value.int k (x : Int)
theorem nats_length (k : IntKind) (xs : List Nat) : (nats k xs).length = xs.length := by simp [nats]
theorem nats_at (k : IntKind) (xs : List Nat) (i : Nat) (h : i < xs.length) : (nats k xs)[i]? = some (.int k ((xs.getD i 0 : Nat) : Int)) := by
  simp [nats, List.getD_eq_getElem?_getD, List.getElem?_eq_getElem h]
theorem nats_set (k : IntKind) (xs : List Nat) (i v : Nat) : (nats k xs).set i (.int k (v : Int)) = nats k (xs.set i v) := by simp [nats, List.map_set]
theorem Is.lt {w : World} {b : Nat} {cs : List Value} {t : TypeId} (h : Is w b cs t) : b < w.heap.size := (Array.getElem?_eq_some_iff.1 h).1
theorem Is.cell {w : World} {b : Nat} {cs : List Value} {t : TypeId} (h : Is w b cs t) (i : Nat) : w.cell? ⟨b, i, none⟩ = cs[i]? := by
  unfold Is at h
  simp [World.cell?, h]
theorem Is.frozen {w : World} {b : Nat} {cs : List Value} {t : TypeId} (h : Is w b cs t) (i : Nat) : w.frozen? ⟨b, i, none⟩ = false := by
  unfold Is at h
  simp [World.frozen?, h]
theorem Is.int {w : World} {b : Nat} {k : IntKind} {xs : List Int} {t : TypeId} (h : Is w b (ints k xs) t) (i : Nat) (hi : i < xs.length) : w.cell? ⟨b, i, none⟩ = some (.int k (xs.getD i 0)) := by
  rw [h.cell, ints_at k xs i hi]
theorem Is.nat {w : World} {b : Nat} {k : IntKind} {xs : List Nat} {t : TypeId} (h : Is w b (nats k xs) t) (i : Nat) (hi : i < xs.length) : w.cell? ⟨b, i, none⟩ = some (.int k ((xs.getD i 0 : Nat) : Int)) := by
  rw [h.cell, nats_at k xs i hi]
theorem new (w : World) (cs : List Value) (t : TypeId) : Is (w.alloc (.cells cs.toArray t)) w.heap.size cs t := by
  show (w.heap.push (.cells cs.toArray t))[w.heap.size]? = _
  simp
theorem new' (w : World) (cs : List Value) (t : TypeId) (n : Nat) (h : n = w.heap.size) : Is (w.alloc (.cells cs.toArray t)) n cs t := h ▸ new w cs t
theorem Is.alloc {w : World} {b : Nat} {cs : List Value} {t : TypeId} (h : Is w b cs t) (o : Obj) : Is (w.alloc o) b cs t := by
  have hb := h.lt
  unfold Is at h ⊢
  rw [Below.heap_alloc w o b hb]
  exact h
theorem Is.drew {w : World} {b : Nat} {cs : List Value} {t : TypeId} (h : Is w b cs t) : Is w.drew b cs t := h
theorem Is.drewN {w : World} {b : Nat} {cs : List Value} {t : TypeId} (h : Is w b cs t) (n : Nat) : Is (w.drewN n) b cs t := h
theorem Is.set {w : World} {b : Nat} {cs : List Value} {t : TypeId} (h : Is w b cs t) (i : Nat) (v : Value) : Is (w.setCell ⟨b, i, none⟩ v) b (cs.set i v) t := by
  have hb := h.lt
  unfold Is at h ⊢
  simp only [World.setCell, Array.getElem?_modify, if_true, h, Option.map_some, Option.isSome_none, Bool.false_eq_true, if_false]
  simp
theorem Is.setInt {w : World} {b : Nat} {k : IntKind} {xs : List Int} {t : TypeId} (h : Is w b (ints k xs) t) (i : Nat) (v : Int) : Is (w.setCell ⟨b, i, none⟩ (.int k v)) b (ints k (xs.set i v)) t := by
  rw [← ints_set]
  exact h.set i _
theorem Is.setNat {w : World} {b : Nat} {k : IntKind} {xs : List Nat} {t : TypeId} (h : Is w b (nats k xs) t) (i v : Nat) : Is (w.setCell ⟨b, i, none⟩ (.int k (v : Int))) b (nats k (xs.set i v)) t := by
  rw [← nats_set]
  exact h.set i _
theorem Is.other {w : World} {b : Nat} {cs : List Value} {t : TypeId} (h : Is w b cs t) {a : Addr} (ha : b ≠ a.block) (v : Value) : Is (w.setCell a v) b cs t := by
  unfold Is at h ⊢
  rw [Below.heap_setCell w a v b ha]
  exact h
theorem Is.keep {w w' : World} {B b : Nat} {cs : List Value} {t : TypeId} (h : Is w b cs t) (hb : Below B w w') (hlt : b < B) : Is w' b cs t := by
  unfold Is at h ⊢
  rw [hb.block b hlt]
  exact h
theorem Is.below {w w' : World} {b : Nat} {cs : List Value} {t : TypeId} (h : Is w b cs t) (hb : Below w.heap.size w w') : Is w' b cs t := h.keep hb h.lt
theorem made_ints (k : IntKind) (m : Nat) : madeCells #[Value.int k 0] m = (ints k (List.replicate m 0)).toArray := by
  apply Array.ext'
  apply List.ext_getElem
  · simp [ints, madeCells]
  · intro i h1 h2
    simp [ints, madeCells, Nat.mod_one]
theorem cell_below {w w' : World} (hb : Below w.heap.size w w') {a : Addr} {v : Value} (hc : w.cell? a = some v) : w'.cell? a = some v := (hb.cell (World.block_lt_of_cell? w a hc)).trans hc
/-- A guarded operation whose guard wants it goes as one without a guard. -/
theorem unguard {P : Program} {ops : Array Oper} {rest : List Oper} {o : Oper} {a : Act} {Q : Exit → Act → World → Prop} {W : World} (hw : Region.wanted o (yielded ops a.tmps) = true)
    (h : wpList P ops Q ({ o with guard := none } :: rest) a W) : wpList P ops Q (o :: rest) a W := by
  have h1 : Region.wanted { o with guard := none } (yielded ops a.tmps) = true := rfl
  unfold wpList at h ⊢
  rw [if_pos h1] at h
  rw [if_pos hw]
  exact h
/-- A whole array is read out of a block that is known. -/
theorem load_row {P : Program} {ops : Array Oper} {rest : List Oper} {o : Oper} {a : Act} {w : World} {Q : Exit → Act → World → Prop} (ty : TypeId) (x : Operand) (ho : o.op = .load ty x) (hw : Region.wanted o (yielded ops a.tmps) = true)
    (g : Nat) (hx : a.eval x = .pointer (some ⟨g, 0, none⟩)) (t : TypeId) (cs : List Value) (d : TypeDesc) (hg : Is w g cs t)
    (hu : P.underlying ty = some d) (hd : (match d with | .struct _ | .array _ _ => true | _ => false) = true) (hi : (P.info? ty).map (·.size) = some cs.length)
    (h : wpList P ops Q rest (a.put o.dst (.agg cs.toArray)) w) : wpList P ops Q (o :: rest) a w :=
  unguard hw (wpList_load_row rfl ty x ho g hx t cs.toArray (0, 0) d hg hu hd (by simpa using hi) h)
/-- Some cells of a row are written, one behind the other. -/
def put (cs : List Value) (o : Nat) (vs : List Value) : List Value := cs.take o ++ vs ++ cs.drop (o + vs.length)
theorem put_nil (cs : List Value) (o : Nat) : put cs o [] = cs := by simp [put]
theorem put_cons (cs : List Value) (o : Nat) (v : Value) (r : List Value) (h : o < cs.length) : put cs o (v :: r) = put (cs.set o v) (o + 1) r := by
  unfold put
  rw [List.take_succ_eq_append_getElem (by simpa using h), List.getElem_set_self, List.take_set_of_le (Nat.le_refl _), List.drop_set_of_lt (by omega)]
  simp [Nat.add_comm, Nat.add_left_comm]
theorem put_length (cs : List Value) (o : Nat) (vs : List Value) (h : o + vs.length ≤ cs.length) : (put cs o vs).length = cs.length := by
  simp only [put, List.length_append, List.length_take, List.length_drop]
  omega
theorem Is.setCells : ∀ (vs : List Value) {w : World} {b : Nat} {cs : List Value} {t : TypeId} (_ : Is w b cs t) (o : Nat) (_ : o + vs.length ≤ cs.length), Is (w.setCells b o vs) b (put cs o vs) t
  | [], w, b, cs, t, h, o, _ => by rw [put_nil]; exact h
  | v :: r, w, b, cs, t, h, o, hf => by
    simp only [List.length_cons] at hf
    rw [put_cons cs o v r (by omega)]
    exact Is.setCells r (h.set o v) (o + 1) (by rw [List.length_set]; omega)
theorem Is.setCellsOther : ∀ (vs : List Value) {w : World} {b c : Nat} {cs : List Value} {t : TypeId} (_ : Is w b cs t) (_ : b ≠ c) (o : Nat), Is (w.setCells c o vs) b cs t
  | [], _, _, _, _, _, h, _, _ => h
  | v :: r, _, _, _, _, _, h, hne, o => Is.setCellsOther r (h.other hne v) hne (o + 1)
theorem below_setCells : ∀ (vs : List Value) {B : Nat} {w0 w : World} (_ : Below B w0 w) {c : Nat} (_ : B ≤ c) (o : Nat), Below B w0 (w.setCells c o vs)
  | [], _, _, _, h, _, _, _ => h
  | v :: r, _, _, _, h, _, hB, o => below_setCells r (h.setCell hB v) hB (o + 1)
theorem size_setCells : ∀ (vs : List Value) (w : World) (c o : Nat), (w.setCells c o vs).heap.size = w.heap.size
  | [], _, _, _ => rfl
  | v :: r, w, c, o => by rw [World.setCells, size_setCells r]; exact World.size_setCell _ _ _
theorem Is.range {w : World} {b : Nat} {cs : List Value} {t : TypeId} (h : Is w b cs t) (o : Nat) (vs : List Value) (hv : ∀ j v, vs[j]? = some v → cs[o + j]? = some v) : w.rangeAt b o vs := fun j v hj => by
  rw [h.cell]
  exact hv j v hj
theorem Is.there {w : World} {b : Nat} {cs : List Value} {t : TypeId} (h : Is w b cs t) (o n : Nat) (hn : o + n ≤ cs.length) : w.there b o n := fun j hj =>
  ⟨by rw [h.cell, List.getElem?_eq_getElem (show o + j < cs.length by omega)]; rfl, h.frozen _⟩
theorem put_all (cs vs : List Value) (h : cs.length = vs.length) : put cs 0 vs = vs := by
  simp [put, List.drop_eq_nil_of_le (show cs.length ≤ vs.length by omega)]
theorem nats_one (k : IntKind) (xs : List Nat) : (nats k xs).toArray.all (·.oneCell') = true :=
  all_oneCell_toArray (fun v hv => by simp only [nats, List.mem_map] at hv; obtain ⟨x, _, rfl⟩ := hv; rfl)
/-- A whole array is written into a block that is known. -/
theorem store_row {P : Program} {ops : Array Oper} {rest : List Oper} {op : Oper} {a : Act} {w : World} {Q : Exit → Act → World → Prop} (ty : TypeId) (x y : Operand) (hgd : op.guard = none) (ho : op.op = .store ty x y)
    (b o : Nat) (vs : List Value) (hx : a.eval x = .pointer (some ⟨b, o, none⟩)) (hy : a.eval y = .agg vs.toArray) {cs : List Value} {t : TypeId} (hg : Is w b cs t) (hn : o + vs.length ≤ cs.length)
    (hi : (P.info? ty).map (·.size) = some vs.length) (h1 : vs.toArray.all (·.oneCell') = true) (h : wpList P ops Q rest (a.put op.dst undef) (w.setCells b o vs)) : wpList P ops Q (op :: rest) a w :=
  wpList_store_mid hgd ty x y ho b o vs.toArray hx hy (by simpa using hg.there o vs.length hn) (by simpa using hi) h1 (by simpa using h)
/-- A whole array is read, in a quiet walk. -/
theorem quiet_load {P : Program} {a : Act} {C : World → Prop} {op : Oper} {K : Act → Prop} (ty : TypeId) (x : Operand) (ho : op.op = .load ty x) (b o : Nat) (hx : a.eval x = .pointer (some ⟨b, o, none⟩)) (cs : List Value) (d : TypeDesc)
    (hC : ∀ w, C w → w.rangeAt b o cs) (hu : P.underlying ty = some d) (hd : d.isRow = true) (hi : (P.info? ty).map (·.size) = some cs.length) (hk : K (a.put op.dst (.agg cs.toArray))) : op.quiet P a C K :=
  ⟨_, fun w hw => by
    unfold Oper.quietAt execOp
    simp only [ho, hx, Instr.loadAt, Instr.sureAddr, Sem.run_bind, Sem.run_pure, Result.andThen_ok, run_loadVar_mid w b o ty cs d (hC w hw) hu hd hi]
    exact ⟨rfl, rfl⟩, hk⟩
/-- A composite literal, its cells told ahead. -/
theorem build_val {P : Program} {ops : Array Oper} {rest : List Oper} {o : Oper} {a : Act} {w : World} {Q : Exit → Act → World → Prop} (t : TypeId) (parts : Array (Nat × Operand)) (hgd : o.guard = none) (ho : o.op = .build t parts) (cells : Array Value)
    (hf : P.built t (parts.map fun (i, x) => (i, a.eval x)).toList = some cells) (h : wpList P ops Q rest (a.put o.dst (.agg cells)) w) : wpList P ops Q (o :: rest) a w :=
  wpList_plain hgd fun _ hK => by
    refine wp_build t parts ho (by rw [hf]; rfl) ?_
    rw [hf]
    exact hK _ _ h
end Go.Proofs.YtphfjhpgcdmonaaGreatDoor.Blk
