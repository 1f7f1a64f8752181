/- What a digest that is under way holds: plain facts. Conditions: those that are named. -/
import Derived.Test.YtphfjhpgcdmonaaGreatDoorShaD
namespace Go.Proofs.YtphfjhpgcdmonaaGreatDoor.Sha
open Go.RowKit
open Blk (nats)
theorem at_lt_of_all {l : List Nat} {n : Nat} (h : ∀ x ∈ l, x < n) (hn : 0 < n) (i : Nat) : at_ l i < n := by
  unfold at_
  rw [List.getD_eq_getElem?_getD]
  cases hq : l[i]? with
  | none => simpa using hn
  | some x => exact h x (List.mem_of_getElem? hq)
theorem mixed_ok (v b : List Nat) (hv : v.length = 8) : (mixed v b).length = 8 ∧ ∀ i, at_ (mixed v b) i < 4294967296 := by
  refine ⟨?_, fun i => at_lt_of_all ?_ (by decide) i⟩
  · rw [← mixed_plus v b hv, plus_length, rounds_length _ _ hv]
  · intro x hx
    unfold mixed at hx
    rw [List.zipWith_eq_zipWith_take_min, List.mem_iff_getElem] at hx
    obtain ⟨i, hi, rfl⟩ := hx
    simp only [List.getElem_zipWith]
    exact Nat.mod_lt _ (by decide)
theorem first_ok : first.length = 8 ∧ ∀ i, at_ first i < 4294967296 := ⟨rfl, fun i => at_lt_of_all (by decide) (by decide) i⟩
theorem blocks_zero (m : List Nat) : blocks m 0 = first := rfl
theorem blocks_succ (m : List Nat) (k : Nat) : blocks m (k + 1) = mixed (blocks m k) ((m.drop (64 * k)).take 64) := rfl
theorem blocks_ok (m : List Nat) (k : Nat) : (blocks m k).length = 8 ∧ ∀ i, at_ (blocks m k) i < 4294967296 := by
  induction k with
  | zero => exact first_ok
  | succ k ih => rw [blocks_succ]; exact mixed_ok _ _ ih.1
theorem blocks_append (m t : List Nat) (k : Nat) (h : 64 * k ≤ m.length) : blocks (m ++ t) k = blocks m k := by
  induction k with
  | zero => rfl
  | succ k ih =>
    rw [blocks_succ, blocks_succ, ih (by omega)]
    congr 1
    rw [List.drop_append_of_le_length (by omega), List.take_append_of_le_length (by rw [List.length_drop]; omega)]
/-- The bytes that wait fit the bytes that came. -/
structure Fits (M rest : List Nat) : Prop where
  len : rest.length = 64
  lt : ∀ x ∈ rest, x < 256
  head : rest.take (M.length % 64) = M.drop (64 * (M.length / 64))
def lay (l : List Nat) (o : Nat) (c : List Nat) : List Nat := l.take o ++ c ++ l.drop (o + c.length)
theorem lay_nats (k : IntKind) (l : List Nat) (o : Nat) (c : List Nat) : Blk.put (nats k l) o (nats k c) = nats k (lay l o c) := by
  unfold Blk.put lay nats
  simp
theorem lay_length (l : List Nat) (o : Nat) (c : List Nat) (h : o + c.length ≤ l.length) : (lay l o c).length = l.length := by
  simp only [lay, List.length_append, List.length_take, List.length_drop]
  omega
theorem Fits.step {M rest : List Nat} (hf : Fits M rest) (c : List Nat) (hc : ∀ x ∈ c, x < 256) (hk : M.length % 64 + c.length ≤ 64) : Fits (M ++ c) (lay rest (M.length % 64) c) where
  len := by rw [lay_length _ _ _ (by rw [hf.len]; exact hk), hf.len]
  lt := fun x hx => by
    simp only [lay, List.mem_append] at hx
    rcases hx with (h | h) | h
    · exact hf.lt x (List.mem_of_mem_take h)
    · exact hc x h
    · exact hf.lt x (List.mem_of_mem_drop h)
  head := by
    have hl := hf.len
    have hh := hf.head
    by_cases h : M.length % 64 + c.length = 64
    · have e1 : (M ++ c).length % 64 = 0 := by simp only [List.length_append]; omega
      have e2 : (M ++ c).length = 64 * ((M ++ c).length / 64) := by simp only [List.length_append] at e1 ⊢; omega
      rw [e1, List.take_zero, ← e2, List.drop_length]
    · have e1 : (M ++ c).length % 64 = M.length % 64 + c.length := by simp only [List.length_append]; omega
      have e2 : (M ++ c).length / 64 = M.length / 64 := by simp only [List.length_append]; omega
      have ht : (rest.take (M.length % 64)).length = M.length % 64 := by rw [List.length_take]; omega
      rw [e1, e2, List.drop_append_of_le_length (by omega), ← hh]
      unfold lay
      rw [List.take_append_of_le_length (by rw [List.length_append]; omega), List.take_of_length_le (by rw [List.length_append]; omega)]
theorem Fits.same {M rest : List Nat} (_hf : Fits M rest) (c : List Nat) (hk : M.length % 64 + c.length < 64) : blocks (M ++ c) ((M ++ c).length / 64) = blocks M (M.length / 64) := by
  have e2 : (M ++ c).length / 64 = M.length / 64 := by simp only [List.length_append]; omega
  rw [e2, blocks_append _ _ _ (by omega)]
theorem Fits.full {M rest : List Nat} (hf : Fits M rest) (c : List Nat) (hk : M.length % 64 + c.length = 64) : blocks (M ++ c) ((M ++ c).length / 64) = mixed (blocks M (M.length / 64)) (lay rest (M.length % 64) c) := by
  have hl := hf.len
  have hh := hf.head
  have e2 : (M ++ c).length / 64 = M.length / 64 + 1 := by simp only [List.length_append]; omega
  rw [e2, blocks_succ, blocks_append _ _ _ (by omega)]
  congr 1
  rw [List.drop_append_of_le_length (by omega), ← hh]
  unfold lay
  rw [List.drop_of_length_le (l := rest) (by omega), List.append_nil, List.take_of_length_le]
  rw [List.length_append, List.length_take]
  omega
theorem fits_nil : Fits [] (List.replicate 64 0) := ⟨rfl, by decide, rfl⟩
/-- A text's bytes as numbers. -/
abbrev nat (l : List UInt8) : List Nat := l.map UInt8.toNat
theorem nat_lt (l : List UInt8) : ∀ x ∈ nat l, x < 256 := by
  intro x hx
  obtain ⟨y, _, rfl⟩ := List.mem_map.1 hx
  exact y.toNat_lt
/-- The cells of a digest. -/
def cellsOf (g : Bool) (ws rest : List Nat) (n : Nat) : List Value := .bool g :: (nats .u32 ws ++ (nats .u8 rest ++ [.int .i64 n]))
theorem cellsOf_length {g : Bool} {ws rest : List Nat} {n : Nat} (h8 : ws.length = 8) (h64 : rest.length = 64) : (cellsOf g ws rest n).length = 74 := by
  simp [cellsOf, Blk.nats_length, h8, h64]
theorem cellsOf_given (g : Bool) (ws rest : List Nat) (n : Nat) : (cellsOf g ws rest n)[0]? = some (.bool g) := rfl
theorem cellsOf_n (g : Bool) {ws rest : List Nat} (n : Nat) (h8 : ws.length = 8) (h64 : rest.length = 64) : (cellsOf g ws rest n)[73]? = some (.int .i64 n) := by
  unfold cellsOf
  rw [List.getElem?_cons_succ, List.getElem?_append_right (by rw [Blk.nats_length]; omega), List.getElem?_append_right (by rw [Blk.nats_length, Blk.nats_length]; omega), Blk.nats_length, Blk.nats_length, h8, h64]
  rfl
theorem cellsOf_words (g : Bool) {ws rest : List Nat} (n : Nat) (j : Nat) (v : Value) (h : (nats .u32 ws)[j]? = some v) : (cellsOf g ws rest n)[1 + j]? = some v := by
  have hj : j < (nats .u32 ws).length := (List.getElem?_eq_some_iff.1 h).1
  unfold cellsOf
  rw [Nat.add_comm, List.getElem?_cons_succ, List.getElem?_append_left hj, h]
theorem cellsOf_rest (g : Bool) {ws rest : List Nat} (n : Nat) (h8 : ws.length = 8) (j : Nat) (v : Value) (h : (nats .u8 rest)[j]? = some v) : (cellsOf g ws rest n)[9 + j]? = some v := by
  have hj : j < (nats .u8 rest).length := (List.getElem?_eq_some_iff.1 h).1
  unfold cellsOf
  rw [show 9 + j = (8 + j) + 1 by omega, List.getElem?_cons_succ, List.getElem?_append_right (by rw [Blk.nats_length]; omega), Blk.nats_length, h8, Nat.add_sub_cancel_left, List.getElem?_append_left hj, h]
theorem cellsOf_putRest (g : Bool) {ws rest : List Nat} (n o : Nat) (c : List Nat) (h8 : ws.length = 8) (ho : o + c.length ≤ rest.length) : Blk.put (cellsOf g ws rest n) (9 + o) (nats .u8 c) = cellsOf g ws (lay rest o c) n := by
  unfold cellsOf Blk.put
  rw [show 9 + o = (8 + o) + 1 by omega, List.take_succ_cons, show 8 + o + 1 + (nats IntKind.u8 c).length = (8 + (o + c.length)) + 1 by rw [Blk.nats_length]; omega, List.drop_succ_cons,
    List.take_append, List.drop_append, List.take_of_length_le (l := nats .u32 ws) (by rw [Blk.nats_length]; omega), List.drop_of_length_le (l := nats .u32 ws) (by rw [Blk.nats_length]; omega), Blk.nats_length, h8,
    Nat.add_sub_cancel_left, Nat.add_sub_cancel_left, List.take_append_of_le_length (by rw [Blk.nats_length]; omega), List.drop_append_of_le_length (by rw [Blk.nats_length]; omega)]
  simp only [List.nil_append, List.cons_append, List.append_assoc]
  rw [← lay_nats]
  unfold Blk.put
  rw [Blk.nats_length]
  simp only [List.append_assoc]
theorem cellsOf_setN (g : Bool) {ws rest : List Nat} (n m : Nat) (h8 : ws.length = 8) (h64 : rest.length = 64) : (cellsOf g ws rest n).set 73 (.int .i64 m) = cellsOf g ws rest m := by
  unfold cellsOf
  rw [List.set_cons_succ, List.set_append_right _ _ (by rw [Blk.nats_length]; omega), List.set_append_right _ _ (by rw [Blk.nats_length, Blk.nats_length]; omega), Blk.nats_length, Blk.nats_length, h8, h64]
  rfl
theorem cellsOf_putWords (g : Bool) {ws rest vs : List Nat} (n : Nat) (h8 : ws.length = 8) (hv : vs.length = 8) : Blk.put (cellsOf g ws rest n) 1 (nats .u32 vs) = cellsOf g vs rest n := by
  unfold cellsOf Blk.put
  rw [List.take_succ_cons, List.take_zero, Blk.nats_length, hv, Nat.add_comm 1 8, List.drop_succ_cons, List.drop_append, List.drop_of_length_le (l := nats .u32 ws) (by rw [Blk.nats_length]; omega), Blk.nats_length, h8]
  simp
/-- A digest of these bytes lies in this block. -/
def Under (w : World) (b : Nat) (M : List Nat) : Prop := ∃ rest, Fits M rest ∧ Blk.Is w b (cellsOf true (blocks M (M.length / 64)) rest M.length) 385
/-- Nothing that was there has changed, but for one block. -/
structure Only (b : Nat) (w w' : World) : Prop where
  os : w'.os = w.os
  tape : w'.tape = w.tape
  output : w'.output = w.output
  size : w.heap.size ≤ w'.heap.size
  block : ∀ k, k < w.heap.size → k ≠ b → w'.heap[k]? = w.heap[k]?
theorem Only.refl (b : Nat) (w : World) : Only b w w := ⟨rfl, rfl, rfl, Nat.le_refl _, fun _ _ _ => rfl⟩
theorem Only.trans {b : Nat} {x y z : World} (h : Only b x y) (k : Only b y z) : Only b x z :=
  ⟨k.os.trans h.os, k.tape.trans h.tape, k.output.trans h.output, Nat.le_trans h.size k.size, fun i hi hb => (k.block i (Nat.lt_of_lt_of_le hi h.size) hb).trans (h.block i hi hb)⟩
theorem Only.of {b : Nat} {w w' : World} (h : Below w.heap.size w w') : Only b w w' := ⟨h.os, h.tape, h.output, h.size, fun k hk _ => h.block k hk⟩
theorem Only.drew {b : Nat} {w w' : World} (h : Only b w w') : Only b w w'.drew := ⟨h.os, h.tape, h.output, h.size, h.block⟩
theorem Only.setCell {b : Nat} {w w' : World} (h : Only b w w') {p : Addr} (hp : p.block = b) (v : Value) : Only b w (w'.setCell p v) :=
  ⟨h.os, h.tape, h.output, by rw [World.size_setCell]; exact h.size, fun k hk hb => (Below.heap_setCell _ _ _ _ (by rw [hp]; exact hb)).trans (h.block k hk hb)⟩
theorem Only.setCells : ∀ (vs : List Value) {b : Nat} {w w' : World} (_ : Only b w w') (o : Nat), Only b w (w'.setCells b o vs)
  | [], _, _, _, h, _ => h
  | v :: r, _, _, _, h, o => Only.setCells r (h.setCell rfl v) (o + 1)
theorem Only.alloc {b : Nat} {w w' : World} (h : Only b w w') (o : Obj) : Only b w (w'.alloc o) :=
  h.trans (Only.of ((Below.refl _ _).alloc (Nat.le_refl _) o))
theorem Only.below {b B : Nat} {w w' : World} (h : Only b w w') (hb : B ≤ b) (hB : B ≤ w.heap.size) : Below B w w' :=
  ⟨h.os, h.tape, h.output, h.size, fun k hk => h.block k (by omega) (by omega)⟩
theorem _root_.Go.Proofs.YtphfjhpgcdmonaaGreatDoor.Blk.Is.only {b c : Nat} {w w' : World} {cs : List Value} {t : TypeId} (h : Blk.Is w c cs t) (ho : Only b w w') (hne : c ≠ b) : Blk.Is w' c cs t := by
  have hl := h.lt
  unfold Blk.Is at h ⊢
  rw [ho.block c hl hne]
  exact h
theorem Under.only {b c : Nat} {w w' : World} {M : List Nat} (h : Under w c M) (ho : Only b w w') (hne : c ≠ b) : Under w' c M := by
  obtain ⟨r, h1, h2⟩ := h
  exact ⟨r, h1, h2.only ho hne⟩
theorem Under.below {c : Nat} {w w' : World} {M : List Nat} (h : Under w c M) (ho : Below w.heap.size w w') : Under w' c M := by
  obtain ⟨r, h1, h2⟩ := h
  exact ⟨r, h1, h2.below ho⟩
/-- 'copy(dst, s)', s a text: as many bytes as the shorter of the two has go over. -/
theorem run_copy_text {P : Program} (w : World) (dT sT ty elem : TypeId) (b o dLen dCap : Nat) (t : ByteArray)
    (hu : P.underlying dT = some (.slice elem)) (hz : (P.info? elem).map (·.size) = some 1) {cs : List Value} {ct : TypeId} (hg : Blk.Is w b cs ct) (hfit : o + dLen ≤ cs.length) :
    (Builtin.copy_ #[dT, sT] ty #[.slice (some ⟨b, o, none⟩) dLen dCap, .string t]).run P w = .ok (goInt (Nat.min t.size dLen)) (w.setCells b o ((t.data.toList.map fun x => Value.int .u8 (x.toNat : Int)).take (Nat.min t.size dLen))) := by
  have hl : ((t.data.toList.map fun x => Value.int .u8 (x.toNat : Int)).take (Nat.min t.size dLen)).length = Nat.min t.size dLen := by
    rw [List.length_take, List.length_map]
    have : t.data.toList.length = t.size := rfl
    rw [this]
    exact Nat.min_eq_left (Nat.min_le_left _ _)
  have hle : Nat.min t.size dLen ≤ dLen := Nat.min_le_right t.size dLen
  have hst := run_storeCells_cells (P := P) b o ((t.data.toList.map fun x => Value.int .u8 (x.toNat : Int)).take (Nat.min t.size dLen)) 0 w
    (by rw [hl]; intro j hj; rw [hg.cell, List.getElem?_eq_getElem (by omega)]; rfl) (by intro j _; exact hg.frozen _) (by
    intro v hv
    obtain ⟨x, _, rfl⟩ := List.mem_map.1 (List.mem_of_mem_take hv)
    rfl)
  cases hq : P.info? elem with
  | none => simp [hq] at hz
  | some i =>
    simp only [Nat.add_zero] at hst
    simp [Builtin.copy_, run_underlying hu, Builtin.lenOf, Builtin.firstCells, sizeOf, typeInfo, hq]
    rw [hst]
    rfl
theorem wpList_copy_text {P : Program} {w : World} {ops : Array Oper} {rest : List Oper} {o : Oper} {a : Act} {Q : Exit → Act → World → Prop} (hgd : o.guard = none) (d s : Operand) (dT sT : TypeId)
    (ho : o.op = .call { callee := .builtin .copy, args := #[d, s], argTypes := #[dT, sT] }) (elem : TypeId) (hu : P.underlying dT = some (.slice elem)) (hz : (P.info? elem).map (·.size) = some 1)
    (b off dLen dCap : Nat) (t : ByteArray) (hd : a.eval d = .slice (some ⟨b, off, none⟩) dLen dCap) (hs : a.eval s = .string t) {cs : List Value} {ct : TypeId} (hg : Blk.Is w b cs ct) (hfit : off + dLen ≤ cs.length)
    (h : wpList P ops Q rest (a.put o.dst (goInt (Nat.min t.size dLen))) (w.setCells b off ((t.data.toList.map fun x => Value.int .u8 (x.toNat : Int)).take (Nat.min t.size dLen)))) : wpList P ops Q (o :: rest) a w := by
  refine wpList_plain hgd fun K hK => ?_
  have hrun := run_copy_text (P := P) w dT sT o.type elem b off dLen dCap t hu hz hg hfit
  unfold Oper.wp
  simp [execOp, ho, resolve, invoke, builtin, hd, hs, hrun, Result.andThen]
  exact hK _ _ h
end Go.Proofs.YtphfjhpgcdmonaaGreatDoor.Sha
