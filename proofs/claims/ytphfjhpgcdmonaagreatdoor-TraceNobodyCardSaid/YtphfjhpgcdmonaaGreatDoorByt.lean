/- Rows of bytes that a call makes for itself: appended to, turned into text. Conditions: lengths that fit. -/
import Derived.OwnWalk
import Derived.Laws.IdiomStrings
import Derived.Test.YtphfjhpgcdmonaaGreatDoorBlk
namespace Go.Proofs.YtphfjhpgcdmonaaGreatDoor.Byt
open Go Go.RowKit
open Blk (nats)
/-- The numbers of the types: a row of bytes, a byte, a text. -/
structure Kit (P : Program) (T e S : TypeId) : Prop where
  hT : P.underlying T = some (.slice e)
  he : P.underlying e = some (.int .u8)
  hS : P.underlying S = some .string
  hi : (P.info? e).map (fun i => (i.zero, i.size, i.bytes)) = some (some (.int .u8 0), 1, 1)
/-- A slice of bytes that lies in a row of the call's own, or is nil. -/
def Row (w : World) (base : Nat) (e : TypeId) (v : Value) (l : List Nat) : Prop := w.ownsRow base e 1 v l.length (nats .u8 l)
theorem Row.nil (w : World) (base : Nat) (e : TypeId) : Row w base e (.slice none 0 0) [] := World.ownsRow_nil w base e 1
theorem Row.keep {w w' : World} {base : Nat} {e : TypeId} {v : Value} {l : List Nat} (h : Row w base e v l) (hk : ∀ k, v.ownBlock = some k → w'.heap[k]? = w.heap[k]?) : Row w' base e v l := by
  refine ⟨h.1, ?_⟩
  rcases h.2 with h | ⟨g, cap, cur, hv, hb, hg, h1, h2, h3, h4⟩
  · exact .inl h
  · refine .inr ⟨g, cap, cur, hv, hb, ?_, h1, h2, h3, h4⟩
    rw [hk g (by rw [hv]; rfl)]
    exact hg
theorem Row.lt {w : World} {base : Nat} {e : TypeId} {v : Value} {l : List Nat} (h : Row w base e v l) : ∀ k, v.ownBlock = some k → base ≤ k ∧ k < w.heap.size := World.ownsRow.lt h
theorem Row.below {w w' : World} {base : Nat} {e : TypeId} {v : Value} {l : List Nat} (h : Row w base e v l) (hb : Below w.heap.size w w') : Row w' base e v l :=
  h.keep fun k hk => hb.block k (h.lt k hk).2
theorem Row.alloc {w : World} {base : Nat} {e : TypeId} {v : Value} {l : List Nat} (h : Row w base e v l) (o : Obj) : Row (w.alloc o) base e v l :=
  h.keep fun k hk => Below.heap_alloc w o k (h.lt k hk).2
theorem Row.drew {w : World} {base : Nat} {e : TypeId} {v : Value} {l : List Nat} (h : Row w base e v l) : Row w.drew base e v l := h
theorem Row.setCell {w : World} {base : Nat} {e : TypeId} {v : Value} {l : List Nat} (h : Row w base e v l) {a : Addr} (ha : a.block < base) (u : Value) : Row (w.setCell a u) base e v l :=
  h.keep fun k hk => Below.heap_setCell w a u k (by have := (h.lt k hk).1; omega)
theorem info {P : Program} {T e S : TypeId} (K : Kit P T e S) : ∃ i, P.info? e = some i ∧ i.zero = some (.int .u8 0) ∧ i.size = 1 ∧ i.bytes = 1 := by
  have h := K.hi
  cases hq : P.info? e with
  | none => simp [hq] at h
  | some i =>
    simp [hq] at h
    exact ⟨i, rfl, h.1, h.2.1, h.2.2⟩
theorem nats_each (k : IntKind) (l : List Nat) : ∀ v ∈ nats k l, v.oneCell' = true := by
  intro v hv
  obtain ⟨n, _, rfl⟩ := List.mem_map.1 hv
  rfl
theorem nats_append (k : IntKind) (l m : List Nat) : nats k (l ++ m) = nats k l ++ nats k m := by simp [nats]
/-- Bytes are appended that lie somewhere. -/
theorem append_wp {P : Program} {T e S : TypeId} (K : Kit P T e S) {w : World} {ops : Array Oper} {rest : List Oper} {o : Oper} {a : Act} {Q : Exit → Act → World → Prop} (hgd : o.guard = none) (s x : Operand)
    (ho : o.op = .call { callee := .builtin .append, args := #[s, x], argTypes := #[T, T] }) (base : Nat) (v : Value) (l : List Nat) (hs : a.eval s = v) (hown : Row w base e v l)
    (ad : Addr) (c : Nat) (ns : List Nat) (hx : a.eval x = .slice (some ad) ns.length c) (hnews : ∀ j u, (nats .u8 ns)[j]? = some u → w.cell? (ad.add j) = some u)
    (hlen : l.length + ns.length ≤ 140737488355328) (hbase : base ≤ w.heap.size)
    (h : ∀ v' w', Row w' base e v' (l ++ ns) → w.grownBy w' v.ownBlock → wpList P ops Q rest (a.put o.dst v') w') : wpList P ops Q (o :: rest) a w := by
  obtain ⟨i, hi, hz, hsz, hby⟩ := info K
  refine wpList_append_own w hgd s x T ho base e i (.int .u8 0) 1 1 K.hT hi hz hsz hby rfl (by decide) v l.length (nats .u8 l) hs hown ad ns.length c (nats .u8 ns) hx (by rw [Blk.nats_length, Nat.mul_one]) hnews (nats_each _ _)
    (by simp only [maxLen]; omega) (by omega) hbase ?_
  intro v' w' h1 h2 _
  refine h v' w' ?_ h2
  unfold Row
  rw [nats_append, List.length_append]
  exact h1
/-- A text of these bytes. -/
def text (l : List Nat) : Value := .string ⟨(l.map UInt8.ofNat).toArray⟩
theorem run_text {P : Program} {T e S : TypeId} (K : Kit P T e S) {w : World} {base : Nat} {v : Value} {l : List Nat} (h : Row w base e v l) (hl : ∀ x ∈ l, x < 256) : (convert T S v).run P w = .ok (text l) w := by
  have hn : (nats .u8 l) = (l.map UInt8.ofNat).map (fun b => Value.int .u8 (b.toNat : Int)) := by
    unfold nats
    rw [List.map_map]
    apply List.map_congr_left
    intro x hx
    have := hl x hx
    simp [UInt8.toNat_ofNat']
    omega
  rcases h.2 with ⟨rfl, h0⟩ | ⟨g, cap, cur, rfl, hb, hg, h1, h2, h3, h4⟩
  · have e0 : l = [] := List.eq_nil_of_length_eq_zero h0
    subst e0
    rw [run_convert_bytes_string w T S e none 0 0 K.hT K.he K.hS]
    rfl
  · have hlen : (l.map UInt8.ofNat).length = l.length := by simp
    have := run_convert_bytes_back (P := P) w T S e ⟨g, 0, none⟩ cap (l.map UInt8.ofNat) K.hT K.he K.hS (by
      intro j hj
      have hc := World.ownsRow.cells h (g := g) rfl j (.int .u8 ((l.map UInt8.ofNat)[j].toNat : Int)) (by rw [hn, List.getElem?_map, List.getElem?_eq_getElem hj]; rfl)
      exact hc)
    rw [hlen] at this
    exact this
theorem text_wp {P : Program} {T e S : TypeId} (K : Kit P T e S) {w : World} {ops : Array Oper} {rest : List Oper} {o : Oper} {a : Act} {Q : Exit → Act → World → Prop} (hgd : o.guard = none) (x : Operand) (ho : o.op = .convert T S x)
    {base : Nat} {v : Value} {l : List Nat} (hx : a.eval x = v) (hr : Row w base e v l) (hl : ∀ y ∈ l, y < 256) (h : wpList P ops Q rest (a.put o.dst (text l)) w) : wpList P ops Q (o :: rest) a w := by
  refine wpList_plain hgd fun K' hK => ?_
  have hrun := run_text K hr hl
  unfold Oper.wp
  simp [execOp, ho, hx, hrun, Result.andThen]
  exact hK _ _ h
end Go.Proofs.YtphfjhpgcdmonaaGreatDoor.Byt
