/- Rows of bytes that a call makes whole ('make([]byte, n)'): made, kept, told as a text. Conditions: lengths that fit. -/
import Derived.Test.YticegglphmgoaaaByt
import Derived.Test.YticegglphmgoaaaCls
namespace Go.Proofs.Yticegglphmgoaaa.Byt
open Go Go.RowKit
open Blk (nats)
theorem made_nats (k : IntKind) (m : Nat) : madeCells #[Value.int k 0] m = (nats k (List.replicate m 0)).toArray := by
  apply Array.ext'
  apply List.ext_getElem
  · simp [nats, madeCells]
  · intro i h1 h2
    simp [nats, madeCells, Nat.mod_one]
/-- So many bytes 0 (a plain def: the walk lays 'List.replicate 64 0' out). -/
def zeros (n : Nat) : List Nat := List.replicate n 0
theorem zeros_length (n : Nat) : (zeros n).length = n := List.length_replicate
/-- So many bytes 0 are made. -/
theorem make_wp {P : Program} {T e S : TypeId} (K : Kit P T e S) {w : World} {ops : Array Oper} {rest : List Oper} {o : Oper} {a : Act} {Q : Exit → Act → World → Prop} (hgd : o.guard = none) (x y : Operand) (ho : o.op = .makeSlice T x y)
    (k j : IntKind) (n : Nat) (N : Int) (hN : N = (n : Int)) (hx : a.eval x = .int k N) (hy : a.eval y = .int j N) (hn : n ≤ 140737488355328)
    (h : ∀ w', Blk.Is w' w.heap.size (nats .u8 (zeros n)) e → Below w.heap.size w w' → w'.heap.size = w.heap.size + 1 → wpList P ops Q rest (a.put o.dst (.slice (some ⟨w.heap.size, 0, none⟩) n n)) w') : wpList P ops Q (o :: rest) a w := by
  subst hN
  refine wpList_plain hgd fun K' hK => ?_
  obtain ⟨i, hi, hz, hsz, hby⟩ := info K
  have hrun := run_make (P := P) w T e i (.int .u8 0) K.hT hi hz k j (n : Int) (n : Int) (by omega) (Int.le_refl _) (by rw [hby]; omega) (by omega)
  simp only [Int.toNat_natCast, hsz, Nat.mul_one] at hrun
  rw [show (Value.int .u8 0).cells = #[Value.int .u8 0] from rfl, made_nats] at hrun
  unfold Oper.wp
  simp only [execOp, ho, hx, hy, Sem.run_bind, hrun, Result.andThen]
  exact hK _ _ (h _ (Blk.new w _ e) ((Below.refl _ _).alloc (Nat.le_refl _) _) (by simp))
/-- What lies somewhere, as a text. -/
theorem run_text_at {P : Program} {T e S : TypeId} (K : Kit P T e S) {w : World} {g o n cap : Nat} {l : List Nat} (h : w.rangeAt g o (nats .u8 l)) (hn : n = l.length) (hl : ∀ x ∈ l, x < 256) : (convert T S (.slice (some ⟨g, o, none⟩) n cap)).run P w = .ok (text l) w := by
  subst hn
  have hc : ∀ j (hj : j < (l.map UInt8.ofNat).length), w.cell? ((⟨g, o, none⟩ : Addr).add j) = some (.int .u8 ((l.map UInt8.ofNat)[j].toNat : Int)) := by
    intro j hj
    have hj' : j < l.length := by simpa using hj
    have h1 := h j (.int .u8 ((l[j] : Nat) : Int)) (by unfold nats; rw [List.getElem?_map, List.getElem?_eq_getElem hj']; rfl)
    have e : ((l.map UInt8.ofNat)[j].toNat : Int) = ((l[j] : Nat) : Int) := by
      have := hl l[j] (List.getElem_mem hj')
      simp [UInt8.toNat_ofNat']
      omega
    rw [e, ← h1]
    by_cases h0 : j = 0 <;> simp [Addr.add, h0]
  have := run_convert_bytes_back (P := P) w T S e ⟨g, o, none⟩ cap (l.map UInt8.ofNat) K.hT K.he K.hS hc
  rw [List.length_map] at this
  exact this
theorem text_at_wp {P : Program} {T e S : TypeId} (K : Kit P T e S) {w : World} {ops : Array Oper} {rest : List Oper} {o : Oper} {a : Act} {Q : Exit → Act → World → Prop} (hgd : o.guard = none) (x : Operand) (ho : o.op = .convert T S x)
    (g f n cap : Nat) (hx : a.eval x = .slice (some ⟨g, f, none⟩) n cap) (l : List Nat) (h : w.rangeAt g f (nats .u8 l)) (hn : n = l.length) (hl : ∀ y ∈ l, y < 256) (hk : wpList P ops Q rest (a.put o.dst (text l)) w) : wpList P ops Q (o :: rest) a w := by
  refine wpList_plain hgd fun K' hK => ?_
  have hrun := run_text_at K (cap := cap) h hn hl
  unfold Oper.wp
  simp [execOp, ho, hx, hrun, Result.andThen]
  exact hK _ _ hk
/-- What lies somewhere, as a text, in a quiet walk. -/
theorem quiet_text {P : Program} {T e S : TypeId} (K : Kit P T e S) {w0 : World} {op : Oper} {a : Act} {F : Act → Prop} (x : Operand) (ho : op.op = .convert T S x) (g f n cap : Nat) (hx : a.eval x = .slice (some ⟨g, f, none⟩) n cap) (l : List Nat) (hg : g < w0.heap.size)
    (h : w0.rangeAt g f (nats .u8 l)) (hn : n = l.length) (hl : ∀ y ∈ l, y < 256) (hk : F (a.put op.dst (text l))) : op.quiet P a (Cls.In (Cls.Kept w0)) F :=
  ⟨_, fun w' ⟨y, hy⟩ => by
    subst hy
    unfold Oper.quietAt execOp
    have hr : y.w.rangeAt g f (nats .u8 l) := fun j v hj => by
      rw [World.cell?_of_block (w := w0) (y.ok.block g hg)]
      exact h j v hj
    have hrun := run_text_at K (cap := cap) hr hn hl
    simp only [ho, hx, Sem.run_bind, hrun, Result.andThen_ok, Sem.run_pure]
    exact ⟨rfl, rfl⟩, hk⟩
/-- A row's text, in a quiet walk. -/
theorem quiet_row {P : Program} {T e S : TypeId} (K : Kit P T e S) {w0 : World} {op : Oper} {a : Act} {F : Act → Prop} (x : Operand) (ho : op.op = .convert T S x) {base : Nat} {v : Value} {l : List Nat} (hx : a.eval x = v) (hr : Row w0 base e v l)
    (hl : ∀ y ∈ l, y < 256) (hk : F (a.put op.dst (text l))) : op.quiet P a (Cls.In (Cls.Kept w0)) F :=
  ⟨_, fun w' ⟨y, hy⟩ => by
    subst hy
    unfold Oper.quietAt execOp
    have hrun := run_text K (hr.below y.ok) hl
    simp only [ho, hx, Sem.run_bind, hrun, Result.andThen_ok, Sem.run_pure]
    exact ⟨rfl, rfl⟩, hk⟩
/-- So many cells set to a byte, the others 0. -/
def filled (c n k : Nat) : List Nat := List.replicate k c ++ List.replicate (n - k) 0
theorem filled_zero (c n : Nat) : filled c n 0 = zeros n := by simp [filled, zeros]
theorem filled_length (c n k : Nat) (h : k ≤ n) : (filled c n k).length = n := by simp [filled]; omega
theorem filled_all (c n : Nat) : filled c n n = List.replicate n c := by simp [filled]
theorem filled_set (c n k : Nat) (h : k < n) : (filled c n k).set k c = filled c n (k + 1) := by
  unfold filled
  obtain ⟨d, rfl⟩ : ∃ d, n = k + 1 + d := ⟨n - k - 1, by omega⟩
  rw [show k + 1 + d - k = d + 1 by omega, show k + 1 + d - (k + 1) = d by omega, List.replicate_succ, List.set_append_right k c (by simp)]
  simp [List.replicate_succ', List.append_assoc]
theorem replicate_lt {c n : Nat} (h : c < 256) : ∀ y ∈ List.replicate n c, y < 256 := fun y hy => by rw [(List.mem_replicate.1 hy).2]; exact h
end Go.Proofs.Yticegglphmgoaaa.Byt
