/- The order of floats as the document has it: its least, its order, walked. Conditions: those that are named. -/
import Derived.Test.YtagjgofnaplefaaXa
import Derived.Laws.AppendOwnNone
namespace Go.Proofs.Ytagjgofnaplefaa.Wei
open Go.RowKit
open Flo
open Blk (nats)
/-- A slice of numbers that lies in a row of the call's own, or is nil. -/
def IRow (w : World) (base : Nat) (v : Value) (l : List Nat) : Prop := w.ownsRow base 3 1 v l.length (nats .i64 l)
theorem nats_each (l : List Nat) : ∀ v ∈ nats .i64 l, v.oneCell' = true := by
  intro v hv
  obtain ⟨n, _, rfl⟩ := List.mem_map.1 hv
  rfl
theorem nats_append (l m : List Nat) : nats .i64 (l ++ m) = nats .i64 l ++ nats .i64 m := by simp [nats]
theorem IRow.nil (w : World) (base : Nat) : IRow w base (.slice none 0 0) [] := World.ownsRow_nil w base 3 1
theorem IRow.keep {w w' : World} {base : Nat} {v : Value} {l : List Nat} (h : IRow w base v l) (hk : ∀ k, v.ownBlock = some k → w'.heap[k]? = w.heap[k]?) : IRow w' base v l := by
  refine ⟨h.1, ?_⟩
  rcases h.2 with h | ⟨g, cap, cur, hv, hb, hg, h1, h2, h3, h4⟩
  · exact .inl h
  · refine .inr ⟨g, cap, cur, hv, hb, ?_, h1, h2, h3, h4⟩
    rw [hk g (by rw [hv]; rfl)]
    exact hg
theorem IRow.lt {w : World} {base : Nat} {v : Value} {l : List Nat} (h : IRow w base v l) : ∀ k, v.ownBlock = some k → base ≤ k ∧ k < w.heap.size := World.ownsRow.lt h
theorem IRow.below {w w' : World} {base : Nat} {v : Value} {l : List Nat} (h : IRow w base v l) (hb : Below w.heap.size w w') : IRow w' base v l :=
  h.keep fun k hk => hb.block k (h.lt k hk).2
theorem IRow.alloc {w : World} {base : Nat} {v : Value} {l : List Nat} (h : IRow w base v l) (o : Obj) : IRow (w.alloc o) base v l :=
  h.keep fun k hk => Below.heap_alloc w o k (h.lt k hk).2
theorem IRow.mono {w : World} {base base' : Nat} {v : Value} {l : List Nat} (h : IRow w base v l) (hb : base' ≤ base) : IRow w base' v l := by
  refine ⟨h.1, ?_⟩
  rcases h.2 with h | ⟨g, cap, cur, hv, hbb, r⟩
  · exact .inl h
  · exact .inr ⟨g, cap, cur, hv, by omega, r⟩
theorem iappend_wp {w : World} {ops : Array Oper} {rest : List Oper} {o : Oper} {a : Act} {Q : Exit → Act → World → Prop} (hgd : o.guard = none) (s x : Operand)
    (ho : o.op = .call { callee := .builtin .append, args := #[s, x], argTypes := #[35, 35] }) (base : Nat) (v : Value) (l : List Nat) (hs : a.eval s = v) (hown : IRow w base v l)
    (ad : Addr) (c : Nat) (ns : List Nat) (n : Nat) (hn : ns.length = n) (hx : a.eval x = .slice (some ad) n c) (hnews : ∀ j u, (nats .i64 ns)[j]? = some u → w.cell? (ad.add j) = some u)
    (hlen : l.length + n ≤ 1000000) (hbase : base ≤ w.heap.size)
    (h : ∀ v' w', IRow w' base v' (l ++ ns) → w.grownBy w' v.ownBlock → wpList Try.prog ops Q rest (a.put o.dst v') w') : wpList Try.prog ops Q (o :: rest) a w := by
  subst hn
  obtain ⟨i, hi, hz, hsz, hby⟩ := info3
  refine wpList_append_own w hgd s x 35 ho base 3 i (.int .i64 0) 1 8 (by kernel_rfl) hi hz hsz hby rfl (by decide) v l.length (nats .i64 l) hs hown ad ns.length c (nats .i64 ns) hx (by rw [Blk.nats_length, Nat.mul_one]) hnews (nats_each _)
    (by simp only [maxLen]; omega) (by omega) hbase ?_
  intro v' w' h1 h2 _
  refine h v' w' ?_ h2
  unfold IRow
  rw [nats_append, List.length_append]
  exact h1
theorem iappend_none {w : World} {ops : Array Oper} {rest : List Oper} {o : Oper} {a : Act} {Q : Exit → Act → World → Prop} (hgd : o.guard = none) (s x : Operand)
    (ho : o.op = .call { callee := .builtin .append, args := #[s, x], argTypes := #[35, 35] }) (base : Nat) (v : Value) (l : List Nat) (hs : a.eval s = v) (hown : IRow w base v l) (hx : a.eval x = .slice none 0 0)
    (h : wpList Try.prog ops Q rest (a.put o.dst v) w) : wpList Try.prog ops Q (o :: rest) a w := by
  obtain ⟨i, hi, _, _, _⟩ := info3
  exact wpList_append_own_none hgd s x 35 ho base 3 i 1 (by kernel_rfl) hi v l.length (nats .i64 l) hs hown hx h
theorem IRow.nums {w : World} {base : Nat} {v : Value} {l : List Nat} (h : IRow w base v l) (hl : l.length ≤ 1000000) : Nums w v l := by
  have hc := fun g (hg : v.ownBlock = some g) => World.ownsRow.cells h (g := g) hg
  rcases h.2 with ⟨rfl, h0⟩ | ⟨g, cap, cur, rfl, hbb, hg, h1, h2, h3, h4⟩
  · have e0 : l = [] := List.eq_nil_of_length_eq_zero h0
    subst e0
    exact ⟨none, 0, rfl, hl, fun i a hi => (by simp at hi)⟩
  · refine ⟨some ⟨g, 0, none⟩, cap, rfl, hl, fun i a hi => ⟨g, rfl, ?_⟩⟩
    have := hc g rfl i (.int .i64 (a : Int)) (by unfold nats; rw [List.getElem?_map, hi]; rfl)
    rw [← this]
    by_cases h0 : i = 0 <;> simp [Addr.add, h0]
/-- A list that is sorted, and has each number below its length. -/
def Ord (K : Nat → Int) (n : Nat) (l : List Nat) : Prop := l.length = n ∧ Sor K l 0 n ∧ ∀ v, v < n ↔ ∃ x, x < n ∧ l.getD x 0 = v
theorem Ordered.ord {K : Nat → Int} {n : Nat} {l : List Nat} (h : Ordered K n l) : Ord K n l := ⟨h.mem.1, h.1, h.mem.2⟩
theorem ord_one {K : Nat → Int} {n : Nat} {l m : List Nat} (h : Ord K n l) (h' : Ord K n m) : l = m := by
  obtain ⟨l1, ls, l2⟩ := h
  obtain ⟨m1, ms, m2⟩ := h'
  refine getD_eq_of (l1.trans m1.symm) ?_
  rw [l1]
  intro x
  induction x using Nat.strongRecOn with
  | ind x ih =>
    intro hx
    obtain ⟨z, z1, z2⟩ := (m2 _).1 ((l2 _).2 ⟨x, hx, rfl⟩)
    obtain ⟨y, y1, y2⟩ := (l2 _).1 ((m2 _).2 ⟨x, hx, rfl⟩)
    by_cases e : z = x
    · rw [← z2, e]
    · rcases Nat.lt_or_gt_of_ne e with h1 | h1
      · have := ih z h1 z1
        have h2 := ls z x (Nat.zero_le _) h1 hx
        rw [this, z2] at h2
        exact absurd h2 lx_irr
      · have h2 := ms x z (Nat.zero_le _) h1 z1
        rw [z2] at h2
        by_cases e' : y = x
        · rw [e'] at y2; exact y2
        · rcases Nat.lt_or_gt_of_ne e' with h3 | h3
          · have := ih y h3 y1
            have h4 := ms y x (Nat.zero_le _) h3 hx
            rw [← this, y2] at h4
            exact absurd h4 lx_irr
          · have h4 := ls x y (Nat.zero_le _) h3 y1
            rw [y2] at h4
            exact absurd (lx_trans h2 h4) lx_irr
theorem Ord.nil (K : Nat → Int) : Ord K 0 [] := ⟨rfl, fun x y h1 h2 h3 => by omega, fun v => ⟨fun h => by omega, fun ⟨x, h, _⟩ => by omega⟩⟩
theorem ins_at (l : List Nat) (k i x : Nat) (hk : k ≤ l.length) : (l.take k ++ [i] ++ l.drop k).getD x 0 = if x < k then l.getD x 0 else if x = k then i else l.getD (x - 1) 0 := by
  have hlt : (l.take k).length = k := by rw [List.length_take]; omega
  simp only [List.getD_eq_getElem?_getD]
  by_cases h1 : x < k
  · rw [if_pos h1, List.append_assoc, List.getElem?_append_left (by omega), List.getElem?_take_of_lt h1]
  · rw [if_neg h1]
    by_cases h2 : x = k
    · subst h2
      rw [if_pos rfl, List.append_assoc, List.getElem?_append_right (by omega), hlt, Nat.sub_self]
      rfl
    · rw [if_neg h2, List.getElem?_append_right (by rw [List.length_append, hlt]; simp; omega), List.length_append, hlt, List.getElem?_drop]
      congr 2
      simp
      omega
theorem Ord.next {K : Nat → Int} {i : Nat} {l : List Nat} (h : Ord K i l) (k : Nat) (hk : k ≤ i) (h1 : ∀ y, k ≤ y → y < i → K i < K (l.getD y 0)) (h2 : k = 0 ∨ K (l.getD (k - 1) 0) ≤ K i) : Ord K (i + 1) (l.take k ++ [i] ++ l.drop k) := by
  obtain ⟨a1, a2, a3⟩ := h
  have hat := fun x => ins_at l k i x (by omega)
  have low : ∀ x, x < k → lx K (l.getD x 0) i := fun x hx => by
    rcases h2 with h2 | h2
    · omega
    · have hl : l.getD (k - 1) 0 < i := (a3 _).2 ⟨k - 1, by omega, rfl⟩
      have e1 : lx K (l.getD (k - 1) 0) i := by unfold lx; omega
      by_cases e : x = k - 1
      · rw [e]; exact e1
      · exact lx_trans (a2 x (k - 1) (Nat.zero_le _) (by omega) (by omega)) e1
  refine ⟨by rw [List.length_append, List.length_append, List.length_take, List.length_drop]; simp; omega, fun x y _ hxy hy => ?_, fun v => ⟨fun hv => ?_, fun ⟨x, hx, e⟩ => ?_⟩⟩
  · rw [hat, hat]
    by_cases c1 : y < k
    · rw [if_pos (by omega), if_pos c1]; exact a2 x y (Nat.zero_le _) hxy (by omega)
    · rw [if_neg c1]
      by_cases c2 : y = k
      · rw [if_pos c2, if_pos (by omega)]; exact low x (by omega)
      · rw [if_neg c2]
        by_cases c3 : x < k
        · rw [if_pos c3]; exact a2 x (y - 1) (Nat.zero_le _) (by omega) (by omega)
        · rw [if_neg c3]
          by_cases c4 : x = k
          · rw [if_pos c4]; exact .inl (h1 (y - 1) (by omega) (by omega))
          · rw [if_neg c4]; exact a2 (x - 1) (y - 1) (Nat.zero_le _) (by omega) (by omega)
  · by_cases e : v = i
    · exact ⟨k, by omega, by rw [hat, if_neg (by omega), if_pos rfl, e]⟩
    · obtain ⟨x, x1, x2⟩ := (a3 v).1 (by omega)
      by_cases c : x < k
      · exact ⟨x, by omega, by rw [hat, if_pos c]; exact x2⟩
      · exact ⟨x + 1, by omega, by rw [hat, if_neg (by omega), if_neg (by omega), Nat.add_sub_cancel]; exact x2⟩
  · rw [hat] at e
    by_cases c1 : x < k
    · rw [if_pos c1] at e
      have := (a3 v).2 ⟨x, by omega, e⟩
      omega
    · rw [if_neg c1] at e
      by_cases c2 : x = k
      · rw [if_pos c2] at e; omega
      · rw [if_neg c2] at e
        have := (a3 v).2 ⟨x - 1, by omega, e⟩
        omega
end Go.Proofs.Ytagjgofnaplefaa.Wei
