/- Rows of floats: appended to; the document's Floats walked. Conditions: lengths that fit, words of 64 bits. -/
import Derived.Test.YtagjgofnaplefaaWeH
import Derived.Test.YtagjgofnaplefaaByt
import Derived.Deep.LoopGhost
namespace Go.Proofs.Ytagjgofnaplefaa.Wei
open Go.RowKit
open Flo
/-- Floats as cells. -/
def flos (l : List Nat) : List Value := l.map (Value.float .f64)
theorem flos_length (l : List Nat) : (flos l).length = l.length := by simp [flos]
theorem flos_append (l m : List Nat) : flos (l ++ m) = flos l ++ flos m := by simp [flos]
theorem flos_at (l : List Nat) (i : Nat) : (flos l)[i]? = (l[i]?).map (Value.float .f64) := by simp [flos]
theorem flos_each (l : List Nat) : ∀ v ∈ flos l, v.oneCell' = true := by
  intro v hv
  obtain ⟨n, _, rfl⟩ := List.mem_map.1 hv
  rfl
/-- A slice of floats that lies in a row of the call's own, or is nil. -/
def FRow (w : World) (base : Nat) (v : Value) (l : List Nat) : Prop := w.ownsRow base 23 1 v l.length (flos l)
theorem FRow.nil (w : World) (base : Nat) : FRow w base (.slice none 0 0) [] := World.ownsRow_nil w base 23 1
theorem FRow.keep {w w' : World} {base : Nat} {v : Value} {l : List Nat} (h : FRow w base v l) (hk : ∀ k, v.ownBlock = some k → w'.heap[k]? = w.heap[k]?) : FRow w' base v l := by
  refine ⟨h.1, ?_⟩
  rcases h.2 with h | ⟨g, cap, cur, hv, hb, hg, h1, h2, h3, h4⟩
  · exact .inl h
  · refine .inr ⟨g, cap, cur, hv, hb, ?_, h1, h2, h3, h4⟩
    rw [hk g (by rw [hv]; rfl)]
    exact hg
theorem FRow.lt {w : World} {base : Nat} {v : Value} {l : List Nat} (h : FRow w base v l) : ∀ k, v.ownBlock = some k → base ≤ k ∧ k < w.heap.size := World.ownsRow.lt h
theorem FRow.below {w w' : World} {base : Nat} {v : Value} {l : List Nat} (h : FRow w base v l) (hb : Below w.heap.size w w') : FRow w' base v l :=
  h.keep fun k hk => hb.block k (h.lt k hk).2
theorem FRow.alloc {w : World} {base : Nat} {v : Value} {l : List Nat} (h : FRow w base v l) (o : Obj) : FRow (w.alloc o) base v l :=
  h.keep fun k hk => Below.heap_alloc w o k (h.lt k hk).2
theorem info23 : ∃ i, Try.prog.info? 23 = some i ∧ i.zero = some (.float .f64 0) ∧ i.size = 1 ∧ i.bytes = 8 := by
  have h : (Try.prog.info? 23).map (fun i => (i.zero, i.size, i.bytes)) = some (some (.float .f64 0), 1, 8) := by kernel_rfl
  cases hq : Try.prog.info? 23 with
  | none => simp [hq] at h
  | some i =>
    simp [hq] at h
    exact ⟨i, rfl, h.1, h.2.1, h.2.2⟩
theorem fappend_wp {w : World} {ops : Array Oper} {rest : List Oper} {o : Oper} {a : Act} {Q : Exit → Act → World → Prop} (hgd : o.guard = none) (s x : Operand)
    (ho : o.op = .call { callee := .builtin .append, args := #[s, x], argTypes := #[31, 31] }) (base : Nat) (v : Value) (l : List Nat) (hs : a.eval s = v) (hown : FRow w base v l)
    (ad : Addr) (c : Nat) (y : Nat) (hx : a.eval x = .slice (some ad) 1 c) (hnew : w.cell? ad = some (.float .f64 y))
    (hlen : l.length + 1 ≤ 17592186044415) (hbase : base ≤ w.heap.size)
    (h : ∀ v' w', FRow w' base v' (l ++ [y]) → w.grownBy w' v.ownBlock → wpList Try.prog ops Q rest (a.put o.dst v') w') : wpList Try.prog ops Q (o :: rest) a w := by
  obtain ⟨i, hi, hz, hsz, hby⟩ : ∃ i, Try.prog.info? 23 = some i ∧ i.zero = some (.float .f64 0) ∧ i.size = 1 ∧ i.bytes = 8 := info23
  refine wpList_append_own w hgd s x 31 ho base 23 i (.float .f64 0) 1 8 (by kernel_rfl) hi hz hsz hby rfl (by decide) v l.length (flos l) hs hown ad 1 c (flos [y]) hx rfl (by
    intro j u hj
    cases j with
    | zero => obtain rfl := Option.some.inj hj; exact hnew
    | succ j => cases j <;> cases hj) (flos_each _)
    (by simp only [maxLen]; omega) (by omega) hbase ?_
  intro v' w' h1 h2 _
  refine h v' w' ?_ h2
  unfold FRow
  rw [flos_append, List.length_append]
  exact h1
/-- A slice of words that comes in. -/
def Words (w : World) (v : Value) (l : List Nat) : Prop := ∃ ao cap, v = .slice ao l.length cap ∧ l.length ≤ 1000000 ∧ (∀ (i a : Nat), l[i]? = some a → ∃ x : Addr, ao = some x ∧ w.cell? (x.add i) = some (.int .u64 (a : Int))) ∧ ∀ a ∈ l, a < 18446744073709551616
theorem add_blk (x : Addr) (i : Nat) : (x.add i).block = x.block := by by_cases h0 : i = 0 <;> simp [Addr.add, h0]
theorem Words.below {w w' : World} {v : Value} {l : List Nat} (h : Words w v l) (hb : Below w.heap.size w w') : Words w' v l := by
  obtain ⟨ao, cap, h1, h2, h3, h4⟩ := h
  refine ⟨ao, cap, h1, h2, fun i a hi => ?_, h4⟩
  obtain ⟨x, hx, hc⟩ := h3 i a hi
  exact ⟨x, hx, (hb.cell (World.block_lt_of_cell? _ _ hc)).trans hc⟩
set_option maxHeartbeats 4000000 in
set_option maxRecDepth 100000 in
theorem floats_any (v : Value) (l : List Nat) (w : World) (hv : Words w v l) : Calls Try.prog 13 #[v] w fun e w' => ∃ v', e = .returned v' ∧ FRow w' w.heap.size v' l ∧ Below w.heap.size w w' := by
  obtain ⟨ao, cap, rfl, hl, hc, hb⟩ := hv
  have k0 : Below w.heap.size w w := Below.refl _ _
  have HC := Lib.hid hc
  have HL := Lib.hid hl
  have HB := Lib.hid hb
  clear hc hl hb
  go_enter Try.func13, Try.ntmps13
  go_wp2_with fail
  generalize hn : l.length = n
  have HN := Lib.hid hn
  clear hn
  have hnb : n ≤ 1000000 := HN.out ▸ HL.out
  go_loopw [3, 4] (fun v i wr => ∃ k : Nat, k ≤ n ∧ i = .int .i64 k ∧ FRow wr w.heap.size v (l.take k) ∧ Below w.heap.size w wr) (fun _ i _ => n - (intOf i).toNat)
  case atStart => exact ⟨0, by omega, rfl, FRow.nil _ _, k0⟩
  case round =>
    clear k0
    obtain ⟨k, hkn, rfl, row, k1⟩ := hrel
    by_cases hlt : k < n
    · have hlt' : (k : Int) < (n : Int) := by omega
      have hlk : k < l.length := by rw [HN.out]; exact hlt
      obtain ⟨x, hx, hc⟩ := HC.out k l[k] (List.getElem?_eq_getElem hlk)
      have hc1 := (k1.cell (World.block_lt_of_cell? _ _ hc)).trans hc
      have HT : Go.RowKit.Hid (l.take (k + 1) = l.take k ++ [l[k]]) := Lib.hid (List.take_succ_eq_append_getElem hlk)
      have HTL : Go.RowKit.Hid ((l.take k).length = k) := Lib.hid (by rw [List.length_take]; omega)
      generalize l[k] = y at HT hc hc1
      subst hx
      have hf := run_frombits y wr
      have ROW := Lib.hid row
      clear row hc
      go_wp2_with (first | (refine fappend_wp rfl (.tmp 11) (.tmp 17) rfl w.heap.size _ (l.take k) rfl (ROW.out.alloc _) ⟨wr.heap.size, 0, none⟩ 1 y rfl ((Blk.new wr [.float .f64 y] 23).cell 0) (by rw [HTL.out]; have := HL.out; omega) (by have := k1.size; simp; omega) ?_) | fail)
      intro v5 w5 row5 hg5
      have k5 : Below w.heap.size w w5 := (k1.alloc k1.size _).grown hg5 (by have := k1.size; simp; omega) (fun k hk => (ROW.out.lt k hk).1)
      rw [← HT.out] at row5
      clear hg5 ROW hf
      go_wp2
      go_roundw
      case rel => exact ⟨k + 1, by omega, by go_num, row5, k5⟩
      case measure => simp [intOf]; omega
    · have hk' : k = n := by omega
      have hd6 : decide ((k : Int) < (n : Int)) = false := decide_eq_false (by omega)
      rw [hk', ← HN.out, List.take_length] at row
      clear hk'
      go_wp2
      exact bodyPost_ret (results_tmp rfl _ _ _) rfl ⟨u3, rfl, row, k1⟩
/-- A slice of floats that is there. -/
def Flos (w : World) (v : Value) (l : List Nat) : Prop := ∃ ao cap, v = .slice ao l.length cap ∧ l.length ≤ 1000000 ∧ (∀ (i a : Nat), l[i]? = some a → ∃ g : Nat, ao = some ⟨g, 0, none⟩ ∧ w.cell? ⟨g, i, none⟩ = some (.float .f64 a)) ∧ ∀ a ∈ l, a < 18446744073709551616
theorem Flos.below {w w' : World} {v : Value} {l : List Nat} (h : Flos w v l) (hb : Below w.heap.size w w') : Flos w' v l := by
  obtain ⟨ao, cap, h1, h2, h3, h4⟩ := h
  refine ⟨ao, cap, h1, h2, fun i a hi => ?_, h4⟩
  obtain ⟨x, hx, hc⟩ := h3 i a hi
  exact ⟨x, hx, (hb.cell (World.block_lt_of_cell? _ _ hc)).trans hc⟩
theorem FRow.flos {w : World} {base : Nat} {v : Value} {l : List Nat} (h : FRow w base v l) (hl : l.length ≤ 1000000) (hb : ∀ a ∈ l, a < 18446744073709551616) : Flos w v l := by
  have hc := fun g (hg : v.ownBlock = some g) => World.ownsRow.cells h (g := g) hg
  rcases h.2 with ⟨rfl, h0⟩ | ⟨g, cap, cur, rfl, hbb, hg, h1, h2, h3, h4⟩
  · have e0 : l = [] := List.eq_nil_of_length_eq_zero h0
    subst e0
    exact ⟨none, 0, rfl, hl, fun i a hi => (by simp at hi), hb⟩
  · refine ⟨some ⟨g, 0, none⟩, cap, rfl, hl, fun i a hi => ⟨g, rfl, ?_⟩, hb⟩
    have := hc g rfl i (.float .f64 a) (by rw [flos_at, hi]; rfl)
    rw [← this]
    by_cases h0 : i = 0 <;> simp [Addr.add, h0]
/-- Which of some floats is least, of the first so many. -/
def leastOf (l : List Nat) : Nat → Int
  | 0 => -1
  | k + 1 => if leastOf l k < 0 ∨ key (l.getD k 0) < key (l.getD (leastOf l k).toNat 0) then (k : Int) else leastOf l k
theorem leastOf_range (l : List Nat) : ∀ k, -1 ≤ leastOf l k ∧ leastOf l k < (k : Int)
  | 0 => by simp [leastOf]
  | k + 1 => by
    have := leastOf_range l k
    unfold leastOf
    split <;> omega
end Go.Proofs.Ytagjgofnaplefaa.Wei
