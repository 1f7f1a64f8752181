/- Rows of bytes that may bear the run-time's mark behind their last cell ('[]byte(s)'): appended to, cut. Conditions: lengths that fit. -/
import Derived.ArgAppend
import Derived.Test.YticegglphmgoaaaByt
namespace Go.Proofs.Yticegglphmgoaaa.Byt
open Go Go.RowKit
open Blk (nats)
/-- A block known whole, whatever its mark. -/
def MIs (w : World) (b : Nat) (cs : List Value) (t : TypeId) (fr : Nat × Nat) : Prop := w.heap[b]? = some (.cells cs.toArray t fr)
theorem MIs.lt {w : World} {b : Nat} {cs : List Value} {t : TypeId} {fr : Nat × Nat} (h : MIs w b cs t fr) : b < w.heap.size := (Array.getElem?_eq_some_iff.1 h).1
theorem MIs.cell {w : World} {b : Nat} {cs : List Value} {t : TypeId} {fr : Nat × Nat} (h : MIs w b cs t fr) (i : Nat) : w.cell? ⟨b, i, none⟩ = cs[i]? := by
  unfold MIs at h
  simp [World.cell?, h]
theorem MIs.frozen {w : World} {b : Nat} {cs : List Value} {t : TypeId} {fr : Nat × Nat} (h : MIs w b cs t fr) (i : Nat) (hi : ¬ (fr.1 ≤ i ∧ i < fr.2)) : w.frozen? ⟨b, i, none⟩ = false := by
  unfold MIs at h
  simp only [World.frozen?, h]
  simp only [not_and, Nat.not_lt] at hi
  simp
  exact hi
theorem MIs.set {w : World} {b : Nat} {cs : List Value} {t : TypeId} {fr : Nat × Nat} (h : MIs w b cs t fr) (i : Nat) (v : Value) : MIs (w.setCell ⟨b, i, none⟩ v) b (cs.set i v) t fr := by
  have hb := h.lt
  unfold MIs at h ⊢
  simp only [World.setCell, Array.getElem?_modify, if_true, h, Option.map_some, Option.isSome_none, Bool.false_eq_true, if_false]
  simp
theorem MIs.setCells : ∀ (vs : List Value) {w : World} {b : Nat} {cs : List Value} {t : TypeId} {fr : Nat × Nat} (_ : MIs w b cs t fr) (o : Nat) (_ : o + vs.length ≤ cs.length), MIs (w.setCells b o vs) b (Blk.put cs o vs) t fr
  | [], w, b, cs, t, fr, h, o, _ => by rw [Blk.put_nil]; exact h
  | v :: r, w, b, cs, t, fr, h, o, hf => by
    simp only [List.length_cons] at hf
    rw [Blk.put_cons cs o v r (by omega)]
    exact MIs.setCells r (h.set o v) (o + 1) (by rw [List.length_set]; omega)
theorem grown_setCells : ∀ (vs : List Value) (w0 w : World) (b o : Nat), w0.grownBy w (some b) → w0.grownBy (w.setCells b o vs) (some b)
  | [], _, _, _, _, h => h
  | v :: r, w0, w, b, o, h => grown_setCells r w0 _ b (o + 1) ⟨h.os, h.tape, h.output, by rw [World.size_setCell]; exact h.size, fun k hk hne => (Below.heap_setCell _ _ _ _ (fun e => hne (by rw [e]))).trans (h.block k hk hne)⟩
/-- A slice of bytes that lies in a row of the call's own, marked or not, or is nil. -/
def MRow (w : World) (base : Nat) (e : TypeId) (v : Value) (l : List Nat) : Prop :=
  (v = .slice none 0 0 ∧ l = []) ∨ ∃ g cap cs fr, v = .slice (some ⟨g, 0, none⟩) l.length cap ∧ base ≤ g ∧ MIs w g cs e fr ∧ l.length ≤ cap ∧ cap ≤ maxLen ∧ cs.length = cap ∧ cs.take l.length = nats .u8 l ∧ ∀ j, j < cap → ¬ (fr.1 ≤ j ∧ j < fr.2)
theorem Row.m {w : World} {base : Nat} {e : TypeId} {v : Value} {l : List Nat} (h : Row w base e v l) : MRow w base e v l := by
  rcases h.2 with ⟨h1, h2⟩ | ⟨g, cap, cur, hv, hb, hg, h1, h2, h3, h4⟩
  · exact .inl ⟨h1, List.eq_nil_of_length_eq_zero h2⟩
  · refine .inr ⟨g, cap, cur.toList, (0, 0), hv, hb, hg, h1, h2, ?_, ?_, fun j _ => by omega⟩
    · rw [Array.length_toList, h3, Nat.mul_one]
    · rw [Nat.mul_one] at h4
      exact h4
theorem MRow.lt {w : World} {base : Nat} {e : TypeId} {v : Value} {l : List Nat} (h : MRow w base e v l) : ∀ k, v.ownBlock = some k → base ≤ k ∧ k < w.heap.size := by
  intro k hk
  rcases h with ⟨rfl, _⟩ | ⟨g, cap, cs, fr, rfl, hb, hg, _⟩
  · simp [Value.ownBlock] at hk
  · simp only [Value.ownBlock, Option.some.injEq] at hk
    subst hk
    exact ⟨hb, hg.lt⟩
theorem MRow.keep {w w' : World} {base : Nat} {e : TypeId} {v : Value} {l : List Nat} (h : MRow w base e v l) (hk : ∀ k, v.ownBlock = some k → w'.heap[k]? = w.heap[k]?) : MRow w' base e v l := by
  rcases h with h | ⟨g, cap, cs, fr, hv, hb, hg, r⟩
  · exact .inl h
  · refine .inr ⟨g, cap, cs, fr, hv, hb, ?_, r⟩
    unfold MIs at hg ⊢
    rw [hk g (by rw [hv]; rfl)]
    exact hg
theorem MRow.alloc {w : World} {base : Nat} {e : TypeId} {v : Value} {l : List Nat} (h : MRow w base e v l) (o : Obj) : MRow (w.alloc o) base e v l :=
  h.keep fun k hk => Below.heap_alloc w o k (h.lt k hk).2
theorem MRow.below {w w' : World} {base : Nat} {e : TypeId} {v : Value} {l : List Nat} (h : MRow w base e v l) (hb : Below w.heap.size w w') : MRow w' base e v l :=
  h.keep fun k hk => hb.block k (h.lt k hk).2
/-- What lies there. -/
theorem MRow.range {w : World} {base : Nat} {e : TypeId} {l : List Nat} {g n cap : Nat} (h : MRow w base e (.slice (some ⟨g, 0, none⟩) n cap) l) : w.rangeAt g 0 (nats .u8 l) := by
  rcases h with ⟨h, _⟩ | ⟨g', cap', cs, fr, hv, hb, hg, h1, h2, h3, h4, h5⟩
  · cases h
  · injection hv with e1 e2 e3
    injection e1 with e1
    injection e1 with e1
    subst e1
    intro j u hj
    rw [hg.cell, Nat.zero_add]
    rw [← h4] at hj
    have hjl : j < l.length := by
      have := (List.getElem?_eq_some_iff.1 hj).1
      rw [List.length_take] at this
      omega
    rw [List.getElem?_take_of_lt hjl] at hj
    exact hj
theorem MRow.cap {w : World} {base : Nat} {e : TypeId} {l : List Nat} {g n cap : Nat} (h : MRow w base e (.slice (some ⟨g, 0, none⟩) n cap) l) : l.length ≤ cap := by
  rcases h with ⟨h, _⟩ | ⟨g', cap', cs, fr, hv, hb, hg, h1, _⟩
  · cases h
  · injection hv with e1 e2 e3
    rw [e3]
    exact h1
theorem run_append {P : Program} {T e S : TypeId} (K : Kit P T e S) {w : World} {base : Nat} {v : Value} {l : List Nat} (ty : TypeId) (hown : MRow w base e v l) (ad : Addr) (c : Nat) (ns : List Nat) (hns : 0 < ns.length)
    (hnews : ∀ j u, (nats .u8 ns)[j]? = some u → w.cell? (ad.add j) = some u) (hlen : l.length + ns.length ≤ 140737488355328) (hbase : base ≤ w.heap.size) :
    ∃ g cap w', (Builtin.append_ #[T, T] ty #[v, .slice (some ad) ns.length c]).run P w = .ok (.slice (some ⟨g, 0, none⟩) (l ++ ns).length cap) w' ∧ MRow w' base e (.slice (some ⟨g, 0, none⟩) (l ++ ns).length cap) (l ++ ns) ∧ w.grownBy w' v.ownBlock := by
  obtain ⟨i, hi, hz, hsz, hby⟩ := info K
  rcases hown with ⟨rfl, rfl⟩ | ⟨g, cap, cs, fr, rfl, hb, hg, h1, h2, h3, h4, h5⟩
  · obtain ⟨v', w', hrun, hown', hgr, hnil⟩ := run_append_own (P := P) (w := w) base T ty e i (.int .u8 0) 1 1 K.hT hi hz hsz hby rfl (by decide) (.slice none 0 0) 0 [] (World.ownsRow_nil w base e 1) ad ns.length c (nats .u8 ns) (by rw [Blk.nats_length, Nat.mul_one]) hnews (nats_each _ _) (by simp only [maxLen]; simp at hlen; omega) (by simp at hlen; omega) hbase
    rw [Nat.zero_add, List.nil_append] at hown'
    have hrow : Row w' base e v' ns := hown'
    rcases hrow.m with ⟨rfl, h0⟩ | ⟨g, cap, cs, fr, rfl, r⟩
    · rw [h0] at hns; exact absurd hns (by decide)
    · exact ⟨g, cap, w', hrun, .inr ⟨g, cap, cs, fr, rfl, r⟩, hgr⟩
  · by_cases hroom : l.length + ns.length ≤ cap
    · have hnl : (nats .u8 ns).length = ns.length := Blk.nats_length _ _
      have hrun := run_append_room_cells (P := P) (w := w) T ty e i K.hT hi g 0 l.length cap ad ns.length c (nats .u8 ns) (by rw [hnl, hsz, Nat.mul_one]) hnews (nats_each _ _) hroom
        (fun j hj => by rw [hg.cell, hsz, List.getElem?_eq_getElem (by rw [hnl] at hj; omega)]; rfl) (fun j hj => hg.frozen _ (by rw [hnl] at hj; rw [hsz]; exact h5 _ (by omega)))
      rw [hsz, Nat.zero_add, Nat.mul_one] at hrun
      refine ⟨g, cap, _, by rw [List.length_append]; exact hrun, .inr ⟨g, cap, _, fr, rfl, hb, hg.setCells (nats .u8 ns) l.length (by rw [hnl]; omega), by rw [List.length_append]; exact hroom, h2, ?_, ?_, h5⟩, grown_setCells _ _ _ _ _ (World.grownBy.refl w _)⟩
      · rw [Blk.put_length _ _ _ (by rw [hnl]; omega), h3]
      · unfold Blk.put
        rw [h4, List.length_append, List.take_append_of_le_length (by rw [List.length_append, Blk.nats_length, hnl]; omega), List.take_of_length_le (by rw [List.length_append, Blk.nats_length, hnl]; omega), nats_append]
    · have holds : ∀ j u, (nats .u8 l)[j]? = some u → w.cell? ((⟨g, 0, none⟩ : Addr).add j) = some u := by
        intro j u hj
        have hjl : j < l.length := by
          have := (List.getElem?_eq_some_iff.1 hj).1
          rwa [Blk.nats_length] at this
        rw [show (⟨g, 0, none⟩ : Addr).add j = ⟨g, j, none⟩ by by_cases h : j = 0 <;> simp [Addr.add, h], hg.cell]
        rw [← h4, List.getElem?_take_of_lt hjl] at hj
        exact hj
      have hrun := run_append_grow (P := P) (w := w) T ty e i (.int .u8 0) K.hT hi hz ⟨g, 0, none⟩ l.length cap (nats .u8 l) (by rw [Blk.nats_length, hsz, Nat.mul_one]) holds ad ns.length c (nats .u8 ns) (by rw [Blk.nats_length, hsz, Nat.mul_one]) hnews (by omega) (by omega) (by rw [hby]; exact growslice_fits (by omega) (by omega))
      have hge := grownCap_ge w (l.length + ns.length) cap e
      have hcm : grownCap w (l.length + ns.length) cap e ≤ maxLen := grownCap_le_maxLen w (l.length + ns.length) cap e (by simp only [maxLen]; omega)
      refine ⟨w.heap.size, grownCap w (l.length + ns.length) cap e, w.drew.alloc (.cells ((nats .u8 l).toArray ++ (nats .u8 ns).toArray ++ Builtin.zeroCells (Value.int .u8 0).cells (grownCap w (l.length + ns.length) cap e - (l.length + ns.length))) e), by rw [List.length_append]; exact hrun,
        .inr ⟨w.heap.size, grownCap w (l.length + ns.length) cap e, nats .u8 l ++ nats .u8 ns ++ (Builtin.zeroCells (Value.int .u8 0).cells (grownCap w (l.length + ns.length) cap e - (l.length + ns.length))).toList, (0, 0), rfl, hbase, ?_, by rw [List.length_append]; exact hge, hcm, ?_, ?_, fun j _ => by omega⟩, ⟨rfl, rfl, rfl, by simp, fun k hk _ => Below.heap_alloc w.drew _ k hk⟩⟩
      · unfold MIs
        rw [show w.heap.size = w.drew.heap.size from rfl, heap_alloc_new]
        simp
      · simp only [List.length_append, Array.length_toList, size_zeroCells, Blk.nats_length]
        have : (Value.int .u8 0).cells.size = 1 := rfl
        rw [this]
        omega
      · rw [List.length_append, List.take_append_of_le_length (by rw [List.length_append, Blk.nats_length, Blk.nats_length]; omega), List.take_of_length_le (by rw [List.length_append, Blk.nats_length, Blk.nats_length]; omega), nats_append]
theorem mappend_wp {P : Program} {T e S : TypeId} (K : Kit P T e S) {w : World} {ops : Array Oper} {rest : List Oper} {o : Oper} {a : Act} {Q : Exit → Act → World → Prop} (hgd : o.guard = none) (s x : Operand)
    (ho : o.op = .call { callee := .builtin .append, args := #[s, x], argTypes := #[T, T] }) (base : Nat) (v : Value) (l : List Nat) (hs : a.eval s = v) (hown : MRow w base e v l)
    (ad : Addr) (c m : Nat) (ns : List Nat) (hx : a.eval x = .slice (some ad) m c) (hm : ns.length = m) (hns : 0 < m) (hnews : ∀ j u, (nats .u8 ns)[j]? = some u → w.cell? (ad.add j) = some u)
    (hlen : l.length + m ≤ 140737488355328) (hbase : base ≤ w.heap.size) (l' : List Nat) (hl' : l ++ ns = l') (N : Nat) (hN : l'.length = N)
    (h : ∀ g cap w', MRow w' base e (.slice (some ⟨g, 0, none⟩) N cap) l' → w.grownBy w' v.ownBlock → wpList P ops Q rest (a.put o.dst (.slice (some ⟨g, 0, none⟩) N cap)) w') : wpList P ops Q (o :: rest) a w := by
  subst hm hl' hN
  refine wpList_plain hgd fun K' hK => ?_
  obtain ⟨g, cap, w', hrun, hr, hg⟩ := run_append K o.type hown ad c ns hns hnews hlen hbase
  unfold Oper.wp
  simp [execOp, ho, resolve, invoke, builtin, hs, hx, hrun, Result.andThen]
  exact hK _ _ (by simpa using h g cap w' hr hg)
end Go.Proofs.Yticegglphmgoaaa.Byt
