/- Operations that make or write memory, but for append: what the executor tells of them is what the model does. No condition. -/
import Derived.Test.YtlagmjdifilheaaGreatExG
namespace Go.Proofs.YtlagmjdifilheaaGreat.Exe
open Go Go.RowKit
section loud
variable {E : Env} {P : Program} {B : Nat → Prop} {w0 w : World} {h : Hp} {η : Operand → Value} {a : Act}
/-- A new row whose length is known. -/
theorem alloc_row (W : WR E P B w0 w h) {vs : List Value} {xs : Array Value} {e : TypeId} {i : Nat} {h' : Hp} (ha : h.alloc (Blk.of vs e false) = some (i, h')) (hR : RelL E vs xs.toList) :
    ∃ E', Grow E h E' h' ∧ E'.ρ i = some w.heap.size ∧ WR E' P B w0 (w.alloc (.cells xs e)) h' := by
  have hi : i = h.next := (allocOb_some ha).1
  have hle : E.le (E.upd i w.heap.size 0) := Env.le_upd (by rw [hi]; exact W.fresh _ (Nat.le_refl _))
  obtain ⟨k1, _, k3⟩ := W.alloc (o := .cells xs e) (c := 0) ha ⟨xs, (0, 0), rfl, fun k _ => by simp, by
    rw [Blk.of_cells]
    have := hR.length
    rw [show xs.toList.take vs.length = xs.toList by rw [this]; exact List.take_length]
    exact hR.mono hle, (fun _ => by rw [Blk.of_cells]; simpa using hR.length.symm), (fun h => by cases h)⟩
  exact ⟨_, Grow.upd hi (allocOb_next ha) (by rw [hi]; exact W.fresh _ (Nat.le_refl _)), k3, k1⟩
/-- A new row of a capacity that was drawn. -/
theorem alloc_grow (W : WR E P B w0 w h) {blk : Blk} {vs : List Value} {xs : Array Value} {e : TypeId} {fr : Nat × Nat} {i c : Nat} {h' : Hp} {info : TypeInfo} (hinfo : P.info? e = some info) (ha : h.alloc blk = some (i, h')) (hv : blk.cells = vs) (he : blk.elem = e) (hg : blk.grow = true)
    (hR : RelL E vs (xs.toList.take vs.length)) (hs : xs.size = c * info.size) (hfr : ∀ k, k < xs.size → ¬ (fr.1 ≤ k ∧ k < fr.2)) :
    ∃ E', Grow E h E' h' ∧ E'.ρ i = some w.heap.size ∧ E'.κ i = c ∧ WR E' P B w0 (w.alloc (.cells xs e fr)) h' := by
  have hi : i = h.next := (allocOb_some ha).1
  have hle : E.le (E.upd i w.heap.size c) := Env.le_upd (by rw [hi]; exact W.fresh _ (Nat.le_refl _))
  obtain ⟨k1, _, k3⟩ := W.alloc (o := .cells xs e fr) (c := c) ha ⟨xs, fr, by rw [he], hfr, by rw [hv]; exact hR.mono hle, (fun h => by rw [hg] at h; cases h), (fun _ => ⟨info, by rw [he]; exact hinfo, by rw [(Env.upd_same _ _ _ _).2]; exact hs⟩)⟩
  exact ⟨_, Grow.upd hi (allocOb_next ha) (by rw [hi]; exact W.fresh _ (Nat.le_refl _)), k3, (Env.upd_same _ _ _ _).2, k1⟩
theorem WR.drew (W : WR E P B w0 w h) : WR E P B w0 w.drew h := ⟨W.below.drew, W.base, W.live, W.inj, W.fresh⟩
theorem zerosL_eq {zs : Array Value} {n : Nat} (hn : zs.size = n) : ∀ len, ((List.range (len * n)).map fun i => zs[i % n]!) = zerosL zs.toList len
  | 0 => by simp [zerosL]
  | len + 1 => by
    rw [zerosL, Nat.succ_mul, Nat.add_comm, List.range_add, List.map_append, List.map_map, ← zerosL_eq hn len]
    congr 1
    · apply List.ext_getElem?
      intro k
      by_cases hk : k < n
      · have h1 : k < zs.size := by omega
        simp [hk, Nat.mod_eq_of_lt hk, h1]
      · simp [hk, hn]
    · congr 1
      funext i
      simp [Function.comp]
theorem zeros_run {zs : Array Value} {n len : Nat} (hn : zs.size = n) : ((Array.range (len * n)).map fun i => (if len * n = 0 then (#[] : Array Value) else zs)[i % (if len * n = 0 then (#[] : Array Value) else zs).size]!) = (zerosL zs.toList len).toArray := by
  by_cases h0 : len * n = 0
  · rw [← zerosL_eq hn]
    simp [h0]
  · simp only [h0, if_false]
    rw [← zerosL_eq hn, hn]
    apply Array.toList_inj.1
    simp
theorem RelL.refl_cells {v : Value} (h : flatB v = true) : RelL E v.cells.toList v.cells.toList := (Rel.refl_flat h).cells
theorem RelL.zeros {l l' : List Value} (hR : RelL E l l') : ∀ n, RelL E (zerosL l n) (zerosL l' n)
  | 0 => trivial
  | n + 1 => hR.append (RelL.zeros hR n)
theorem firstQ_ok (W : WR E P B w0 w h) {z n : Nat} {v x : Value} {new : List Value} (hq : firstQ h z n v = some new) (hr : Rel E v x) :
    ∃ xs, RelL E new xs ∧ (Builtin.firstCells z n x).run P w = .ok xs.toArray w := by
  unfold firstQ at hq
  split at hq
  · cases hq
    obtain rfl := hr.of_leaf rfl
    exact ⟨[], trivial, rfl⟩
  · rename_i i off len cap
    obtain ⟨b, cap', hρ, rfl, _⟩ := hr.to_slice
    obtain ⟨cs', _, h3, _, h4⟩ := run_cells W hρ hq
    exact ⟨cs', h3, h4⟩
  · rename_i s
    cases hq
    obtain rfl := hr.of_string
    refine ⟨_, RelL.refl_leaf (List.all_eq_true.2 fun x hx => ?_), ?_⟩
    · obtain ⟨b, _, rfl⟩ := List.mem_map.1 hx
      rfl
    · simp only [Builtin.firstCells, Sem.run_pure]
      congr 1
      apply Array.toList_inj.1
      simp [extract_data]
  · cases hq
theorem opStore_ok (W : WR E P B w0 w h) {t : TypeId} {u v x y : Value} {h' : Hp} (hq : storeL P h t u v = some h') (hu : Rel E u x) (hv : Rel E v y) :
    ∃ w', (Instr.storeAt t x y).run P w = .ok () w' ∧ WR E P B w0 w' h' := by
  unfold storeL at hq
  split at hq
  · rename_i i off n hS
    obtain ⟨b, hρ, rfl⟩ := hu.to_ptr
    split at hq
    · rename_i hn
      have hc := hv.cells
      have hsz : y.cells.size = n := by have := hc.length; simp at this; omega
      obtain ⟨w', h1, h2⟩ := run_stores W hq hc hρ
      exact ⟨w', by simp [Instr.storeAt, Instr.sureAddr, storeVar, run_size hS, hsz, h1], h2⟩
    · cases hq
  · cases hq
theorem RelM.modify {es : List Ent} {es' : List MapEntry} {i : Nat} {f : Ent → Ent} {g : MapEntry → MapEntry} (hM : RelM E es es') (hf : ∀ e e', es[i]? = some e → es'[i]? = some e' → (e'.key = e.key ∧ e'.born = e.born ∧ Rel E e.val e'.val) → (g e').key = (f e).key ∧ (g e').born = (f e).born ∧ Rel E (f e).val (g e').val) :
    RelM E (es.modify i f) (es'.modify i g) := by
  refine ⟨by simp [hM.1], fun k e e' h1 h2 => ?_⟩
  rw [List.getElem?_modify] at h1 h2
  cases ha : es[k]? with
  | none => simp [ha] at h1
  | some e0 =>
    cases hb : es'[k]? with
    | none => simp [hb] at h2
    | some e0' =>
      simp only [ha, hb, Option.map_eq_map, Option.map_some, Option.some.injEq] at h1 h2
      subst h1 h2
      by_cases hk : i = k
      · subst hk
        simp only [if_true]
        exact hf e0 e0' ha hb (hM.2 i e0 e0' ha hb)
      · simp only [hk, if_false]
        exact hM.2 k e0 e0' ha hb
theorem keyStays_ok {k : Value} {d : TypeDesc} (hk : keyD d k = true) : (Instr.keyThatStays k k).run P w = .ok k w := by
  obtain ⟨n, hn⟩ : ∃ n, Instr.sameBits 10000 k k = Instr.sameBits (n + 1) k k := ⟨9999, rfl⟩
  have : Instr.sameBits 10000 k k = true := by
    rw [hn]
    cases d <;> cases k <;> simp [keyD] at hk <;> simp [Instr.sameBits, beq_bytes]
  simp [Instr.keyThatStays, this]
theorem opUpdate_ok (W : WR E P B w0 w h) {t : TypeId} {m k v m' k' v' : Value} {h' : Hp} (hq : updateL P h t m k v = some h') (hm : Rel E m m') (hk : Rel E k k') (hv : Rel E v v') :
    ∃ w', (Instr.mapUpdate t m' k' v').run P w = .ok () w' ∧ WR E P B w0 w' h' := by
  unfold updateL at hq
  split at hq
  · rename_i kt et i hu
    obtain ⟨b, hρ, rfl⟩ := hm.to_map
    split at hq
    · rename_i hkb
      obtain ⟨d, hd, hkd⟩ := keyB_d hkb
      obtain rfl := leaf_key hkd hk
      split at hq
      · rename_i es clock ho
        obtain ⟨es', _, h3, h4⟩ := W.map hρ ho
        cases hf : findQ k' es 0 with
        | none => simp [hf] at hq
        | some r =>
          simp only [hf, Option.map_some, Option.some.injEq] at hq
          obtain ⟨r', k1, k2⟩ := findQ_ok hkd 0 h4 hf
          have hfk : (Instr.findKey kt k' es'.toList).run P w = .ok r' w := by simp [Instr.findKey, run_und hd, k1]
          have hset : ∀ o, (setObj b o).run P w = .ok () (w.putObj b o) := fun o => by simp [setObj, Sem.run, h3, World.putObj]
          have hbase : (Instr.mapUpdate t (.map (some b)) k' v').run P w = (match (generalizing := false) r' with
            | some (i, _) => do
              let key ← Instr.keyThatStays (((es'[i]?).map (·.key)).getD k') k'
              setObj b (.map (es'.modify i fun e => { e with key, val := v' }) clock)
            | none => setObj b (.map (es'.push { key := k', val := v', born := clock }) (clock + 1)) : Sem Unit).run P w := by
            simp only [Instr.mapUpdate, Sem.run_bind, run_und hu, Result.andThen_ok, run_getMap h3, checkKey_ok hd hkd, hfk]
            clear k1 k2 hfk
            cases r' <;> rfl
          cases r with
          | none => cases r' with
            | some p => exact k2.elim
            | none =>
              refine ⟨_, by rw [hbase]; exact hset _, ?_⟩
              rw [← hq]
              refine W.update ho hρ ⟨_, rfl, ?_, ?_⟩
              · simp [h4.1]
              · intro n e e' a1 a2
                simp only [Array.toList_push] at a2
                rcases Nat.lt_or_ge n es.length with hn | hn
                · rw [List.getElem?_append_left hn] at a1
                  rw [List.getElem?_append_left (by rw [h4.1]; exact hn)] at a2
                  exact h4.2 n e e' a1 a2
                · rw [List.getElem?_append_right hn] at a1
                  rw [List.getElem?_append_right (by rw [h4.1]; exact hn), h4.1] at a2
                  cases hz : n - es.length with
                  | zero =>
                    rw [hz] at a1 a2
                    simp at a1 a2
                    subst a1 a2
                    exact ⟨rfl, rfl, hv⟩
                  | succ z => rw [hz] at a1; simp at a1
          | some p => cases r' with
            | none => exact k2.elim
            | some p' =>
              obtain ⟨a1, _, _, e, e', a4, a5, a6, a7⟩ := k2
              obtain ⟨n, v0⟩ := p
              obtain ⟨n', v0'⟩ := p'
              dsimp only at a1 a4 a5
              subst a1
              simp only [Nat.sub_zero] at a4 a5
              have hkey : ((es'[n]?).map (·.key)).getD k' = k' := by
                have : es'[n]? = some e' := by simpa using a5
                simp [this, a6, a7]
              refine ⟨_, by rw [hbase]; simp only [hkey, Sem.run_bind, keyStays_ok hkd, Result.andThen_ok]; exact hset _, ?_⟩
              rw [← hq]
              refine W.update ho hρ ?_
              have hM := RelM.modify (i := n) (f := fun e => { e with val := v }) (g := fun e => { e with key := k', val := v' }) h4 (fun f f' b1 b2 b3 => by
                rw [a4] at b1
                cases b1
                exact ⟨a7, b3.2.1, hv⟩)
              exact ⟨_, rfl, by simpa using hM.1, fun q g g' c1 c2 => hM.2 q g g' c1 (by simpa using c2)⟩
      · cases hq
    · cases hq
  · cases hq
end loud
end Go.Proofs.YtlagmjdifilheaaGreat.Exe
