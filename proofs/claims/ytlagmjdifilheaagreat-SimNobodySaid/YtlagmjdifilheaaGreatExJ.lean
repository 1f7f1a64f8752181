/- append by names, and all operations that make or write memory. No condition. -/
import Derived.Test.YtlagmjdifilheaaGreatExI
namespace Go.Proofs.YtlagmjdifilheaaGreat.Exe
open Go Go.RowKit
section app
variable {E : Env} {P : Program} {B : Nat → Prop} {w0 w : World} {h : Hp} {η : Operand → Value} {a : Act}
theorem setAll_take_end : ∀ (vs cs : List Value) (n : Nat), n + vs.length ≤ cs.length → (setAll cs n vs).take (n + vs.length) = cs.take n ++ vs
  | [], cs, n, _ => by simp [setAll]
  | v :: vs, cs, n, hl => by
    simp only [setAll, List.length_cons] at hl ⊢
    rw [show n + (vs.length + 1) = (n + 1) + vs.length by omega, setAll_take_end vs (cs.set n v) (n + 1) (by simp; omega)]
    have : (cs.set n v).take (n + 1) = cs.take n ++ [v] := by
      rw [List.take_add_one, List.take_set_of_le (Nat.le_refl _)]
      congr 1
      have hn : n < cs.length := by omega
      simp [hn]
    rw [this]
    simp
theorem relL_size {vs : List Value} {xs : Array Value} (h : RelL E vs xs.toList) : xs.size = vs.length := by
  have := h.length
  simpa using this.symm
theorem zeroCells_size (zv : Array Value) (n : Nat) : (Builtin.zeroCells zv n).size = n * zv.size := by simp [Builtin.zeroCells]
/-- A new row behind a drawn capacity. -/
theorem grow_row (W : WR E P B w0 w h) {blk : Blk} {e : TypeId} {vs : List Value} {xs zs : Array Value} {i c m z : Nat} {h' : Hp} {info : TypeInfo} (hinfo : P.info? e = some info) (hz : info.size = z) (ha : h.alloc blk = some (i, h')) (hv : blk.cells = vs) (he : blk.elem = e) (hg : blk.grow = true) (hR : RelL E vs xs.toList)
    (hl : vs.length = m * z) (hm : m ≤ c) (hzs : zs.size = (c - m) * z) : ∃ E', Grow E h E' h' ∧ WR E' P B w0 (w.alloc (.cells (xs ++ zs) e)) h' ∧ Rel E' (.slice (some ⟨i, 0, none⟩) m capG) (.slice (some ⟨w.heap.size, 0, none⟩) m c) := by
  have hxs := relL_size hR
  obtain ⟨E', k1, k2, k3, k4⟩ := alloc_grow W (xs := xs ++ zs) (fr := (0, 0)) (c := c) hinfo ha hv he hg (by
    have : (xs ++ zs).toList.take vs.length = xs.toList := by
      rw [Array.toList_append, List.take_append_of_le_length (by simp [hxs])]
      exact List.take_of_length_le (by rw [Array.length_toList, hxs]; exact Nat.le_refl _)
    rw [this]; exact hR) (by
    rw [Array.size_append, hxs, hzs, hl, hz, ← Nat.add_mul]; congr 1; omega) (fun k _ => by simp)
  exact ⟨E', k1, k4, .slice i _ _ _ _ _ k2 hm (fun hc => by simp at hc) (fun _ => ⟨rfl, k3.symm⟩)⟩
theorem appendL_ok (W : WR E P B w0 w h) {ts tx e ty : TypeId} {z n : Nat} {base : Option Addr} {len cap : Nat} {new : List Value} {s x v : Value} {h' : Hp} {app : Sem (Array Value)} (hA : App P ts tx e z n x app) (hz : szQ P e = some z)
    (hq : appendL P h e base len cap new n = some (v, h')) (hs : Rel E (.slice base len cap) s) (happ : ∀ w, WR E P B w0 w h → ∃ xs : Array Value, RelL E new xs.toList ∧ app.run P w = .ok xs w) :
    ∃ E' y w', Grow E h E' h' ∧ Rel E' v y ∧ WR E' P B w0 w' h' ∧ (Builtin.append_ #[ts, tx] ty #[s, x]).run P w = .ok y w' := by
  unfold appendL at hq
  cases hbs : bytesQ P e with
  | none => simp [hz, hbs] at hq
  | some bs =>
  cases hzv : zeroQ P e with
  | none => simp [hz, hbs, hzv] at hq
  | some zv =>
  simp only [hz, hbs, hzv, Option.bind_some] at hq
  split at hq
  · cases hq
  rename_i hc
  simp only [Bool.or_eq_true, decide_eq_true_eq, Bool.not_eq_true', not_or, Bool.not_eq_false, Nat.not_lt] at hc
  obtain ⟨⟨⟨⟨⟨⟨hz0, hzs⟩, hcell⟩, hnl⟩, hlen⟩, hbs0⟩, hbs1⟩ := hc
  have hzs' : zv.cells.size = z := by simpa using hzs
  have hnl' : new.length = n * z := by simpa using hnl
  have hbound : (len + n) * bs ≤ 2 ^ 47 := by
    have := Nat.mul_le_mul hlen hbs1
    omega
  obtain ⟨info, hinfo, hisz⟩ : ∃ i, P.info? e = some i ∧ i.size = z := by
    unfold szQ at hz
    cases hi : P.info? e with
    | none => simp [hi] at hz
    | some i => exact ⟨i, rfl, by simpa [hi] using hz⟩
  split at hq
  · -- no block yet
    split at hq
    · rename_i hlc
      obtain ⟨rfl, rfl⟩ := hlc
      obtain rfl := hs.of_leaf rfl
      split at hq
      · rename_i hn0
        cases hq
        obtain ⟨xs, k1, k2⟩ := happ w W
        have hx0 : xs = #[] := by
          have := relL_size k1
          rw [hnl', hn0] at this
          simpa using this
        rw [hx0] at k2
        exact ⟨E, _, w, Grow.refl _ _, .leaf _ rfl, W, hA.nil ty w hn0 k2⟩
      · rename_i hn0
        cases ha : h.alloc (Blk.of new e true) with
        | none => simp [ha] at hq
        | some p =>
          obtain ⟨j, hp⟩ := p
          simp only [ha, Option.map_some, Option.some.injEq, Prod.mk.injEq] at hq
          obtain ⟨rfl, rfl⟩ := hq
          obtain ⟨xs, k1, k2⟩ := happ w.drew W.drew
          obtain ⟨c, c1, c2⟩ := hA.grow ty none 0 0 #[] xs zv bs w (by omega) hbs hbs0 hbound hlen hzv rfl k2
          simp only [Nat.zero_add] at c1 c2
          obtain ⟨E', e1, e2, e3⟩ := grow_row W.drew (zs := Builtin.zeroCells zv.cells (c - n)) hinfo hisz ha (Blk.of_cells _ _ _) rfl rfl (by simpa using k1) hnl' c1 (by rw [zeroCells_size, hzs'])
          refine ⟨E', _, _, e1, e3, e2, ?_⟩
          simpa using c2
    · cases hq
  · rename_i i off
    obtain ⟨b, cap', hρ, rfl, hl, hk, hg⟩ := hs.to_slice
    split at hq
    · -- nothing is appended
      rename_i hn0
      cases hq
      subst hn0
      obtain ⟨xs, k1, k2⟩ := happ w W
      have hx0 : xs = #[] := by
        have := relL_size k1
        rw [hnl', Nat.zero_mul] at this
        simpa using this
      subst hx0
      exact ⟨E, _, w, Grow.refl _ _, .slice i b off len cap cap' hρ hl hk hg, W, hA.inp ty _ len cap' #[] w w hl k2 rfl⟩
    · rename_i hn0
      split at hq
      · rename_i hcg
        have hcap := hk hcg
        subst hcap
        split at hq
        · -- there is room
          rename_i hroom
          cases hst : storeCellsL h i (off + len * z) new with
          | none => simp [hst] at hq
          | some hp =>
            simp only [hst, Option.map_some, Option.some.injEq, Prod.mk.injEq] at hq
            obtain ⟨rfl, rfl⟩ := hq
            obtain ⟨xs, k1, k2⟩ := happ w W
            obtain ⟨w', s1, s2⟩ := run_stores W hst k1 hρ
            exact ⟨E, _, w', Grow.same (storeCellsL_next hst), .slice i b off _ _ _ hρ hroom (fun _ => rfl) (fun e => by omega), s2, hA.inp ty _ len cap' xs w w' hroom k2 (by rw [add_none]; exact s1)⟩
        · rename_i hroom
          cases hold : cellsAt h i off (len * z) with
          | none => simp [hold] at hq
          | some old =>
            cases ha : h.alloc (Blk.of (old ++ new) e true) with
            | none => simp [hold, ha] at hq
            | some p =>
              obtain ⟨j, hp⟩ := p
              simp only [hold, Option.bind_some, ha, Option.map_some, Option.some.injEq, Prod.mk.injEq] at hq
              obtain ⟨rfl, rfl⟩ := hq
              obtain ⟨xs, k1, k2⟩ := happ w.drew W.drew
              obtain ⟨ol, _, o3, o4, o5⟩ := run_cells W.drew hρ hold
              obtain ⟨c, c1, c2⟩ := hA.grow ty (some ⟨b, off, none⟩) len cap' ol.toArray xs zv bs w hroom hbs hbs0 hbound hlen hzv o5 k2
              obtain ⟨E', e1, e2, e3⟩ := grow_row W.drew (xs := ol.toArray ++ xs) (zs := Builtin.zeroCells zv.cells (c - (len + n))) hinfo hisz ha (Blk.of_cells _ _ _) rfl rfl (by simpa using o3.append k1) (by rw [List.length_append, o4, hnl', Nat.add_mul]) c1 (by rw [zeroCells_size, hzs'])
              exact ⟨E', _, _, e1, e3, e2, c2⟩
      · split at hq
        · rename_i hcg
          subst hcg
          obtain ⟨rfl, hκ⟩ := hg rfl
          split at hq
          · rename_i blk hblk
            split at hq
            · rename_i hb
              simp only [Bool.and_eq_true, decide_eq_true_eq] at hb
              obtain ⟨⟨hgrow, helem⟩, hcl⟩ := hb
              rw [← Blk.length] at hcl
              subst helem
              obtain ⟨cs, fr, r2, r3, r4, r5, _, r7⟩ := W.row hblk hρ
              obtain ⟨info', i1, i2⟩ := r7 hgrow
              obtain rfl : info = info' := Option.some.inj (hinfo.symm.trans i1)
              rw [← hκ, hisz] at i2
              have hsmall : i < roomN := Hp.ob_small (by rw [Hp.get_ob hblk]; rfl)
              cases ha : (h.put i none).alloc (blk.ext new) with
              | none => simp [ha] at hq
              | some p =>
                obtain ⟨j, hp⟩ := p
                simp only [ha, Option.map_some, Option.some.injEq, Prod.mk.injEq] at hq
                obtain ⟨rfl, rfl⟩ := hq
                by_cases hroom : len + n ≤ cap'
                · -- there is room: the block goes on under another name
                  obtain ⟨xs, k1, k2⟩ := happ w W
                  have hxs := relL_size k1
                  have hfit : len * z + xs.toList.length ≤ cs.size := by
                    rw [Array.length_toList, hxs, hnl', i2, ← Nat.add_mul]
                    exact Nat.mul_le_mul_right _ hroom
                  have hst := run_store_cells (P := P) (off := len * z) xs.toList 0 cs w r3 r4 (by omega) (k1.allCell hcell)
                  have hlt := (Array.getElem?_eq_some_iff.1 r3).1
                  have Wk := W.kill i hsmall
                  have hj : j = h.next := (allocOb_some ha).1
                  have hle : E.le (E.upd j b cap') := Env.le_upd (by rw [hj]; exact W.fresh _ (Nat.le_refl _))
                  have hnew := Wk.name (w' := w.putObj b (.cells (setAll cs.toList (len * z + 0) xs.toList).toArray blk.elem fr)) (ob := .row (blk.ext new)) (b := b) (c := cap') (o := .cells (setAll cs.toList (len * z + 0) xs.toList).toArray blk.elem fr)
                    ⟨rfl, rfl, rfl, by simp, fun k _ hk => World.putObj_heap_other (by rintro rfl; exact hk r2)⟩ ha r2
                    (fun k hk he => by
                      by_cases hki : k = i
                      · rw [hki, Hp.ob_put_same hsmall] at hk; cases hk
                      · rw [Hp.ob_put_other hsmall hki] at hk
                        exact hki (W.inj k i b hk (by rw [Hp.get_ob hblk]; rfl) he hρ))
                    (fun k hk _ => World.putObj_heap_other hk) (World.putObj_heap_same hlt)
                    ⟨_, fr, rfl, by simpa [setAll_length] using r4, by
                      have e1 : (setAll cs.toList (len * z + 0) xs.toList).take (blk.cells ++ new).length = cs.toList.take blk.cells.length ++ xs.toList := by
                        have := setAll_take_end xs.toList cs.toList (len * z) (by rw [Array.length_toList, Array.length_toList]; rw [Array.length_toList] at hfit; exact hfit)
                        rw [Nat.add_zero, List.length_append, hcl, show new.length = xs.toList.length from k1.length]
                        exact this
                      rw [Blk.ext_cells]
                      show RelL _ (blk.cells ++ new) ((setAll cs.toList (len * z + 0) xs.toList).take (blk.cells ++ new).length)
                      rw [e1]
                      exact (r5.append k1).mono hle, (fun h => by rw [show (blk.ext new).grow = blk.grow from rfl, hgrow] at h; cases h), (fun _ => ⟨info, hinfo, by
                        rw [List.size_toArray, setAll_length, Array.length_toList, i2]
                        show cap' * z = (E.upd j b cap').κ j * info.size
                        rw [(Env.upd_same _ _ _ _).2, hisz]⟩)⟩
                  refine ⟨E.upd j b cap', .slice (some ⟨b, 0, none⟩) (len + n) cap', _, Grow.upd hj (show hp.next = h.next + 1 from allocOb_next (h := h.put i none) ha) (by rw [hj]; exact W.fresh _ (Nat.le_refl _)), .slice _ _ _ _ _ _ (Env.upd_same _ _ _ _).1 hroom (fun hc => by simp at hc) (fun _ => ⟨rfl, (Env.upd_same _ _ _ _).2.symm⟩), hnew, ?_⟩
                  exact hA.inp ty _ len cap' xs w _ hroom k2 (by rw [add_none, Nat.zero_add]; exact hst)
                · -- there is none
                  obtain ⟨xs, k1, k2⟩ := happ w.drew W.drew
                  have hold : cellsAt h i 0 (len * z) = some blk.cells := by
                    unfold cellsAt
                    rw [hblk]
                    rw [← hcl]
                    have hb : Nat.ble (0 + blk.cells.length) blk.raw.len = true := Nat.ble_eq_true_of_le (by rw [← Blk.length]; omega)
                    dsimp only
                    rw [hb, Row.sub_list, cond_true, List.drop_zero]
                    show some (List.take blk.cells.length blk.cells) = _
                    rw [List.take_length]
                  obtain ⟨ol, _, o3, o4, o5⟩ := run_cells W.drew hρ hold
                  obtain ⟨c, c1, c2⟩ := hA.grow ty (some ⟨b, 0, none⟩) len cap' ol.toArray xs zv bs w hroom hbs hbs0 hbound hlen hzv o5 k2
                  obtain ⟨E', e1, e2, e3⟩ := grow_row (W.drew.kill i hsmall) (xs := ol.toArray ++ xs) (zs := Builtin.zeroCells zv.cells (c - (len + n))) hinfo hisz ha (Blk.ext_cells _ _) rfl hgrow (by simpa using o3.append k1) (by rw [List.length_append, hcl, hnl', Nat.add_mul]) c1 (by rw [zeroCells_size, hzs'])
                  exact ⟨E', _, _, e1, e3, e2, c2⟩
            · cases hq
          · cases hq
        · cases hq
  · cases hq
end app
end Go.Proofs.YtlagmjdifilheaaGreat.Exe
