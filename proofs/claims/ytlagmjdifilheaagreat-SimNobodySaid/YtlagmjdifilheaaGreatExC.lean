/- A world by names: what lies under each name, and that nothing that was there has turned; stores, new blocks. No condition. -/
import Derived.Test.YtlagmjdifilheaaGreatExB
import Derived.RangeFuncRecord
namespace Go.Proofs.YtlagmjdifilheaaGreat.Exe
open Go Go.RowKit

/-- What lies under a name, and the block that it stands for. -/
def ObR (E : Env) (P : Program) (i : Nat) : Ob → Obj → Prop
  | .row b, o => ∃ cs fr, o = .cells cs b.elem fr ∧ (∀ k, k < cs.size → ¬ (fr.1 ≤ k ∧ k < fr.2)) ∧ RelL E b.cells (cs.toList.take b.cells.length) ∧
      (b.grow = false → cs.size = b.cells.length) ∧ (b.grow = true → ∃ info, P.info? b.elem = some info ∧ cs.size = E.κ i * info.size)
  | .map es clock, o => ∃ es', o = .map es' clock ∧ es'.toList.length = es.length ∧ ∀ (k : Nat) (e : Ent) (e' : MapEntry), es[k]? = some e → es'.toList[k]? = some e' → e'.key = e.key ∧ e'.born = e.born ∧ Rel E e.val e'.val
theorem ObR.mono {E E' : Env} {P : Program} {i b : Nat} {ob : Ob} {o : Obj} (hE : E.le E') (hi : E.ρ i = some b) (h : ObR E P i ob o) : ObR E' P i ob o := by
  cases ob with
  | row blk =>
    obtain ⟨cs, fr, h1, h2, h3, h4, h5⟩ := h
    exact ⟨cs, fr, h1, h2, h3.mono hE, h4, fun hg => by rw [(hE i b hi).2]; exact h5 hg⟩
  | map es clock =>
    obtain ⟨es', h1, h2, h3⟩ := h
    exact ⟨es', h1, h2, fun k e e' a c => ⟨(h3 k e e' a c).1, (h3 k e e' a c).2.1, (h3 k e e' a c).2.2.mono hE⟩⟩

/-- All that was there is as it was, but for the blocks of one's own. -/
structure Keep (S : Nat → Prop) (w w' : World) : Prop where
  os : w'.os = w.os
  tape : w'.tape = w.tape
  output : w'.output = w.output
  size : w.heap.size ≤ w'.heap.size
  block : ∀ k, k < w.heap.size → ¬ S k → w'.heap[k]? = w.heap[k]?
theorem Keep.refl (S : Nat → Prop) (w : World) : Keep S w w := ⟨rfl, rfl, rfl, Nat.le_refl _, fun _ _ _ => rfl⟩
theorem Keep.trans {S : Nat → Prop} {a b c : World} (h : Keep S a b) (k : Keep S b c) : Keep S a c :=
  ⟨k.os.trans h.os, k.tape.trans h.tape, k.output.trans h.output, Nat.le_trans h.size k.size, fun i hi hn => (k.block i (Nat.lt_of_lt_of_le hi h.size) hn).trans (h.block i hi hn)⟩
theorem Keep.drew {S : Nat → Prop} {a w : World} (h : Keep S a w) : Keep S a w.drew := ⟨h.os, h.tape, h.output, h.size, h.block⟩
theorem Keep.alloc (S : Nat → Prop) (w : World) (o : Obj) : Keep S w (w.alloc o) := ⟨rfl, rfl, rfl, by simp, fun k hk _ => Below.heap_alloc _ _ _ hk⟩
theorem Keep.freeze {S : Nat → Prop} {a w : World} (h : Keep S a w) {b : Nat} (hb : S b) (n : Nat) : Keep S a (w.freeze ⟨b, 0, none⟩ n) := by
  refine h.trans ?_
  unfold World.freeze
  split
  · exact Keep.refl S w
  · exact ⟨rfl, rfl, rfl, by simp, fun k _ hk => by
      have hne : ¬ b = k := fun e => hk (e ▸ hb)
      simp only [Array.getElem?_modify]
      rw [if_neg hne]⟩
theorem Keep.below {w w' : World} (h : Keep (fun k => w.heap.size ≤ k) w w') : Below w.heap.size w w' := ⟨h.os, h.tape, h.output, h.size, fun k hk => h.block k hk (Nat.not_le_of_lt hk)⟩
structure WR (E : Env) (P : Program) (B : Nat → Prop) (w0 w : World) (h : Hp) : Prop where
  below : Keep B w0 w
  base : ∀ k, w0.heap.size ≤ k → B k
  live : ∀ i ob b, h.ob i = some ob → E.ρ i = some b → ∃ o, B b ∧ w.heap[b]? = some o ∧ ObR E P i ob o
  inj : ∀ i j b, (h.ob i).isSome = true → (h.ob j).isSome = true → E.ρ i = some b → E.ρ j = some b → i = j
  fresh : ∀ i, h.next ≤ i → E.ρ i = none

theorem Hp.ob_small {h : Hp} {i : Nat} (hi : (h.ob i).isSome = true) : i < roomN := by
  unfold Hp.ob at hi
  cases hb : Nat.blt i roomN with
  | false => rw [hb] at hi; cases hi
  | true => exact Nat.le_of_ble_eq_true hb
theorem Hp.ob_eq {h : Hp} {i : Nat} (hi : i < roomN) : h.ob i = T4.get (path roomD i) h.t := by
  unfold Hp.ob
  rw [show Nat.blt i roomN = true from Nat.ble_eq_true_of_le hi]
  rfl
theorem Hp.ob_big {h : Hp} {i : Nat} (hi : ¬ i < roomN) : h.ob i = none := by
  cases hb : h.ob i with
  | none => rfl
  | some o => exact absurd (Hp.ob_small (by rw [hb]; rfl)) hi
theorem room_eq : roomN = 4 ^ roomD := by decide
theorem Hp.ob_put_same {h : Hp} {i : Nat} {v : Option Ob} (hi : i < roomN) : (h.put i v).ob i = v := by
  rw [Hp.ob_eq hi]
  unfold Hp.put
  rw [T4.putN_eq, T4.path_same]
  cases v
  · exact T4.get_none
  · exact T4.get_leaf _
theorem put_tree_other {t v : T4 Ob} {n n' i j : Nat} (hi : i < roomN) (hj : j ≠ i) : (⟨T4.putN v roomD i t, n⟩ : Hp).ob j = (⟨t, n'⟩ : Hp).ob j := by
  by_cases hs : j < roomN
  · rw [Hp.ob_eq hs, Hp.ob_eq hs, T4.putN_eq]
    exact T4.path_other _ (by rw [← room_eq]; exact hi) (by rw [← room_eq]; exact hs) hj _
  · rw [Hp.ob_big hs, Hp.ob_big hs]
theorem Hp.ob_put_other {h : Hp} {i j : Nat} {v : Option Ob} (hi : i < roomN) (hj : j ≠ i) : (h.put i v).ob j = h.ob j := put_tree_other hi hj
theorem Hp.next_put {h : Hp} {i : Nat} {v : Option Ob} : (h.put i v).next = h.next := rfl
theorem Hp.get_ob {h : Hp} {i : Nat} {b : Blk} (hb : h.get i = some b) : h.ob i = some (.row b) := by
  unfold Hp.get at hb
  split at hb
  · rename_i b' e; rw [e]; cases hb; rfl
  · cases hb
section
variable {E : Env} {P : Program} {B : Nat → Prop} {w0 w : World} {h : Hp}
theorem WR.base' (W : WR E P B w0 w h) : ∀ k, w.heap.size ≤ k → B k := fun k hk => W.base k (Nat.le_trans W.below.size hk)
theorem WR.row (W : WR E P B w0 w h) {i b : Nat} {blk : Blk} (hi : h.get i = some blk) (hρ : E.ρ i = some b) : ∃ cs fr, B b ∧ w.heap[b]? = some (.cells cs blk.elem fr) ∧ (∀ k, k < cs.size → ¬ (fr.1 ≤ k ∧ k < fr.2)) ∧
    RelL E blk.cells (cs.toList.take blk.cells.length) ∧ (blk.grow = false → cs.size = blk.cells.length) ∧ (blk.grow = true → ∃ info, P.info? blk.elem = some info ∧ cs.size = E.κ i * info.size) := by
  obtain ⟨o, h2, h3, cs, fr, rfl, h4, h5, h6, h7⟩ := W.live i _ b (Hp.get_ob hi) hρ
  exact ⟨cs, fr, h2, h3, h4, h5, h6, h7⟩
/-- A name that is put on anew, with the same block. -/
theorem WR.update (W : WR E P B w0 w h) {i b : Nat} {ob ob' : Ob} {o : Obj} (hi : h.ob i = some ob) (hρ : E.ρ i = some b) (hO : ObR E P i ob' o) : WR E P B w0 (w.putObj b o) (h.put i (some ob')) := by
  have hlt : i < roomN := Hp.ob_small (by rw [hi]; rfl)
  have hsm : ∀ j, ((h.put i (some ob')).ob j).isSome = true → (h.ob j).isSome = true := fun j hj => by
    by_cases hji : j = i
    · rw [hji, hi]; rfl
    · rwa [Hp.ob_put_other hlt hji] at hj
  obtain ⟨o', h2, h3, _⟩ := W.live i ob b hi hρ
  have hb : b < w.heap.size := (Array.getElem?_eq_some_iff.1 h3).1
  refine ⟨W.below.trans ⟨rfl, rfl, rfl, by simp, fun k _ hk => World.putObj_heap_other (by rintro rfl; exact hk h2)⟩, W.base, fun j oj c hj hc => ?_, fun j k c hj hk => W.inj j k c (hsm j hj) (hsm k hk), fun j hj => W.fresh j hj⟩
  by_cases hji : j = i
  · subst hji
    rw [Hp.ob_put_same hlt] at hj
    cases hj
    obtain rfl : b = c := Option.some.inj (hρ.symm.trans hc)
    exact ⟨o, h2, World.putObj_heap_same hb, hO⟩
  · rw [Hp.ob_put_other hlt hji] at hj
    obtain ⟨oc, k2, k3, k4⟩ := W.live j oj c hj hc
    refine ⟨oc, k2, (World.putObj_heap_other (fun e => ?_)).trans k3, k4⟩
    exact hji (W.inj j i b (by rw [hj]; rfl) (by rw [hi]; rfl) (e ▸ hc) hρ)
/-- A name that is given up. -/
theorem WR.kill (W : WR E P B w0 w h) (i : Nat) (hlt : i < roomN) : WR E P B w0 w (h.put i none) := by
  have key : ∀ j, j ≠ i → (h.put i none).ob j = h.ob j := fun j hj => Hp.ob_put_other hlt hj
  have hself : (h.put i none).ob i = none := Hp.ob_put_same hlt
  have sm : ∀ j, ((h.put i none).ob j).isSome = true → (h.ob j).isSome = true := fun j hj => by
    by_cases hji : j = i
    · rw [hji, hself] at hj; cases hj
    · rwa [key j hji] at hj
  refine ⟨W.below, W.base, fun j oj c hj hc => ?_, fun j k c hj hk => W.inj j k c (sm j hj) (sm k hk), fun j hj => W.fresh j hj⟩
  by_cases hji : j = i
  · rw [hji, hself] at hj; cases hj
  · rw [key j hji] at hj; exact W.live j oj c hj hc
/-- One more name. -/
def Env.upd (E : Env) (i b c : Nat) : Env := ⟨fun j => if j = i then some b else E.ρ j, fun j => if j = i then c else E.κ j⟩
theorem Env.upd_same (E : Env) (i b c : Nat) : (E.upd i b c).ρ i = some b ∧ (E.upd i b c).κ i = c := by simp [Env.upd]
theorem Env.le_upd {E : Env} {i b c : Nat} (hi : E.ρ i = none) : E.le (E.upd i b c) := fun j d hj => by
  have hne : j ≠ i := fun e => by rw [e, hi] at hj; cases hj
  simp [Env.upd, hne, hj]
/-- A name that stood for no block, and now stands for one that no name that is still there stands for. -/
theorem WR.bind (W : WR E P B w0 w h) {w' : World} (hw : Keep B w w') {i : Nat} {ob : Ob} {o : Obj} {b c : Nat} (hi : h.ob i = some ob) (hn : E.ρ i = none) (hlt : i < h.next) (hB : B b) (hno : ∀ j, (h.ob j).isSome = true → E.ρ j ≠ some b)
    (hkeep : ∀ k, k ≠ b → k < w.heap.size → w'.heap[k]? = w.heap[k]?) (hb : w'.heap[b]? = some o) (hO : ObR (E.upd i b c) P i ob o) : WR (E.upd i b c) P B w0 w' h := by
  have hle : E.le (E.upd i b c) := Env.le_upd hn
  have hother : ∀ j d, j ≠ i → ((E.upd i b c).ρ j = some d ↔ E.ρ j = some d) := fun j d hj => by simp [Env.upd, hj]
  refine ⟨W.below.trans hw, W.base, fun j oj d hj hd => ?_, fun j k d hj hk hjd hkd => ?_, fun j hj => ?_⟩
  · by_cases hji : j = i
    · subst hji
      rw [hi] at hj
      cases hj
      rw [(Env.upd_same E _ b c).1] at hd
      cases hd
      exact ⟨o, hB, hb, hO⟩
    · have hd' := (hother j d hji).1 hd
      obtain ⟨od, k2, k3, k4⟩ := W.live j oj d hj hd'
      exact ⟨od, k2, (hkeep d (fun e => hno j (by rw [hj]; rfl) (e ▸ hd')) (Array.getElem?_eq_some_iff.1 k3).1).trans k3, k4.mono hle hd'⟩
  · by_cases hji : j = i <;> by_cases hki : k = i
    · rw [hji, hki]
    · subst hji
      rw [(Env.upd_same E _ b c).1] at hjd
      cases hjd
      exact absurd ((hother k b hki).1 hkd) (hno k hk)
    · subst hki
      rw [(Env.upd_same E _ b c).1] at hkd
      cases hkd
      exact absurd ((hother j b hji).1 hjd) (hno j hj)
    · exact W.inj j k d hj hk ((hother j d hji).1 hjd) ((hother k d hki).1 hkd)
  · have hne : j ≠ i := by omega
    simp only [Env.upd, hne, if_false]
    exact W.fresh j hj
theorem allocOb_some {ob : Ob} {i : Nat} {h' : Hp} (ha : h.allocOb ob = some (i, h')) : i = h.next ∧ h.next < roomN ∧ h' = ⟨T4.putN (.leaf ob) roomD h.next h.t, h.next + 1⟩ := by
  unfold Hp.allocOb at ha
  cases hb : Nat.blt h.next roomN with
  | false => rw [hb] at ha; cases ha
  | true =>
    rw [hb] at ha
    cases ha
    exact ⟨rfl, Nat.le_of_ble_eq_true hb, rfl⟩
theorem allocOb_self {ob : Ob} {i : Nat} {h' : Hp} (ha : h.allocOb ob = some (i, h')) : h'.ob i = some ob := by
  obtain ⟨rfl, hn, rfl⟩ := allocOb_some ha
  rw [Hp.ob_eq hn, T4.putN_eq]
  exact (T4.path_same _ _ _ _).trans (T4.get_leaf _)
theorem allocOb_other {ob : Ob} {i j : Nat} {h' : Hp} (ha : h.allocOb ob = some (i, h')) (hj : j ≠ i) : h'.ob j = h.ob j := by
  obtain ⟨rfl, hn, rfl⟩ := allocOb_some ha
  exact put_tree_other hn hj
/-- A name more, that stands for no block as yet. -/
theorem WR.float (W : WR E P B w0 w h) {ob : Ob} {i : Nat} {h' : Hp} (ha : h.allocOb ob = some (i, h')) : WR E P B w0 w h' := by
  have hi := (allocOb_some ha).1
  have hnx : h'.next = h.next + 1 := by rw [(allocOb_some ha).2.2]
  have hno : ∀ b, E.ρ i ≠ some b := fun b e => by rw [hi, W.fresh _ (Nat.le_refl _)] at e; cases e
  refine ⟨W.below, W.base, fun j oj c hj hc => ?_, fun j k c hj hk hjc hkc => ?_, fun j hj => W.fresh j (by omega)⟩
  · by_cases hji : j = i
    · exact absurd (hji ▸ hc) (hno c)
    · rw [allocOb_other ha hji] at hj
      exact W.live j oj c hj hc
  · by_cases hji : j = i
    · exact absurd (hji ▸ hjc) (hno c)
    · by_cases hki : k = i
      · exact absurd (hki ▸ hkc) (hno c)
      · rw [allocOb_other ha hji] at hj
        rw [allocOb_other ha hki] at hk
        exact W.inj j k c hj hk hjc hkc
/-- No name stands for a block that is not there yet. -/
theorem WR.unborn (W : WR E P B w0 w h) {j : Nat} (hj : (h.ob j).isSome = true) : E.ρ j ≠ some w.heap.size := fun e => by
  obtain ⟨ob, hob⟩ := Option.isSome_iff_exists.1 hj
  obtain ⟨o', _, h3, _⟩ := W.live j ob _ hob e
  have := (Array.getElem?_eq_some_iff.1 h3).1
  omega
/-- A new block, for a name that stood for none. -/
theorem WR.born (W : WR E P B w0 w h) {ob : Ob} {o : Obj} {i c : Nat} (hi : h.ob i = some ob) (hn : E.ρ i = none) (hlt : i < h.next) (hO : ObR (E.upd i w.heap.size c) P i ob o) : WR (E.upd i w.heap.size c) P B w0 (w.alloc o) h :=
  W.bind (Keep.alloc B w o) hi hn hlt (W.base' _ (Nat.le_refl _)) (fun _ hj => W.unborn hj) (fun _ _ hk => Below.heap_alloc _ _ _ hk) (World.alloc_heap_new w o) hO
/-- A new name for a block that no name that is still there stands for. -/
theorem WR.name (W : WR E P B w0 w h) {w' : World} (hw : Keep B w w') {ob : Ob} {o : Obj} {i b c : Nat} {h' : Hp} (ha : h.allocOb ob = some (i, h')) (hB : B b) (hno : ∀ i, (h.ob i).isSome = true → E.ρ i ≠ some b)
    (hkeep : ∀ k, k ≠ b → k < w.heap.size → w'.heap[k]? = w.heap[k]?) (hb : w'.heap[b]? = some o) (hO : ObR (E.upd i b c) P i ob o) : WR (E.upd i b c) P B w0 w' h' := by
  have hi := (allocOb_some ha).1
  have hn : E.ρ i = none := by rw [hi]; exact W.fresh _ (Nat.le_refl _)
  refine (W.float ha).bind hw (allocOb_self ha) hn (by rw [(allocOb_some ha).2.2, hi]; exact Nat.lt_succ_self _) hB (fun j hj e => ?_) hkeep hb hO
  by_cases hji : j = i
  · rw [hji, hn] at e; cases e
  · exact hno j (by rwa [allocOb_other ha hji] at hj) e
/-- A new block. -/
theorem WR.alloc (W : WR E P B w0 w h) {ob : Ob} {o : Obj} {i c : Nat} {h' : Hp} (ha : h.allocOb ob = some (i, h')) (hO : ObR (E.upd i w.heap.size c) P i ob o) : WR (E.upd i w.heap.size c) P B w0 (w.alloc o) h' ∧ E.le (E.upd i w.heap.size c) ∧ (E.upd i w.heap.size c).ρ i = some w.heap.size := by
  have hi := (allocOb_some ha).1
  have hn : E.ρ i = none := by rw [hi]; exact W.fresh _ (Nat.le_refl _)
  exact ⟨(W.float ha).born (allocOb_self ha) hn (by rw [(allocOb_some ha).2.2, hi]; exact Nat.lt_succ_self _) hO, Env.le_upd hn, (Env.upd_same _ _ _ _).1⟩
end

/-- The names of before stand for what they stood for; those that stood for nothing still do. -/
def Grow (E : Env) (h : Hp) (E' : Env) (h' : Hp) : Prop := E.le E' ∧ h.next ≤ h'.next ∧ ∀ i, i < h.next → E.ρ i = none → E'.ρ i = none
theorem Grow.same {E : Env} {h h' : Hp} (hn : h'.next = h.next) : Grow E h E h' := ⟨E.le_refl, Nat.le_of_eq hn.symm, fun _ _ h => h⟩
theorem Grow.refl (E : Env) (h : Hp) : Grow E h E h := Grow.same rfl
theorem Grow.trans {E1 E2 E3 : Env} {h1 h2 h3 : Hp} (g : Grow E1 h1 E2 h2) (k : Grow E2 h2 E3 h3) : Grow E1 h1 E3 h3 :=
  ⟨Env.le_trans g.1 k.1, Nat.le_trans g.2.1 k.2.1, fun i hi hn => k.2.2 i (Nat.lt_of_lt_of_le hi g.2.1) (g.2.2 i hi hn)⟩
theorem Grow.upd {E : Env} {h h' : Hp} {i b c : Nat} (hi : i = h.next) (hn : h'.next = h.next + 1) (hf : E.ρ i = none) : Grow E h (E.upd i b c) h' :=
  ⟨Env.le_upd hf, by omega, fun j hj h0 => by
    have : j ≠ i := by omega
    simp [Env.upd, this, h0]⟩
theorem allocOb_next {h h' : Hp} {ob : Ob} {i : Nat} (ha : h.allocOb ob = some (i, h')) : h'.next = h.next + 1 := by rw [(allocOb_some ha).2.2]
theorem storeCellsL_next {h h' : Hp} {i off : Nat} {vs : List Value} (hs : storeCellsL h i off vs = some h') : h'.next = h.next := by
  unfold storeCellsL at hs
  split at hs
  · cases hs; rfl
  · split at hs
    · rename_i blk _
      cases hc : (Nat.ble (off + vs.length) blk.raw.len && vs.all cellB) with
      | false => rw [hc] at hs; cases hs
      | true => rw [hc] at hs; cases hs; rfl
    · cases hs
theorem storeL_next {P : Program} {h h' : Hp} {t : TypeId} {a v : Value} (hs : storeL P h t a v = some h') : h'.next = h.next := by
  unfold storeL at hs
  split at hs
  · split at hs
    · exact storeCellsL_next hs
    · cases hs
  · cases hs
theorem updateL_next {P : Program} {h h' : Hp} {t : TypeId} {m k v : Value} (hs : updateL P h t m k v = some h') : h'.next = h.next := by
  unfold updateL at hs
  split at hs
  · split at hs
    · split at hs
      · rename_i es clock _
        cases hf : findQ k es 0 with
        | none => simp [hf] at hs
        | some r =>
          simp only [hf, Option.map_some, Option.some.injEq] at hs
          rw [← hs]
          cases r <;> rfl
      · cases hs
    · cases hs
  · cases hs
section mem
variable {E : Env} {P : Program} {B : Nat → Prop} {w0 w : World} {h : Hp}
theorem cell_of {w : World} {b off : Nat} {cs : Array Value} {t : TypeId} {fr : Nat × Nat} (hb : w.heap[b]? = some (.cells cs t fr)) : w.cell? ⟨b, off, none⟩ = cs[off]? := by
  simp [World.cell?, hb]
theorem add_none (b off n : Nat) : (⟨b, off, none⟩ : Addr).add n = ⟨b, off + n, none⟩ := by
  unfold Addr.add; split <;> simp_all
/-- Cells that are read. -/
theorem cellsAt_eq {i off n : Nat} {cs : List Value} (hc : cellsAt h i off n = some cs) : ∃ blk, h.get i = some blk ∧ off + n ≤ blk.cells.length ∧ cs = (blk.cells.drop off).take n ∧ cs.length = n := by
  unfold cellsAt at hc
  split at hc
  · rename_i blk hblk
    cases hb : Nat.ble (off + n) blk.raw.len with
    | false => rw [hb] at hc; cases hc
    | true =>
      rw [hb] at hc
      have hle : off + n ≤ blk.cells.length := by rw [Blk.length]; exact Nat.le_of_ble_eq_true hb
      simp only [cond_true, Option.some.injEq] at hc
      rw [Row.sub_list] at hc
      exact ⟨blk, hblk, hle, hc.symm, by rw [← hc]; show (List.take n (List.drop off blk.cells)).length = n; simp; omega⟩
  · cases hc
theorem run_cells (W : WR E P B w0 w h) {i off n b : Nat} {cs : List Value} (hρ : E.ρ i = some b) (hc : cellsAt h i off n = some cs) :
    ∃ cs', B b ∧ RelL E cs cs' ∧ cs.length = n ∧ (loadCells ⟨b, off, none⟩ n).run P w = .ok cs'.toArray w := by
  obtain ⟨blk, hblk, hle, rfl, hlen⟩ := cellsAt_eq hc
  obtain ⟨cur, fr, h2, h3, _, h5, _, _⟩ := W.row hblk hρ
  have hR := (h5.drop off).take n
  have hlen' := hR.length
  refine ⟨_, h2, hR, hlen, ?_⟩
  have := run_loadCells_list (P := P) w ⟨b, off, none⟩ (((cur.toList.take blk.cells.length).drop off).take n) (fun j v hj => by
    rw [add_none, cell_of h3]
    rw [List.getElem?_take] at hj
    split at hj
    · rw [List.getElem?_drop, List.getElem?_take] at hj
      split at hj
      · simpa using hj
      · cases hj
    · cases hj)
  rw [← hlen', hlen] at this
  exact this
theorem run_cell (W : WR E P B w0 w h) {i off b : Nat} {blk : Blk} {v : Value} (hρ : E.ρ i = some b) (hb : h.get i = some blk) (hv : blk.cells[off]? = some v) :
    ∃ x, Rel E v x ∧ (load ⟨b, off, none⟩).run P w = .ok x w := by
  obtain ⟨cur, fr, _, h3, _, h5, _, _⟩ := W.row hb hρ
  obtain ⟨x, hx, hr⟩ := h5.get hv
  refine ⟨x, hr, ?_⟩
  rw [List.getElem?_take] at hx
  split at hx
  · have hc : w.cell? ⟨b, off, none⟩ = some x := by rw [cell_of h3]; simpa using hx
    simp [run_load, hc]
  · cases hx
theorem setCell_put {w : World} {b off : Nat} {cur : Array Value} {t : TypeId} {fr : Nat × Nat} {v : Value} (hb : w.heap[b]? = some (.cells cur t fr)) :
    w.setCell ⟨b, off, none⟩ v = w.putObj b (.cells (cur.setIfInBounds off v) t fr) := by
  unfold World.setCell World.putObj
  congr 1
  apply Array.ext_getElem?
  intro k
  rw [Array.getElem?_modify, Array.getElem?_setIfInBounds]
  by_cases hk : b = k
  · subst hk
    obtain ⟨hlt, hv⟩ := Array.getElem?_eq_some_iff.1 hb
    simp [hlt, hv]
  · simp [hk]
theorem putObj_putObj {w : World} {b : Nat} {o o' : Obj} : (w.putObj b o).putObj b o' = w.putObj b o' := by
  simp [World.putObj]
theorem putObj_self {w : World} {b : Nat} {o : Obj} (hb : w.heap[b]? = some o) : w.putObj b o = w := by
  unfold World.putObj
  have : w.heap.setIfInBounds b o = w.heap := by
    apply Array.ext_getElem?
    intro k
    rw [Array.getElem?_setIfInBounds]
    by_cases hk : b = k
    · subst hk
      obtain ⟨hlt, hv⟩ := Array.getElem?_eq_some_iff.1 hb
      simp [hlt, hv]
    · simp [hk]
  rw [this]
theorem run_store_cells {b : Nat} {t : TypeId} {fr : Nat × Nat} {off : Nat} : ∀ (vs : List Value) (i : Nat) (cur : Array Value) (w : World), w.heap[b]? = some (.cells cur t fr) → (∀ k, k < cur.size → ¬ (fr.1 ≤ k ∧ k < fr.2)) → off + i + vs.length ≤ cur.size → vs.all cellB = true →
    (storeCells ⟨b, off, none⟩ vs i).run P w = .ok () (w.putObj b (.cells (setAll cur.toList (off + i) vs).toArray t fr))
  | [], i, cur, w, hb, _, _, _ => by
    simp only [storeCells, setAll, Array.toArray_toList]
    rw [putObj_self hb]
    rfl
  | v :: vs, i, cur, w, hb, hfr, hl, hc => by
    simp only [List.all_cons, Bool.and_eq_true] at hc
    have hi : off + i < cur.size := by simp at hl; omega
    have hcell : w.cell? ⟨b, off + i, none⟩ = some cur[off + i] := by rw [cell_of hb]; simp [hi]
    have hfro : w.frozen? ⟨b, off + i, none⟩ = false := by
      simp only [World.frozen?, hb, Bool.and_eq_false_iff, decide_eq_false_iff_not]
      have := hfr (off + i) hi
      by_cases h1 : fr.1 ≤ off + i
      · right; exact fun h2 => this ⟨h1, h2⟩
      · left; exact h1
    have hv : v.oneCell' = true := by
      have := hc.1
      cases v <;> first | rfl | simp [cellB] at this
    have hst : (store ((⟨b, off, none⟩ : Addr).add i) v).run P w = .ok () (w.putObj b (.cells (cur.setIfInBounds (off + i) v) t fr)) := by
      rw [add_none, run_store P w _ v _ hv, hcell]
      simp [hfro, setCell_put hb]
    have hlt := (Array.getElem?_eq_some_iff.1 hb).1
    have ih := run_store_cells (off := off) vs (i + 1) (cur.setIfInBounds (off + i) v) (w.putObj b (.cells (cur.setIfInBounds (off + i) v) t fr)) (World.putObj_heap_same hlt) (by simpa using hfr) (by simp at hl ⊢; omega) hc.2
    simp only [storeCells, Sem.run_bind, hst, Result.andThen_ok, ih, putObj_putObj, setAll, Array.toList_setIfInBounds]
    rw [show off + (i + 1) = off + i + 1 by omega]
theorem setAll_length : ∀ (cs : List Value) (n : Nat) (vs : List Value), (setAll cs n vs).length = cs.length
  | _, _, [] => rfl
  | cs, n, v :: vs => by rw [setAll, setAll_length]; simp
theorem RelL.setAll : ∀ {l l' : List Value} {vs vs' : List Value} (n : Nat), RelL E l l' → RelL E vs vs' → RelL E (setAll l n vs) (setAll l' n vs')
  | _, _, [], [], _, h, _ => h
  | _, _, _ :: _, _ :: _, n, h, k => RelL.setAll (n + 1) (h.set n k.1) k.2
theorem setAll_take : ∀ (cs : List Value) (n m : Nat) (vs : List Value), n + vs.length ≤ m → (setAll cs n vs).take m = setAll (cs.take m) n vs
  | _, _, _, [], _ => rfl
  | cs, n, m, v :: vs, h => by
    simp only [setAll]
    rw [setAll_take _ (n + 1) m vs (by simp at h; omega), List.take_set]
theorem RelL.allCell : ∀ {l l' : List Value}, RelL E l l' → l.all cellB = true → l'.all cellB = true
  | [], [], _, _ => rfl
  | _ :: _, _ :: _, h, hc => by
    simp only [List.all_cons, Bool.and_eq_true] at hc ⊢
    exact ⟨h.1.cell hc.1, RelL.allCell h.2 hc.2⟩
theorem putAll_ok : ∀ (vs : List Value) (blk : Blk) (off : Nat), off + vs.length ≤ blk.raw.len → (blk.putAll off vs).cells = setAll blk.cells off vs ∧ (blk.putAll off vs).elem = blk.elem ∧ (blk.putAll off vs).grow = blk.grow
  | [], _, _, _ => ⟨rfl, rfl, rfl⟩
  | v :: vs, blk, off, hl => by
    have hl' : off + 1 + vs.length ≤ (⟨blk.raw.set off (toW v), blk.elem, blk.grow⟩ : Blk).raw.len := by
      show _ ≤ (blk.raw.set off (toW v)).len
      rw [Row.set_len]
      simp at hl
      omega
    obtain ⟨h1, h2, h3⟩ := putAll_ok vs _ (off + 1) hl'
    refine ⟨h1.trans ?_, h2, h3⟩
    show setAll (blk.raw.set off (toW v)).list (off + 1) vs = _
    rw [Row.set_list (by simp at hl; omega), toW_val]
    rfl
/-- Cells that are written. -/
theorem run_stores (W : WR E P B w0 w h) {i off b : Nat} {vs xs : List Value} {h' : Hp} (hs : storeCellsL h i off vs = some h') (hR : RelL E vs xs) (hρ : E.ρ i = some b) :
    ∃ w', (storeCells ⟨b, off, none⟩ xs).run P w = .ok () w' ∧ WR E P B w0 w' h' := by
  unfold storeCellsL at hs
  split at hs
  · cases hs
    cases xs with
    | nil => exact ⟨w, rfl, W⟩
    | cons _ _ => exact hR.elim
  · split at hs
    · rename_i blk hblk
      cases hc : (Nat.ble (off + vs.length) blk.raw.len && vs.all cellB) with
      | false => rw [hc] at hs; cases hs
      | true =>
        rw [hc] at hs
        cases hs
        simp only [Bool.and_eq_true] at hc
        have hlen0 : off + vs.length ≤ blk.raw.len := Nat.le_of_ble_eq_true hc.1
        have hlen : off + vs.length ≤ blk.cells.length := by rw [Blk.length]; exact hlen0
        obtain ⟨c1, c2, c3⟩ := putAll_ok vs blk off hlen0
        obtain ⟨cur, fr, h2, h3, h4, h5, h6, h7⟩ := W.row hblk hρ
        have hsz : blk.cells.length ≤ cur.size := by
          have := h5.length
          rw [List.length_take] at this
          simp at this
          omega
        have hx := hR.length
        refine ⟨_, run_store_cells (P := P) xs 0 cur w h3 h4 (by omega) (hR.allCell hc.2), ?_⟩
        refine W.update (Hp.get_ob hblk) hρ ⟨_, fr, by rw [c2], by simpa [setAll_length] using h4, ?_, fun hg => by rw [c3] at hg; rw [c1]; simpa [setAll_length] using h6 hg, fun hg => by
          rw [c3] at hg
          obtain ⟨info, k1, k2⟩ := h7 hg
          exact ⟨info, by rw [c2]; exact k1, by simpa [setAll_length] using k2⟩⟩
        rw [c1]
        simp only [setAll_length, Nat.add_zero]
        rw [setAll_take _ _ _ _ (by omega)]
        exact h5.setAll off hR
    · cases hs
end mem
/-- A piece of the model that looks at no memory. -/
theorem pureRun_run {α : Type} {P : Program} {w : World} : ∀ {s : Sem α} {a : α}, pureRun P s = some a → s.run P w = .ok a w
  | .pure _, _, h => by simp only [pureRun, Option.some.injEq] at h; rw [h]; rfl
  | .program k, a, h => pureRun_run (s := k P) h
  | .mark _ k, a, h => pureRun_run (s := k) h
  | .load .., _, h => by simp [pureRun] at h
  | .store .., _, h => by simp [pureRun] at h
  | .new .., _, h => by simp [pureRun] at h
  | .shape .., _, h => by simp [pureRun] at h
  | .freeze .., _, h => by simp [pureRun] at h
  | .frozen .., _, h => by simp [pureRun] at h
  | .getObj .., _, h => by simp [pureRun] at h
  | .setObj .., _, h => by simp [pureRun] at h
  | .choose .., _, h => by simp [pureRun] at h
  | .sys .., _, h => by simp [pureRun] at h
  | .halt .., _, h => by simp [pureRun] at h
end Go.Proofs.YtlagmjdifilheaaGreat.Exe
