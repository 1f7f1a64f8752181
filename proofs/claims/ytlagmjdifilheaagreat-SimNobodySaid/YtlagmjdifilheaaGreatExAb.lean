/- A call told by a run over some of the blocks alone, which it leaves as they were: it leaves all as it was, in any world. Condition: that the executor is sound. -/
import Derived.Test.YtlagmjdifilheaaGreatExAa
namespace Go.Proofs.YtlagmjdifilheaaGreat.Exe
open Go Go.RowKit
section
variable {P : Program} {B : Nat → Prop} {w0 : World} {F : CallC}
/-- What is by names, of names that stand for blocks, is so ahead of the growth too. -/
theorem Rel.back {E E' : Env} (hE : E.le E') {v x0 : Value} (h : Rel E v x0) : ∀ {x : Value}, Rel E' v x → Rel E v x := by
  have arr : ∀ (xs xs0 : Array Value), xs.toList.length = xs0.toList.length → (∀ (k : Nat) (c c' : Value), xs.toList[k]? = some c → xs0.toList[k]? = some c' → ∀ {x : Value}, Rel E' c x → Rel E c x) →
      ∀ (ys : Array Value), RelL E' xs.toList ys.toList → RelL E xs.toList ys.toList := by
    intro xs xs0 hs ih ys hr
    refine RelL.of hr.length fun k c c' h1 h2 => ?_
    have hk : k < xs0.toList.length := by rw [← hs]; exact (List.getElem?_eq_some_iff.1 h1).1
    exact ih k c _ h1 (List.getElem?_eq_getElem hk) (hr.at k c c' h1 h2)
  induction h with
  | leaf v hl => intro x hx; rw [hx.of_leaf hl]; exact .leaf v hl
  | ptr i b off hi =>
    intro x hx
    obtain ⟨b', h1, rfl⟩ := hx.to_ptr
    rw [(hE i b hi).1] at h1
    cases h1
    exact .ptr i b off hi
  | slice i b off len cap cap' hi hl hk hg =>
    intro x hx
    obtain ⟨b', c', h1, rfl, h2, h3, h4⟩ := hx.to_slice
    rw [(hE i b hi).1] at h1
    cases h1
    exact .slice i b off len cap c' hi h2 h3 (fun e => ⟨(h4 e).1, (h4 e).2.trans (hE i b hi).2⟩)
  | map i b hi =>
    intro x hx
    obtain ⟨b', h1, rfl⟩ := hx.to_map
    rw [(hE i b hi).1] at h1
    cases h1
    exact .map i b hi
  | func f xs xs' ys ys' hs _ hs' _ ih ih' =>
    intro x hx
    obtain ⟨us, vs, rfl, h1, h2⟩ := hx.to_func
    exact relL_func (arr xs xs' hs ih us h1) (arr ys ys' hs' ih' vs h2)
  | agg xs xs' hs _ ih =>
    intro x hx
    obtain ⟨us, rfl, h1⟩ := hx.to_agg
    exact relL_agg (arr xs xs' hs ih us h1)
  | tuple xs xs' hs _ ih =>
    intro x hx
    obtain ⟨us, rfl, h1⟩ := hx.to_tuple
    exact relL_tuple (arr xs xs' hs ih us h1)
theorem RelL.back {E E' : Env} (hE : E.le E') : ∀ {l l0 l' : List Value}, RelL E l l0 → RelL E' l l' → RelL E l l'
  | [], [], [], _, _ => trivial
  | _ :: _, _ :: _, _ :: _, h, k => ⟨h.1.back hE k.1, RelL.back hE h.2 k.2⟩
/-- Some of the blocks. -/
noncomputable def pickT (h : Hp) : List Nat → T4 Ob
  | [] => .nil
  | i :: is => match h.get i with
    | some b => T4.putN (.leaf (.row b)) roomD i (pickT h is)
    | none => pickT h is
noncomputable def pickH (h : Hp) (is : List Nat) : Hp := ⟨pickT h is, h.next⟩
theorem pick_ob {h : Hp} : ∀ {is : List Nat} {j : Nat} {ob : Ob}, (pickH h is).ob j = some ob → j ∈ is ∧ ∃ b, h.get j = some b ∧ ob = .row b
  | [], j, ob, ho => by
    have := Hp.none_ob j
    unfold pickH pickT at ho
    have h2 : (⟨.nil, h.next⟩ : Hp).ob j = Hp.none.ob j := by unfold Hp.ob Hp.none; rfl
    rw [h2, this] at ho
    cases ho
  | i :: is, j, ob, ho => by
    unfold pickH pickT at ho
    cases hg : h.get i with
    | none =>
      rw [hg] at ho
      obtain ⟨h1, h2⟩ := pick_ob (h := h) (is := is) (j := j) ho
      exact ⟨List.mem_cons_of_mem _ h1, h2⟩
    | some b =>
      rw [hg] at ho
      dsimp only at ho
      have hlt : i < roomN := Hp.ob_small (by rw [Hp.get_ob hg]; rfl)
      by_cases hj : j = i
      · subst hj
        rw [Hp.ob_eq hlt] at ho
        dsimp only at ho
        rw [T4.putN_eq, T4.path_same, T4.get_leaf] at ho
        cases ho
        exact ⟨List.mem_cons_self, b, hg, rfl⟩
      · have h3 : (⟨T4.putN (.leaf (.row b)) roomD i (pickT h is), h.next⟩ : Hp).ob j = (pickH h is).ob j := put_tree_other hlt hj
        rw [h3] at ho
        obtain ⟨h1, h2⟩ := pick_ob (h := h) (is := is) (j := j) ho
        exact ⟨List.mem_cons_of_mem _ h1, h2⟩
/-- Are the blocks of these names as they were? -/
noncomputable def sameH (h h' : Hp) : List Nat → Bool
  | [] => true
  | i :: is => (match h.get i with
    | some b => match h'.get i with
      | some b' => eqL b'.cells b.cells && Nat.beq b'.elem b.elem && b'.grow == b.grow
      | none => false
    | none => true) && sameH h h' is
theorem same_get {h h' : Hp} : ∀ {is : List Nat}, sameH h h' is = true → ∀ {i : Nat} {b : Blk}, i ∈ is → h.get i = some b → ∃ b', h'.get i = some b' ∧ b'.cells = b.cells ∧ b'.elem = b.elem ∧ b'.grow = b.grow
  | [], _, _, _, hi, _ => absurd hi (List.not_mem_nil)
  | j :: is, hs, i, b, hi, hb => by
    unfold sameH at hs
    simp only [Bool.and_eq_true] at hs
    rcases List.mem_cons.1 hi with rfl | hi
    · have h1 := hs.1
      rw [hb] at h1
      dsimp only at h1
      cases hg : h'.get i with
      | none => rw [hg] at h1; cases h1
      | some b' =>
        rw [hg] at h1
        simp only [Bool.and_eq_true] at h1
        exact ⟨b', rfl, eqL_eq h1.1.1, Nat.eq_of_beq_eq_true h1.1.2, by simpa using h1.2⟩
    · exact same_get hs.2 hi hb
/-- The blocks that these names stand for, and those that are new. -/
def MineB (E : Env) (h : Hp) (w : World) (is : List Nat) (k : Nat) : Prop := (∃ i b, i ∈ is ∧ h.get i = some b ∧ E.ρ i = some k) ∨ w.heap.size ≤ k
theorem WR.pick {E : Env} {w : World} {h : Hp} (W : WR E P B w0 w h) (is : List Nat) : WR E P (MineB E h w is) w w (pickH h is) := by
  refine ⟨Keep.refl _ _, fun _ hk => .inr hk, fun i ob b hi hρ => ?_, fun i j b hi hj => ?_, W.fresh⟩
  · obtain ⟨h1, blk, h2, rfl⟩ := pick_ob hi
    obtain ⟨o, _, h3, h4⟩ := W.live i _ b (Hp.get_ob h2) hρ
    exact ⟨o, .inl ⟨i, blk, h1, h2, hρ⟩, h3, h4⟩
  · obtain ⟨ob, hob⟩ := Option.isSome_iff_exists.1 hi
    obtain ⟨ob', hob'⟩ := Option.isSome_iff_exists.1 hj
    obtain ⟨_, _, h1, _⟩ := pick_ob hob
    obtain ⟨_, _, h2, _⟩ := pick_ob hob'
    exact W.inj i j b (by rw [Hp.get_ob h1]; rfl) (by rw [Hp.get_ob h2]; rfl)
/-- Behind a call over some of the blocks, that left them as they were, all is by names as it was. -/
theorem WR.unpick {E E' : Env} {w w' : World} {h h' : Hp} {is : List Nat} (W : WR E P B w0 w h) (hE : E.le E') (W' : WR E' P (MineB E h w is) w w' h') (hs : sameH h h' is = true) : WR E P B w0 w' h := by
  refine ⟨W.below.trans ⟨W'.below.os, W'.below.tape, W'.below.output, W'.below.size, fun k hk hn => W'.below.block k hk fun hm => ?_⟩, W.base, fun i ob b hi hρ => ?_, W.inj, W.fresh⟩
  · rcases hm with ⟨i, blk, _, h2, h3⟩ | hm
    · obtain ⟨_, h4, _⟩ := W.live i _ k (Hp.get_ob h2) h3
      exact hn h4
    · omega
  · obtain ⟨o, k1, k2, k3⟩ := W.live i ob b hi hρ
    have hlt := (Array.getElem?_eq_some_iff.1 k2).1
    by_cases hm : MineB E h w is b
    · rcases hm with ⟨j, blk, h1, h2, h3⟩ | hm
      · obtain rfl : i = j := W.inj i j b (by rw [hi]; rfl) (by rw [Hp.get_ob h2]; rfl) hρ h3
        rw [Hp.get_ob h2] at hi
        cases hi
        obtain ⟨blk', g1, g2, g3, g4⟩ := same_get hs h1 h2
        obtain ⟨hρ', hκ'⟩ := hE i b hρ
        obtain ⟨o', _, m2, cs', fr', rfl, m4, m5, m6, m7⟩ := W'.live i _ b (Hp.get_ob g1) hρ'
        obtain ⟨cs, fr, rfl, n4, n5, n6, n7⟩ := k3
        refine ⟨_, k1, m2, cs', fr', by rw [g3], m4, ?_, fun hg => ?_, fun hg => ?_⟩
        · rw [g2] at m5
          exact n5.back hE m5
        · rw [m6 (g4.trans hg), g2]
        · rw [g3] at m7
          rw [← hκ']
          exact m7 (g4.trans hg)
      · omega
    · exact ⟨o, k1, (W'.below.block b hlt hm).trans k2, k3⟩
/-- A call over some of the blocks alone, that leaves them as they were and ends in a flat value. -/
noncomputable def memK (F : CallC) (is : List Nat) (g : FuncId) (args : List Value) (h : Hp) (k : Value → Bool) : Bool :=
  F g args (pickH h is) fun v h' => Bool.rec false (Bool.rec false (k v) (flatB v)) (sameH h h' is)
theorem mem_ok (hF : CallSound P F) {is : List Nat} {g : FuncId} {args : List Value} {h : Hp} {k : Value → Bool} (hr : memK F is g args h k = true) : ∃ v, k v = true ∧ flatB v = true ∧
    ∀ (E : Env) (B : Nat → Prop) (w0 w : World) (args' : List Value), WR E P B w0 w h → RelL E args args' →
      ((callFunc g args'.toArray).run P w = .ok (.enter g args'.toArray) w ∧ Calls P g args'.toArray w fun e w' => e = .returned v ∧ WR E P B w0 w' h ∧ Keep (MineB E h w is) w w') ∨
      (callFunc g args'.toArray).run P w = .ok (.value v) w := by
  obtain ⟨v, h', hk, hS⟩ := hF g args (pickH h is) _ hr
  cases hs : sameH h h' is with
  | false => rw [hs] at hk; cases hk
  | true =>
    rw [hs] at hk
    cases hv : flatB v with
    | false => rw [hv] at hk; cases hk
    | true =>
      rw [hv] at hk
      refine ⟨v, hk, hv, fun E B w0 w args' W hA => ?_⟩
      rcases hS E w args' (W.pick is) hA with ⟨h1, h2⟩ | ⟨x, h1, h2⟩
      · refine .inl ⟨h1, Calls.mono h2 fun e w' he => ?_⟩
        obtain ⟨x, rfl, E', g1, g2, g3⟩ := he
        exact ⟨by rw [g2.of_flat hv], W.unpick g1.1 g3 hs, g3.below⟩
      · obtain ⟨E', g1, g2, g3⟩ := h2
        exact .inr (by rw [← g2.of_flat hv]; exact h1)
end
end Go.Proofs.YtlagmjdifilheaaGreat.Exe
