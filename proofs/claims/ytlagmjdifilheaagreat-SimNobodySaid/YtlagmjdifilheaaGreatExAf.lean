/- Functions of a pointer to a flat block that are known at some blocks and some arguments: tables, each row told by a run. Condition: that the executor is sound. -/
import Derived.Test.YtlagmjdifilheaaGreatExAc
namespace Go.Proofs.YtlagmjdifilheaaGreat.Exe
open Go Go.RowKit
section
variable {P : Program} {F : CallC}
noncomputable def blkB (cells : List Value) (t : TypeId) (b : Blk) : Bool := eqVL b.cells cells && Nat.beq b.elem t && !b.grow
theorem blkB_eq {cells : List Value} {t : TypeId} {b : Blk} (h : blkB cells t b = true) : b.cells = cells ∧ b.elem = t ∧ b.grow = false := by
  simp only [blkB, Bool.and_eq_true] at h
  exact ⟨eqVL_eq h.1.1, Nat.eq_of_beq_eq_true h.1.2, by simpa using h.2⟩
/-- Whether a row is what a run tells. -/
noncomputable def rowB (F : CallC) (g : FuncId) (cells : List Value) (t : TypeId) (rest : List Value) (v : Value) : Bool := cells.all leafB && rest.all flatB && flatB v &&
  F g (.pointer (some ⟨1, 0, none⟩) :: rest) (Hp.one cells t) fun v' h' => eqW v' v && (match h'.get 1 with
    | some b => blkB cells t b
    | none => false)
theorem row_call (hF : CallSound P F) {g : FuncId} {cells : List Value} {t : TypeId} {rest : List Value} {v : Value} (hr : rowB F g cells t rest v = true)
    {E : Env} {B : Nat → Prop} {w0 w : World} {h : Hp} {i b : Nat} {blk : Blk} (W : WR E P B w0 w h) (hi : h.get i = some blk) (hρ : E.ρ i = some b) (hb : blkB cells t blk = true) :
    ((callFunc g (.pointer (some ⟨b, 0, none⟩) :: rest).toArray).run P w = .ok (.enter g (.pointer (some ⟨b, 0, none⟩) :: rest).toArray) w ∧ Calls P g (.pointer (some ⟨b, 0, none⟩) :: rest).toArray w fun e w' => e = .returned v ∧ WR E P B w0 w' h) ∨
    ((callFunc g (.pointer (some ⟨b, 0, none⟩) :: rest).toArray).run P w = .ok (.value v) w) := by
  classical
  simp only [rowB, Bool.and_eq_true] at hr
  obtain ⟨⟨⟨hc, hrest⟩, hv⟩, hk⟩ := hr
  obtain ⟨h1, h2, h3⟩ := blkB_eq hb
  subst h1 h2
  obtain ⟨fr, hBb, hb, hfr⟩ := row_leaf W hi hρ h3 hc
  have hlt := (Array.getElem?_eq_some_iff.1 hb).1
  have W1 : WR ⟨fun j => if j = 1 then some b else none, fun _ => 0⟩ P (fun k => w.heap.size ≤ k ∨ k = b) w w (Hp.one blk.cells blk.elem) := by
    refine ⟨Keep.refl _ _, fun _ hk => .inl hk, fun j ob c hj hjc => ?_, fun j k c hj hk _ _ => ?_, fun j hj => ?_⟩
    · rw [Hp.one_ob] at hj
      split at hj
      · rename_i hj1
        cases hj
        subst hj1
        simp only [if_true, Option.some.injEq] at hjc
        subst hjc
        refine ⟨_, .inr rfl, hb, blk.cells.toArray, fr, rfl, fun k hk => hfr k (by simpa using hk), ?_, fun _ => ?_, fun hg => by cases hg⟩
        · rw [Blk.of_cells]
          simpa using RelL.refl_leaf hc
        · rw [Blk.of_cells]; simp
      · cases hj
    · rw [Hp.one_ob] at hj hk
      split at hj
      · split at hk
        · omega
        · cases hk
      · cases hj
    · have : ¬ j = 1 := by
        have h2 : 2 ≤ j := hj
        omega
      simp [this]
  obtain ⟨v', h', hk', hS⟩ := hF g _ _ _ hk
  simp only [Bool.and_eq_true] at hk'
  obtain ⟨hv', hg1⟩ := hk'
  obtain rfl := eqW_eq hv'
  cases hg : h'.get 1 with
  | none => rw [hg] at hg1; cases hg1
  | some blk1 =>
  rw [hg] at hg1
  obtain ⟨e1, e2, e3⟩ := blkB_eq hg1
  have hA : RelL ⟨fun j => if j = 1 then some b else none, fun _ => 0⟩ (.pointer (some ⟨1, 0, none⟩) :: rest) (.pointer (some ⟨b, 0, none⟩) :: rest) := ⟨.ptr 1 b 0 (by simp), flat_self hrest⟩
  rcases hS _ w _ W1 hA with ⟨q1, q2⟩ | ⟨x, q1, E', _, q4, _⟩
  · refine .inl ⟨q1, Calls.mono q2 fun e w' he => ?_⟩
    obtain ⟨x, rfl, E', g1, g2, g3⟩ := he
    refine ⟨by rw [g2.of_flat hv], ?_⟩
    have hρ' : E'.ρ 1 = some b := (g1.1 1 b (by simp)).1
    obtain ⟨fr', _, hb', hfr'⟩ := row_leaf g3 hg hρ' e3 (by rw [e1]; exact hc)
    rw [e1] at hb' hfr'
    rw [e2] at hb'
    refine ⟨W.below.trans ⟨g3.below.os, g3.below.tape, g3.below.output, g3.below.size, fun k hk hn => g3.below.block k hk fun hs => ?_⟩, W.base, fun j ob c hj hjc => ?_, W.inj, W.fresh⟩
    · rcases hs with hs | rfl
      · omega
      · exact hn hBb
    · obtain ⟨o, k1, k2, k3⟩ := W.live j ob c hj hjc
      by_cases hcb : c = b
      · subst hcb
        obtain rfl : j = i := W.inj j i c (by rw [hj]; rfl) (by rw [Hp.get_ob hi]; rfl) hjc hρ
        rw [Hp.get_ob hi] at hj
        cases hj
        refine ⟨_, k1, hb', blk.cells.toArray, fr', rfl, fun k hk => hfr' k (by simpa using hk), ?_, fun _ => by simp, fun hg => by rw [h3] at hg; cases hg⟩
        simpa using RelL.refl_leaf hc
      · have hlt' := (Array.getElem?_eq_some_iff.1 k2).1
        exact ⟨o, k1, (g3.below.block c hlt' (fun hs => by rcases hs with hs | hs; exact absurd hs (by omega); exact hcb hs)).trans k2, k3⟩
  · exact .inr (by rw [← q4.of_flat hv]; exact q1)
/-- Tables for some blocks. -/
abbrev PTab := List (List Value × Tab)
noncomputable def PTab.look (b : Blk) (t : TypeId) (rest : List Value) : PTab → Option Value
  | [] => none
  | (cells, tab) :: l => bif blkB cells t b then tab.look rest else PTab.look b t rest l
noncomputable def ptabB (F : CallC) (g : FuncId) (t : TypeId) (l : PTab) : Bool := l.all fun p => p.2.all fun r => rowB F g p.1 t r.1 r.2
theorem PTab.look_row {g : FuncId} {t : TypeId} {b : Blk} {rest : List Value} {v : Value} : ∀ {l : PTab}, ptabB F g t l = true → l.look b t rest = some v → ∃ cells, blkB cells t b = true ∧ rowB F g cells t rest v = true
  | [], _, h => by cases h
  | (cells, tab) :: l, hl, h => by
    unfold ptabB at hl
    simp only [List.all_cons, Bool.and_eq_true] at hl
    unfold PTab.look at h
    cases hb : blkB cells t b with
    | true =>
      rw [hb] at h
      exact ⟨cells, hb, List.all_eq_true.1 hl.1 _ (Tab.look_mem h)⟩
    | false =>
      rw [hb] at h
      exact PTab.look_row hl.2 h
/-- A function that is known by tables at pointers to some blocks; elsewhere it is told by its code. -/
noncomputable def ptabN (g : FuncId) (t : TypeId) (l : PTab) (F : CallC) (args : List Value) (h : Hp) (q : Value → Hp → Bool) : Bool := match args with
  | .pointer (some ⟨i, 0, none⟩) :: rest => match h.get i with
    | some b => match l.look b t rest with
      | some v => q v h
      | none => F g args h q
    | none => F g args h q
  | _ => F g args h q
theorem ptab_ok {F' : CallC} (hF' : CallSound P F') {g : FuncId} {t : TypeId} {l : PTab} (ht : ptabB F' g t l = true) (F : CallC) (hF : CallSound P F) : OneSound P g (ptabN g t l F) := by
  intro args h k hr
  unfold ptabN at hr
  split at hr
  · rename_i i rest
    cases hg : h.get i with
    | none => rw [hg] at hr; exact hF g _ h k hr
    | some b =>
      rw [hg] at hr
      dsimp only at hr
      cases hl : l.look b t rest with
      | none => rw [hl] at hr; exact hF g _ h k hr
      | some v =>
        rw [hl] at hr
        obtain ⟨cells, hb, hrow⟩ := PTab.look_row ht hl
        refine ⟨v, h, hr, fun E w args' W hA => ?_⟩
        have hf := hrow
        simp only [rowB, Bool.and_eq_true] at hf
        match args', hA with
        | x :: rest', hA =>
          obtain ⟨c, hρ, rfl⟩ := hA.1.to_ptr
          obtain rfl := flat_list hA.2 hf.1.1.2
          rcases row_call hF' hrow W hg hρ hb with ⟨q1, q2⟩ | q1
          · exact .inl ⟨q1, Calls.mono q2 fun e w' he => ⟨v, he.1, E, Grow.refl E h, .refl_flat hf.1.2, he.2⟩⟩
          · exact .inr ⟨v, q1, E, Grow.refl E h, .refl_flat hf.1.2, W⟩
  · exact hF g args h k hr
end
end Go.Proofs.YtlagmjdifilheaaGreat.Exe
