/- A call of a pointer to a flat block and of flat arguments, that leaves the block as it was and ends in a flat value, told by a run over that block alone: it does so in any world. Condition: that the executor is sound. -/
import Derived.Test.YtlagmjdifilheaaGreatExY
namespace Go.Proofs.YtlagmjdifilheaaGreat.Exe
open Go Go.RowKit
section
variable {P : Program} {F : CallC}
noncomputable def Hp.one (cells : List Value) (t : TypeId) : Hp := ⟨T4.putN (.leaf (.row (Blk.of cells t false))) roomD 1 .nil, 2⟩
theorem Hp.one_ob (cells : List Value) (t : TypeId) (j : Nat) : (Hp.one cells t).ob j = if j = 1 then some (.row (Blk.of cells t false)) else Option.none := by
  by_cases hj : j = 1
  · subst hj
    rw [if_pos rfl, Hp.ob_eq (by decide)]
    show T4.get _ (T4.putN _ roomD 1 .nil) = _
    rw [T4.putN_eq, T4.path_same, T4.get_leaf]
  · rw [if_neg hj]
    have := put_tree_other (t := .nil) (v := .leaf (.row (Blk.of cells t false))) (n := 2) (n' := 1) (i := 1) (j := j) (by decide) hj
    exact this.trans (Hp.none_ob j)
theorem row_leaf {E : Env} {B : Nat → Prop} {w0 w : World} {h : Hp} {i b : Nat} {blk : Blk} (W : WR E P B w0 w h) (hi : h.get i = some blk) (hρ : E.ρ i = some b) (hg : blk.grow = false) (hl : blk.cells.all leafB = true) :
    ∃ fr, B b ∧ w.heap[b]? = some (.cells blk.cells.toArray blk.elem fr) ∧ ∀ k, k < blk.cells.length → ¬ (fr.1 ≤ k ∧ k < fr.2) := by
  obtain ⟨cs, fr, h1, h2, h3, h4, h5, _⟩ := W.row hi hρ
  have hs := h5 hg
  have h6 : cs.toList.take blk.cells.length = blk.cells := h4.of_leaf hl
  rw [List.take_of_length_le (by rw [Array.length_toList, hs]; exact Nat.le_refl _)] at h6
  have h7 : cs = blk.cells.toArray := by apply Array.toList_inj.1; simpa using h6
  subst h7
  exact ⟨fr, h1, h2, fun k hk => h3 k (by simpa using hk)⟩
theorem ptr_call (hF : CallSound P F) {g : FuncId} {cells : List Value} {t : TypeId} {rest : List Value} {v : Value} (hc : cells.all leafB = true) (hrest : rest.all flatB = true) (hv : flatB v = true)
    (hr : ∀ r : Value → Option Blk → Bool, F g (.pointer (some ⟨1, 0, none⟩) :: rest) (Hp.one cells t) (fun v h' => r v (h'.get 1)) = r v (some (Blk.of cells t false)))
    {E : Env} {B : Nat → Prop} {w0 w : World} {h : Hp} {i b : Nat} {blk : Blk} (W : WR E P B w0 w h) (hi : h.get i = some blk) (hρ : E.ρ i = some b) (h1 : blk.cells = cells) (h2 : blk.elem = t) (h3 : blk.grow = false) :
    ((callFunc g (.pointer (some ⟨b, 0, none⟩) :: rest).toArray).run P w = .ok (.enter g (.pointer (some ⟨b, 0, none⟩) :: rest).toArray) w ∧ Calls P g (.pointer (some ⟨b, 0, none⟩) :: rest).toArray w fun e w' => e = .returned v ∧ WR E P B w0 w' h) ∨
    ((callFunc g (.pointer (some ⟨b, 0, none⟩) :: rest).toArray).run P w = .ok (.value v) w) := by
  classical
  subst h1 h2
  obtain ⟨fr, hBb, hb, hfr⟩ := row_leaf W hi hρ h3 hc
  have hlt := (Array.getElem?_eq_some_iff.1 hb).1
  have W1 : WR ⟨fun j => if j = 1 then some b else none, fun _ => 0⟩ P (fun k => w.heap.size ≤ k ∨ k = b) w w (Hp.one blk.cells blk.elem) := by
    refine ⟨Keep.refl _ _, fun _ hk => .inl hk, fun j ob c hj hjc => ?_, fun j k c hj hk _ _ => ?_, fun j hj => ?_⟩
    · rw [Hp.one_ob] at hj
      split at hj
      · rename_i hj1
        cases hj
        subst hj1
        simp only [if_true, Option.some.injEq] at hjc
        subst hjc
        refine ⟨_, .inr rfl, hb, blk.cells.toArray, fr, rfl, fun k hk => hfr k (by simpa using hk), ?_, fun _ => ?_, fun hg => by cases hg⟩
        · rw [Blk.of_cells]
          simpa using RelL.refl_leaf hc
        · rw [Blk.of_cells]; simp
      · cases hj
    · rw [Hp.one_ob] at hj hk
      split at hj
      · split at hk
        · omega
        · cases hk
      · cases hj
    · have : ¬ j = 1 := by
        have h2 : 2 ≤ j := hj
        omega
      simp [this]
  have hk : F g (.pointer (some ⟨1, 0, none⟩) :: rest) (Hp.one blk.cells blk.elem) (fun v' h' => decide (v' = v ∧ h'.get 1 = some (Blk.of blk.cells blk.elem false))) = true := by
    have := hr fun v' o => decide (v' = v ∧ o = some (Blk.of blk.cells blk.elem false))
    rw [this]
    simp
  obtain ⟨v', h', hk', hS⟩ := hF g _ _ _ hk
  have hk2 : v' = v ∧ h'.get 1 = some (Blk.of blk.cells blk.elem false) := by simpa using hk'
  obtain ⟨rfl, hg1⟩ := hk2
  have hA : RelL ⟨fun j => if j = 1 then some b else none, fun _ => 0⟩ (.pointer (some ⟨1, 0, none⟩) :: rest) (.pointer (some ⟨b, 0, none⟩) :: rest) := ⟨.ptr 1 b 0 (by simp), flat_self hrest⟩
  rcases hS _ w _ W1 hA with ⟨q1, q2⟩ | ⟨x, q1, E', _, q4, _⟩
  · refine .inl ⟨q1, Calls.mono q2 fun e w' he => ?_⟩
    obtain ⟨x, rfl, E', g1, g2, g3⟩ := he
    refine ⟨by rw [g2.of_flat hv], ?_⟩
    have hρ' : E'.ρ 1 = some b := (g1.1 1 b (by simp)).1
    obtain ⟨fr', _, hb', hfr'⟩ := row_leaf g3 hg1 hρ' rfl (by rw [Blk.of_cells]; exact hc)
    rw [Blk.of_cells] at hb' hfr'
    refine ⟨W.below.trans ⟨g3.below.os, g3.below.tape, g3.below.output, g3.below.size, fun k hk hn => g3.below.block k hk fun hs => ?_⟩, W.base, fun j ob c hj hjc => ?_, W.inj, W.fresh⟩
    · rcases hs with hs | rfl
      · omega
      · exact hn hBb
    · obtain ⟨o, k1, k2, k3⟩ := W.live j ob c hj hjc
      by_cases hcb : c = b
      · subst hcb
        obtain rfl : j = i := W.inj j i c (by rw [hj]; rfl) (by rw [Hp.get_ob hi]; rfl) hjc hρ
        rw [Hp.get_ob hi] at hj
        cases hj
        refine ⟨_, k1, hb', blk.cells.toArray, fr', rfl, fun k hk => hfr' k (by simpa using hk), ?_, fun _ => by simp, fun hg => by rw [h3] at hg; cases hg⟩
        simpa using RelL.refl_leaf hc
      · have hlt' := (Array.getElem?_eq_some_iff.1 k2).1
        exact ⟨o, k1, (g3.below.block c hlt' (fun hs => by rcases hs with hs | hs; exact absurd hs (by omega); exact hcb hs)).trans k2, k3⟩
  · exact .inr (by rw [← q4.of_flat hv]; exact q1)
end
end Go.Proofs.YtlagmjdifilheaaGreat.Exe
