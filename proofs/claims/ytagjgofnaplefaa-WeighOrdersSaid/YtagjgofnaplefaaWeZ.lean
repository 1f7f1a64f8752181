/- What the insertion sort and the merge give, plain. Conditions: those that are named. -/
import Derived.Test.YtagjgofnaplefaaWeY
namespace Go.Proofs.Ytagjgofnaplefaa.Wei
open Go.RowKit
open Flo
open Blk (nats)
theorem sym_to (n c g : Nat) (K : Nat → Int) (t : TypeId) : ∀ N, SymTo n c g K t N
  | 0 => fun cap a m b l w h0 => absurd h0 (Nat.not_lt_zero _)
  | N + 1 => fun cap a m b l w h0 hcmp hb hlt ham hmb hbl hn hl hr hap => by
    by_cases h1 : m = a + 1
    · exact sym_a n c g cap a m b K t l w hcmp hb hlt h1 hmb hbl hn (by rw [h1]; rw [h1] at hr; exact hr) hap
    · by_cases h2 : b = m + 1
      · exact sym_b n c g cap a m b K t l w hcmp hb hlt h2 ham h1 hbl hn hl hap
      · exact sym_c n c g cap a m b N K t l w (by omega) (sym_to n c g K t N) hcmp hb hlt ham h1 hmb h2 hbl hn hl hr hap
theorem swp_mix (l : List Nat) (a b i j : Nat) (hi : a ≤ i) (hib : i < b) (hj : a ≤ j) (hjb : j < b) (hb : b ≤ l.length) : Mix a b l (swp l i j) := by
  have h := fun x => swp_at l i j x (by omega) (by omega)
  refine ⟨swp_length _ _ _, fun x hx => by rw [h, if_neg (by omega), if_neg (by omega)], fun x h1 h2 => ?_, fun x h1 h2 => ?_⟩
  · rw [h]
    by_cases e1 : x = j
    · rw [if_pos e1]; exact ⟨i, hi, hib, rfl⟩
    · rw [if_neg e1]
      by_cases e2 : x = i
      · rw [if_pos e2]; exact ⟨j, hj, hjb, rfl⟩
      · rw [if_neg e2]; exact ⟨x, h1, h2, rfl⟩
  · by_cases e1 : x = j
    · refine ⟨i, hi, hib, ?_⟩
      rw [h, e1]
      by_cases e2 : i = j
      · rw [if_pos e2, e2]
      · rw [if_neg e2, if_pos rfl]
    · by_cases e2 : x = i
      · exact ⟨j, hj, hjb, by rw [h, if_pos rfl, e2]⟩
      · exact ⟨x, h1, h2, by rw [h, if_neg e1, if_neg e2]⟩
theorem inner_sor (K : Nat → Int) (lo : Nat) : ∀ (p : Nat) (d : List Nat) (j : Nat), lo ≤ p → p ≤ j → j < d.length → Sor K d lo p → Sor K d p (j + 1) → (∀ x y, lo ≤ x → x < p → p < y → y ≤ j → lx K (d.getD x 0) (d.getD y 0)) →
    (∀ x, lo ≤ x → x < p → d.getD x 0 < d.getD p 0) → Sor K (insInner K lo p d) lo (j + 1) ∧ Mix lo (j + 1) d (insInner K lo p d)
  | 0, d, j, hlp, hpj, hj, hA, hB, hC, hD => by
    have h0 : lo = 0 := by omega
    subst h0
    exact ⟨hB, Mix.refl _ _ _⟩
  | p + 1, d, j, hlp, hpj, hj, hA, hB, hC, hD => by
    unfold insInner
    split
    · rename_i hc
      have hs := fun x => swp_at d (p + 1) p x (by omega) (by omega)
      have hrec := inner_sor K lo p (swp d (p + 1) p) j (by omega) (by omega) (by rw [swp_length]; exact hj) (fun x y h1 h2 h3 => by
          rw [hs, hs, if_neg (by omega), if_neg (by omega), if_neg (by omega), if_neg (by omega)]
          exact hA x y h1 h2 (by omega)) (fun x y h1 h2 h3 => by
          rw [hs, hs]
          by_cases e1 : x = p
          · rw [if_pos e1, if_neg (by omega)]
            by_cases e2 : y = p + 1
            · rw [if_pos e2]; exact .inl hc.2
            · rw [if_neg e2]; exact hB _ _ (by omega) (by omega) (by omega)
          · by_cases e2 : x = p + 1
            · rw [if_neg e1, if_pos e2, if_neg (by omega), if_neg (by omega)]
              exact hC p y (by omega) (by omega) (by omega) (by omega)
            · rw [if_neg e1, if_neg e2, if_neg (by omega), if_neg (by omega)]
              exact hB _ _ (by omega) (by omega) (by omega)) (fun x y h1 h2 h3 h4 => by
          rw [hs, hs, if_neg (by omega), if_neg (by omega), if_neg (by omega)]
          by_cases e2 : y = p + 1
          · rw [if_pos e2]; exact hA _ _ h1 (by omega) (by omega)
          · rw [if_neg e2]; exact hC _ _ h1 (by omega) (by omega) (by omega)) (fun x h1 h2 => by
          rw [hs, hs, if_neg (by omega), if_neg (by omega), if_pos rfl]
          exact hD x h1 (by omega))
      exact ⟨hrec.1, (swp_mix d lo (j + 1) (p + 1) p (by omega) (by omega) (by omega) (by omega) (by omega)).trans hrec.2⟩
    · rename_i hc
      refine ⟨fun x y h1 h2 h3 => ?_, Mix.refl _ _ _⟩
      by_cases c1 : y < p + 1
      · exact hA x y h1 h2 c1
      · by_cases c2 : p + 1 ≤ x
        · exact hB x y c2 h2 h3
        · have hlx : lx K (d.getD p 0) (d.getD (p + 1) 0) := lx_right (hD p (by omega) (by omega)) (fun h => hc ⟨by omega, h⟩)
          have hx : x = p ∨ lx K (d.getD x 0) (d.getD p 0) := by
            by_cases e : x = p
            · exact .inl e
            · exact .inr (hA x p h1 (by omega) (by omega))
          by_cases e : y = p + 1
          · rw [e]
            rcases hx with hx | hx
            · rw [hx]; exact hlx
            · exact lx_trans hx hlx
          · exact hC x y h1 (by omega) (by omega) (by omega)
theorem outer_sor (K : Nat → Int) (lo hi : Nat) (i : Nat) (d : List Nat) (hli : lo ≤ i) (hih : i ≤ hi) (hd : hi ≤ d.length) (hS : Sor K d lo i) (h1 : ∀ x y, lo ≤ x → x < i → i ≤ y → y < hi → d.getD x 0 < d.getD y 0)
    (h2 : ∀ x y, i ≤ x → x < y → y < hi → d.getD x 0 < d.getD y 0) : Sor K (insOuter K lo hi i d) lo hi ∧ Mix lo hi d (insOuter K lo hi i d) := by
  fun_induction insOuter K lo hi i d with
  | case1 i d hlt ih =>
    have hin := inner_sor K lo i d i hli (Nat.le_refl _) (by omega) hS (fun x y a1 a2 a3 => by omega) (fun x y a1 a2 a3 a4 => by omega) (fun x a1 a2 => h1 x i a1 a2 (Nat.le_refl _) hlt)
    have hm := hin.2
    have := ih (by omega) (by omega) (by rw [hm.1]; exact hd) hin.1 (fun x y a1 a2 a3 a4 => by
      obtain ⟨x', p1, p2, p3⟩ := hm.2.2.1 x a1 (by omega)
      rw [p3, hm.2.1 y (by omega)]
      by_cases e : x' = i
      · rw [e]; exact h2 i y (Nat.le_refl _) (by omega) a4
      · exact h1 x' y p1 (by omega) (by omega) a4) (fun x y a1 a2 a3 => by
      rw [hm.2.1 x (by omega), hm.2.1 y (by omega)]
      exact h2 x y (by omega) a2 a3)
    exact ⟨this.1, (hm.mono (Nat.le_refl _) (by omega)).trans this.2⟩
  | case2 i d hlt =>
    have e : i = hi := by omega
    subst e
    exact ⟨hS, Mix.refl _ _ _⟩
/-- The insertion sort of a range of ascending numbers. -/
theorem ins_sor (K : Nat → Int) (lo hi : Nat) (d : List Nat) (hlh : lo ≤ hi) (hd : hi ≤ d.length) (h : ∀ x y, lo ≤ x → x < y → y < hi → d.getD x 0 < d.getD y 0) : Sor K (insOuter K lo hi (lo + 1) d) lo hi ∧ Mix lo hi d (insOuter K lo hi (lo + 1) d) := by
  by_cases hc : lo + 1 ≤ hi
  · exact outer_sor K lo hi (lo + 1) d (by omega) hc hd (fun x y a1 a2 a3 => by omega) (fun x y a1 a2 a3 a4 => h x y a1 (by omega) a4) (fun x y a1 a2 a3 => h x y (by omega) a2 a3)
  · have e : insOuter K lo hi (lo + 1) d = d := by rw [insOuter, if_neg (by omega)]
    rw [e]
    exact ⟨fun x y a1 a2 a3 => by omega, Mix.refl _ _ _⟩
theorem range_at (n x : Nat) (h : x < n) : (List.range n).getD x 0 = x := by simp [List.getD_eq_getElem?_getD, h]
/-- The stable order of so many places. -/
def Ordered (K : Nat → Int) (n : Nat) (l : List Nat) : Prop := Sor K l 0 n ∧ Mix 0 n (List.range n) l
theorem few_ordered (K : Nat → Int) (n : Nat) : Ordered K n (few K (List.range n)) := by
  unfold few
  rw [List.length_range]
  exact ins_sor K 0 n (List.range n) (Nat.zero_le _) (by rw [List.length_range]; exact Nat.le_refl _) (fun x y a1 a2 a3 => by rw [range_at n x (by omega), range_at n y a3]; exact a2)
/-- There is but one. -/
theorem Ordered.mem {K : Nat → Int} {n : Nat} {l : List Nat} (h : Ordered K n l) : l.length = n ∧ ∀ v, v < n ↔ ∃ x, x < n ∧ l.getD x 0 = v := by
  obtain ⟨_, h1, _, h3, h4⟩ := h
  refine ⟨by rw [h1, List.length_range], fun v => ⟨fun hv => ?_, fun ⟨x, hx, e⟩ => ?_⟩⟩
  · obtain ⟨y, _, y2, y3⟩ := h4 v (Nat.zero_le _) hv
    rw [range_at n v hv] at y3
    exact ⟨y, y2, y3.symm⟩
  · obtain ⟨y, _, y2, y3⟩ := h3 x (Nat.zero_le _) hx
    rw [range_at n y y2] at y3
    omega
end Go.Proofs.Ytagjgofnaplefaa.Wei
