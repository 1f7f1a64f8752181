/- Merging two sorted ranges in place: what the parts give. Conditions: those that are named. -/
import Derived.Test.YtagjgofnaplefaaWeU
namespace Go.Proofs.Ytagjgofnaplefaa.Wei
open Go.RowKit
open Flo
/-- Lesser by the key, and by the place where the keys are the same. -/
def lx (K : Nat → Int) (x y : Nat) : Prop := K x < K y ∨ (K x = K y ∧ x < y)
theorem lx_trans {K : Nat → Int} {x y z : Nat} (h1 : lx K x y) (h2 : lx K y z) : lx K x z := by unfold lx at *; omega
theorem lx_irr {K : Nat → Int} {x : Nat} : ¬ lx K x x := by unfold lx; omega
/-- A range is sorted. -/
def Sor (K : Nat → Int) (l : List Nat) (a b : Nat) : Prop := ∀ x y, a ≤ x → x < y → y < b → lx K (l.getD x 0) (l.getD y 0)
/-- A range's entries have been moved within it; what lies outside is as it was. -/
def Mix (a b : Nat) (l l' : List Nat) : Prop :=
  l'.length = l.length ∧ (∀ x, x < a ∨ b ≤ x → l'.getD x 0 = l.getD x 0) ∧ (∀ x, a ≤ x → x < b → ∃ y, a ≤ y ∧ y < b ∧ l'.getD x 0 = l.getD y 0) ∧ (∀ x, a ≤ x → x < b → ∃ y, a ≤ y ∧ y < b ∧ l.getD x 0 = l'.getD y 0)
theorem Mix.refl (a b : Nat) (l : List Nat) : Mix a b l l := ⟨rfl, fun _ _ => rfl, fun x h1 h2 => ⟨x, h1, h2, rfl⟩, fun x h1 h2 => ⟨x, h1, h2, rfl⟩⟩
theorem Mix.trans {a b : Nat} {l d e : List Nat} (h : Mix a b l d) (h' : Mix a b d e) : Mix a b l e := by
  obtain ⟨h1, h2, h3, h4⟩ := h
  obtain ⟨k1, k2, k3, k4⟩ := h'
  refine ⟨k1.trans h1, fun x hx => (k2 x hx).trans (h2 x hx), fun x hx hy => ?_, fun x hx hy => ?_⟩
  · obtain ⟨y, y1, y2, y3⟩ := k3 x hx hy
    obtain ⟨z, z1, z2, z3⟩ := h3 y y1 y2
    exact ⟨z, z1, z2, y3.trans z3⟩
  · obtain ⟨y, y1, y2, y3⟩ := h4 x hx hy
    obtain ⟨z, z1, z2, z3⟩ := k4 y y1 y2
    exact ⟨z, z1, z2, y3.trans z3⟩
theorem Mix.mono {a b a' b' : Nat} {l d : List Nat} (h : Mix a b l d) (ha : a' ≤ a) (hb : b ≤ b') : Mix a' b' l d := by
  obtain ⟨h1, h2, h3, h4⟩ := h
  refine ⟨h1, fun x hx => h2 x (by omega), fun x hx hy => ?_, fun x hx hy => ?_⟩
  · by_cases hin : a ≤ x ∧ x < b
    · obtain ⟨y, y1, y2, y3⟩ := h3 x hin.1 hin.2
      exact ⟨y, by omega, by omega, y3⟩
    · exact ⟨x, hx, hy, h2 x (by omega)⟩
  · by_cases hin : a ≤ x ∧ x < b
    · obtain ⟨y, y1, y2, y3⟩ := h4 x hin.1 hin.2
      exact ⟨y, by omega, by omega, y3⟩
    · exact ⟨x, hx, hy, (h2 x (by omega)).symm⟩
theorem Rot.mix {l l' : List Nat} {s m e : Nat} (h : Rot l l' s m e) (h1 : s ≤ m) (h2 : m ≤ e) : Mix s e l l' := by
  obtain ⟨r1, r2⟩ := h
  refine ⟨r1, fun x hx => ?_, fun x hx hy => ?_, fun x hx hy => ?_⟩
  · rw [r2, if_neg (by omega), if_neg (by omega)]
  · rw [r2]
    by_cases hc : s ≤ x ∧ x < s + (e - m)
    · rw [if_pos hc]; exact ⟨_, by omega, by omega, rfl⟩
    · rw [if_neg hc, if_pos (by omega)]; exact ⟨_, by omega, by omega, rfl⟩
  · by_cases hc : x < m
    · refine ⟨x + (e - m), by omega, by omega, ?_⟩
      rw [r2, if_neg (by omega), if_pos (by omega), show x + (e - m) - (e - m) = x by omega]
    · refine ⟨x - (m - s), by omega, by omega, ?_⟩
      rw [r2, if_pos (by omega), show x - (m - s) + (m - s) = x by omega]
/-- The left part is of lesser numbers than the right part. -/
def Apart (l : List Nat) (a m b : Nat) : Prop := ∀ x y, a ≤ x → x < m → m ≤ y → y < b → l.getD x 0 < l.getD y 0
theorem lx_right {K : Nat → Int} {u v : Nat} (h : u < v) (h' : ¬ K v < K u) : lx K u v := by unfold lx; omega
/-- One entry is moved into the right part. -/
theorem one_left {K : Nat → Int} {l d : List Nat} {a b i : Nat} (hi : a + 1 ≤ i) (hib : i ≤ b) (hs : Sor K l (a + 1) b) (h1 : i = a + 1 ∨ lx K (l.getD (i - 1) 0) (l.getD a 0)) (h2 : i = b ∨ lx K (l.getD a 0) (l.getD i 0))
    (hr : Rot l d a (a + 1) i) : Sor K d a b := by
  have lo : ∀ x, a + 1 ≤ x → x < i → lx K (l.getD x 0) (l.getD a 0) := fun x hx hxi => by
    rcases h1 with h1 | h1
    · omega
    · by_cases he : x = i - 1
      · rw [he]; exact h1
      · exact lx_trans (hs x (i - 1) hx (by omega) (by omega)) h1
  have hi' : ∀ x, i ≤ x → x < b → lx K (l.getD a 0) (l.getD x 0) := fun x hx hxb => by
    rcases h2 with h2 | h2
    · omega
    · by_cases he : x = i
      · rw [he]; exact h2
      · exact lx_trans h2 (hs i x (by omega) (by omega) hxb)
  intro x y hx hxy hy
  rw [hr.2 x, hr.2 y]
  by_cases c1 : y < i - 1
  · rw [if_pos (by omega), if_pos (by omega)]
    exact hs _ _ (by omega) (by omega) (by omega)
  · by_cases c2 : y = i - 1
    · subst c2
      rw [if_pos (by omega), if_neg (by omega), if_pos (by omega), show i - 1 - (i - (a + 1)) = a by omega]
      exact lo _ (by omega) (by omega)
    · rw [if_neg (by omega : ¬ (a ≤ y ∧ _)), if_neg (by omega : ¬ (_ ∧ y < i))]
      by_cases c3 : x < i - 1
      · rw [if_pos (by omega)]
        exact hs _ _ (by omega) (by omega) (by omega)
      · by_cases c4 : x = i - 1
        · subst c4
          rw [if_neg (by omega), if_pos (by omega), show i - 1 - (i - (a + 1)) = a by omega]
          exact hi' _ (by omega) (by omega)
        · rw [if_neg (by omega), if_neg (by omega)]
          exact hs _ _ (by omega) (by omega) (by omega)
/-- One entry is moved into the left part. -/
theorem one_right {K : Nat → Int} {l d : List Nat} {a m i : Nat} (hi : a ≤ i) (him : i ≤ m) (hs : Sor K l a m) (h1 : i = a ∨ lx K (l.getD (i - 1) 0) (l.getD m 0)) (h2 : i = m ∨ lx K (l.getD m 0) (l.getD i 0))
    (hr : Rot l d i m (m + 1)) : Sor K d a (m + 1) := by
  have lo : ∀ x, a ≤ x → x < i → lx K (l.getD x 0) (l.getD m 0) := fun x hx hxi => by
    rcases h1 with h1 | h1
    · omega
    · by_cases he : x = i - 1
      · rw [he]; exact h1
      · exact lx_trans (hs x (i - 1) hx (by omega) (by omega)) h1
  have hi' : ∀ x, i ≤ x → x < m → lx K (l.getD m 0) (l.getD x 0) := fun x hx hxb => by
    rcases h2 with h2 | h2
    · omega
    · by_cases he : x = i
      · rw [he]; exact h2
      · exact lx_trans h2 (hs i x (by omega) (by omega) hxb)
  intro x y hx hxy hy
  rw [hr.2 x, hr.2 y]
  by_cases c1 : y < i
  · rw [if_neg (by omega), if_neg (by omega), if_neg (by omega), if_neg (by omega)]
    exact hs _ _ (by omega) (by omega) (by omega)
  · by_cases c2 : y = i
    · subst c2
      rw [if_neg (by omega), if_neg (by omega), if_pos (by omega), show y + (m - y) = m by omega]
      exact lo _ (by omega) (by omega)
    · rw [if_neg (by omega : ¬ (i ≤ y ∧ y < _)), if_pos (by omega : i + (m + 1 - m) ≤ y ∧ y < m + 1)]
      by_cases c3 : x < i
      · rw [if_neg (by omega), if_neg (by omega)]
        exact hs _ _ (by omega) (by omega) (by omega)
      · by_cases c4 : x = i
        · subst c4
          rw [if_pos (by omega), show x + (m - x) = m by omega]
          exact hi' _ (by omega) (by omega)
        · rw [if_neg (by omega), if_pos (by omega)]
          exact hs _ _ (by omega) (by omega) (by omega)
/-- Behind the rotation the first half is of lesser ones than the second half; each half is made of two sorted parts. -/
theorem halves {K : Nat → Int} {l d : List Nat} {a s m e b q : Nat} (has : a ≤ s) (hsm : s ≤ m) (hme : m ≤ e) (heb : e ≤ b) (hq : q = s + (e - m)) (hl : Sor K l a m) (hr : Sor K l m b) (hap : Apart l a m b)
    (h1 : s = m ∨ m = e ∨ lx K (l.getD (e - 1) 0) (l.getD s 0)) (h2 : s = a ∨ e = b ∨ lx K (l.getD (s - 1) 0) (l.getD e 0)) (hrot : Rot l d s m e) :
    (∀ x y, a ≤ x → x < q → q ≤ y → y < b → lx K (d.getD x 0) (d.getD y 0)) ∧ Sor K d a s ∧ Sor K d s q ∧ Sor K d q e ∧ Sor K d e b ∧ Apart d a s q ∧ Apart d q e b := by
  have e1 : ∀ x, a ≤ x → x < s → d.getD x 0 = l.getD x 0 := fun x h1 h2 => by rw [hrot.2, if_neg (by omega), if_neg (by omega)]
  have e2 : ∀ x, s ≤ x → x < q → d.getD x 0 = l.getD (x + (m - s)) 0 := fun x h1 h2 => by rw [hrot.2, if_pos (by omega)]
  have e3 : ∀ x, q ≤ x → x < e → d.getD x 0 = l.getD (x - (e - m)) 0 := fun x h1 h2 => by rw [hrot.2, if_neg (by omega), if_pos (by omega)]
  have e4 : ∀ x, e ≤ x → d.getD x 0 = l.getD x 0 := fun x h1 => by rw [hrot.2, if_neg (by omega), if_neg (by omega)]
  have f1 : ∀ x y, m ≤ x → x < e → s ≤ y → y < m → lx K (l.getD x 0) (l.getD y 0) := fun x y x1 x2 y1 y2 => by
    rcases h1 with h1 | h1 | h1
    · omega
    · omega
    · have a1 : x = e - 1 ∨ lx K (l.getD x 0) (l.getD (e - 1) 0) := by
        by_cases hx : x = e - 1
        · exact .inl hx
        · exact .inr (hr x (e - 1) x1 (by omega) (by omega))
      have a2 : y = s ∨ lx K (l.getD s 0) (l.getD y 0) := by
        by_cases hy : y = s
        · exact .inl hy
        · exact .inr (hl s y (by omega) (by omega) y2)
      rcases a1 with rfl | a1 <;> rcases a2 with rfl | a2
      · exact h1
      · exact lx_trans h1 a2
      · exact lx_trans a1 h1
      · exact lx_trans a1 (lx_trans h1 a2)
  have f2 : ∀ x y, a ≤ x → x < s → e ≤ y → y < b → lx K (l.getD x 0) (l.getD y 0) := fun x y x1 x2 y1 y2 => by
    rcases h2 with h2 | h2 | h2
    · omega
    · omega
    · have a1 : x = s - 1 ∨ lx K (l.getD x 0) (l.getD (s - 1) 0) := by
        by_cases hx : x = s - 1
        · exact .inl hx
        · exact .inr (hl x (s - 1) x1 (by omega) (by omega))
      have a2 : y = e ∨ lx K (l.getD e 0) (l.getD y 0) := by
        by_cases hy : y = e
        · exact .inl hy
        · exact .inr (hr e y (by omega) (by omega) y2)
      rcases a1 with rfl | a1 <;> rcases a2 with rfl | a2
      · exact h2
      · exact lx_trans h2 a2
      · exact lx_trans a1 h2
      · exact lx_trans a1 (lx_trans h2 a2)
  refine ⟨fun x y x1 x2 y1 y2 => ?_, fun x y x1 x2 x3 => ?_, fun x y x1 x2 x3 => ?_, fun x y x1 x2 x3 => ?_, fun x y x1 x2 x3 => ?_, fun x y x1 x2 y1 y2 => ?_, fun x y x1 x2 y1 y2 => ?_⟩
  · by_cases c1 : x < s <;> by_cases c2 : y < e
    · rw [e1 x x1 c1, e3 y y1 c2]; exact hl _ _ x1 (by omega) (by omega)
    · rw [e1 x x1 c1, e4 y (by omega)]; exact f2 _ _ x1 c1 (by omega) y2
    · rw [e2 x (by omega) x2, e3 y y1 c2]; exact f1 _ _ (by omega) (by omega) (by omega) (by omega)
    · rw [e2 x (by omega) x2, e4 y (by omega)]; exact hr _ _ (by omega) (by omega) y2
  · rw [e1 x x1 (by omega), e1 y (by omega) x3]; exact hl _ _ x1 x2 (by omega)
  · rw [e2 x x1 (by omega), e2 y (by omega) x3]; exact hr _ _ (by omega) (by omega) (by omega)
  · rw [e3 x x1 (by omega), e3 y (by omega) x3]; exact hl _ _ (by omega) (by omega) (by omega)
  · rw [e4 x x1, e4 y (by omega)]; exact hr _ _ (by omega) (by omega) (by omega)
  · rw [e1 x x1 x2, e2 y y1 y2]; exact hap _ _ x1 (by omega) (by omega) (by omega)
  · rw [e3 x x1 x2, e4 y y1]; exact hap _ _ (by omega) (by omega) (by omega) y2
/-- The two halves sorted, the whole is. -/
theorem halves_done {K : Nat → Int} {d d1 d2 : List Nat} {a q b : Nat} (haq : a ≤ q) (hqb : q ≤ b) (h : ∀ x y, a ≤ x → x < q → q ≤ y → y < b → lx K (d.getD x 0) (d.getD y 0)) (s1 : Sor K d1 a q) (m1 : Mix a q d d1) (s2 : Sor K d2 q b) (m2 : Mix q b d1 d2) :
    Sor K d2 a b ∧ Mix a b d d2 := by
  refine ⟨fun x y x1 x2 x3 => ?_, (m1.mono (by omega) hqb).trans (m2.mono haq (by omega))⟩
  by_cases c1 : y < q
  · rw [m2.2.1 x (by omega), m2.2.1 y (by omega)]; exact s1 x y x1 x2 c1
  · by_cases c2 : q ≤ x
    · exact s2 x y c2 x2 x3
    · obtain ⟨x', p1, p2, p3⟩ := m1.2.2.1 x x1 (by omega)
      obtain ⟨y', r1, r2, r3⟩ := m2.2.2.1 y (by omega) x3
      rw [m2.2.1 x (by omega), p3, r3, m1.2.1 y' (by omega)]
      exact h x' y' p1 p2 r1 r2
end Go.Proofs.Ytagjgofnaplefaa.Wei
