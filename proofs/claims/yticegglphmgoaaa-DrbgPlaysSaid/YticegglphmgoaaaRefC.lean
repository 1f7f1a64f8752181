/- The document's mixing of a block. Conditions: eight words below 2^32, sixty-four bytes. -/
import Derived.Test.YticegglphmgoaaaRefB
namespace Go.Proofs.Yticegglphmgoaaa.Sha
open Go.RowKit
open Blk (nats)
/-- What is known in a region that reads, calls, makes blocks and writes them, whatever has come up. -/
structure InvM (w0 : World) (val : Nat → Value) (zs : (Nat → Option Value) → Nat → List Value) (ts : Nat → TypeId) (lo hi : Nat) (σ : Nat → Option Value) (w : World) : Prop where
  below : Below w0.heap.size w0 w
  r : ∀ i v, i < lo → σ i = some v → v = val i
  a : ∀ i v, lo ≤ i → i < hi → σ i = some v → ∃ h, v = .pointer (some ⟨h, 0, none⟩) ∧ w0.heap.size ≤ h ∧ Blk.Is w h (zs σ i) (ts i)
  ne : ∀ i j h k, lo ≤ i → i < hi → lo ≤ j → j < hi → i ≠ j → σ i = some (.pointer (some ⟨h, 0, none⟩)) → σ j = some (.pointer (some ⟨k, 0, none⟩)) → h ≠ k
section
variable {w0 : World} {val : Nat → Value} {zs : (Nat → Option Value) → Nat → List Value} {ts : Nat → TypeId} {lo hi : Nat}
theorem InvM.start : InvM w0 val zs ts lo hi (fun _ => none) w0 :=
  ⟨Below.refl _ _, by simp, by simp, by simp⟩
theorem InvM.plain {σ : Nat → Option Value} {w w' : World} (h : InvM w0 val zs ts lo hi σ w) (hb : Below w.heap.size w w') (i : Nat) (hi' : i < lo) (hz : ∀ j, lo ≤ j → zs (Any.upd σ i (val i)) j = zs σ j) :
    InvM w0 val zs ts lo hi (Any.upd σ i (val i)) w' where
  below := h.below.trans (hb.mono h.below.size)
  r := fun j v hj hv => by
    by_cases e : j = i
    · subst e; rw [Any.upd_same] at hv; exact (Option.some.inj hv).symm
    · rw [Any.upd_other σ _ e] at hv; exact h.r j v hj hv
  a := fun j v h1 h2 hv => by
    rw [Any.upd_other σ _ (by omega)] at hv
    obtain ⟨g, e1, e2, e3⟩ := h.a j v h1 h2 hv
    exact ⟨g, e1, e2, by rw [hz j h1]; exact e3.below hb⟩
  ne := fun j k g g' h1 h2 h3 h4 h5 h6 h7 => by
    rw [Any.upd_other σ _ (by omega)] at h6 h7
    exact h.ne j k g g' h1 h2 h3 h4 h5 h6 h7
theorem InvM.made {σ : Nat → Option Value} {w : World} (h : InvM w0 val zs ts lo hi σ w) (i : Nat) (hi' : lo ≤ i) (cs : List Value) (hc : zs (Any.upd σ i (.pointer (some ⟨w.heap.size, 0, none⟩))) i = cs)
    (hz : ∀ j, j ≠ i → lo ≤ j → zs (Any.upd σ i (.pointer (some ⟨w.heap.size, 0, none⟩))) j = zs σ j) :
    InvM w0 val zs ts lo hi (Any.upd σ i (.pointer (some ⟨w.heap.size, 0, none⟩))) (w.alloc (.cells cs.toArray (ts i))) where
  below := h.below.alloc h.below.size _
  r := fun j v hj hv => by rw [Any.upd_other σ _ (by omega)] at hv; exact h.r j v hj hv
  a := fun j v h1 h2 hv => by
    by_cases e : j = i
    · subst e
      rw [Any.upd_same] at hv
      exact ⟨_, (Option.some.inj hv).symm, h.below.size, by rw [hc]; exact Blk.new w _ _⟩
    · rw [Any.upd_other σ _ e] at hv
      obtain ⟨g, e1, e2, e3⟩ := h.a j v h1 h2 hv
      exact ⟨g, e1, e2, by rw [hz j e h1]; exact e3.alloc _⟩
  ne := fun j k g g' h1 h2 h3 h4 h5 h6 h7 => by
    have old : ∀ j g, lo ≤ j → j < hi → σ j = some (.pointer (some ⟨g, 0, none⟩)) → g < w.heap.size := fun j g h1 h2 hv => by
      obtain ⟨g', e1, _, e3⟩ := h.a j _ h1 h2 hv
      injection e1 with e1; injection e1 with e1; injection e1 with e1
      rw [e1]
      exact e3.lt
    by_cases e : j = i
    · subst e
      rw [Any.upd_same] at h6
      rw [Any.upd_other σ _ (fun x => h5 x.symm)] at h7
      have := old k g' h3 h4 h7
      injection h6 with h6; injection h6 with h6; injection h6 with h6; injection h6 with h6
      omega
    · rw [Any.upd_other σ _ e] at h6
      by_cases e2 : k = i
      · subst e2
        rw [Any.upd_same] at h7
        have := old j g h1 h2 h6
        injection h7 with h7; injection h7 with h7; injection h7 with h7; injection h7 with h7
        omega
      · rw [Any.upd_other σ _ e2] at h7
        exact h.ne j k g g' h1 h2 h3 h4 h5 h6 h7
theorem InvM.stored {σ : Nat → Option Value} {w : World} (h : InvM w0 val zs ts lo hi σ w) (k i g : Nat) (u : Value) (hlo : lo ≤ hi) (hk : hi ≤ k) (h1 : lo ≤ i) (h2 : i < hi) (hg : σ i = some (.pointer (some ⟨g, 0, none⟩))) (cs : List Value)
    (hl : (zs σ i).length = cs.length) (hc : zs (Any.upd σ k u) i = cs) (hz : ∀ j, j ≠ i → lo ≤ j → zs (Any.upd σ k u) j = zs σ j) :
    InvM w0 val zs ts lo hi (Any.upd σ k u) (w.setCells g 0 cs) where
  below := by
    obtain ⟨g', e1, e2, _⟩ := h.a i _ h1 h2 hg
    injection e1 with e1; injection e1 with e1; injection e1 with e1
    exact Blk.below_setCells _ h.below (by omega) 0
  r := fun j v hj hv => by rw [Any.upd_other σ _ (by omega)] at hv; exact h.r j v hj hv
  a := fun j v h3 h4 hv => by
    rw [Any.upd_other σ _ (by omega)] at hv
    obtain ⟨g', e1, e2, e3⟩ := h.a j v h3 h4 hv
    by_cases e : j = i
    · subst e
      rw [hg] at hv
      obtain rfl := Option.some.inj hv
      injection e1 with e1; injection e1 with e1; injection e1 with e1
      refine ⟨g', by rw [e1], e2, ?_⟩
      rw [hc, e1]
      have := Blk.Is.setCells cs e3 0 (by omega)
      rwa [Blk.put_all _ _ hl] at this
    · refine ⟨g', e1, e2, ?_⟩
      rw [hz j e h3]
      subst e1
      exact Blk.Is.setCellsOther _ e3 (fun e' => h.ne j i g' g h3 h4 h1 h2 e hv hg e') 0
  ne := fun j k' g' g'' h3 h4 h5 h6 h7 h8 h9 => by
    rw [Any.upd_other σ _ (by omega)] at h8 h9
    exact h.ne j k' g' g'' h3 h4 h5 h6 h7 h8 h9
end
theorem choiceR (x4 x5 x6 : Nat) (l4 : x4 < 4294967296) (l5 : x5 < 4294967296) (l6 : x6 < 4294967296) :
    bits .xor .i64 (bits .and .i64 (x4 : Int) (x5 : Int)) (bits .and .i64 (bits .xor .i64 4294967295 (x4 : Int)) (x6 : Int)) = ((x6 ^^^ (x4 &&& (x5 ^^^ x6)) : Nat) : Int) := by
  have la : (4294967295 : Nat) < 2 ^ 32 := by decide
  rw [show (4294967295 : Int) = ((4294967295 : Nat) : Int) from rfl, xor63 _ _ (by decide) (by omega), and63 _ _ (by omega) (by omega),
    and63 _ _ (Nat.lt_of_lt_of_le (Nat.xor_lt_two_pow (n := 32) la l4) (by decide)) (by omega),
    xor63 _ _ (Nat.lt_of_le_of_lt Nat.and_le_left (by omega)) (Nat.lt_of_le_of_lt Nat.and_le_right (by omega))]
  congr 1
  apply Nat.eq_of_testBit_eq
  intro i
  simp only [Nat.testBit_xor, Nat.testBit_and]
  by_cases hi : i < 32
  · have : Nat.testBit 4294967295 i = true := by
      rw [show (4294967295 : Nat) = 2 ^ 32 - 1 from rfl, Nat.testBit_two_pow_sub_one]
      simpa using hi
    rw [this]
    cases x4.testBit i <;> cases x5.testBit i <;> cases x6.testBit i <;> rfl
  · have h6 : x6.testBit i = false := Nat.testBit_lt_two_pow (Nat.lt_of_lt_of_le l6 (Nat.pow_le_pow_right (n := 2) (by decide) (show 32 ≤ i by omega)))
    have h5 : x5.testBit i = false := Nat.testBit_lt_two_pow (Nat.lt_of_lt_of_le l5 (Nat.pow_le_pow_right (n := 2) (by decide) (show 32 ≤ i by omega)))
    rw [h6, h5]
    simp
theorem majorR (x0 x1 x2 : Nat) (l0 : x0 < 4294967296) (l1 : x1 < 4294967296) (l2 : x2 < 4294967296) :
    bits .xor .i64 (bits .xor .i64 (bits .and .i64 (x0 : Int) (x1 : Int)) (bits .and .i64 (x0 : Int) (x2 : Int))) (bits .and .i64 (x1 : Int) (x2 : Int)) = (((x0 &&& x1) ||| (x2 &&& (x0 ||| x1)) : Nat) : Int) := by
  have a1 : x0 &&& x1 < 2 ^ 32 := Nat.lt_of_le_of_lt Nat.and_le_left l0
  have a2 : x0 &&& x2 < 2 ^ 32 := Nat.lt_of_le_of_lt Nat.and_le_left l0
  have a3 : x1 &&& x2 < 2 ^ 32 := Nat.lt_of_le_of_lt Nat.and_le_left l1
  have a4 := Nat.xor_lt_two_pow (n := 32) a1 a2
  rw [and63 _ _ (by omega) (by omega), and63 _ _ (by omega) (by omega), and63 _ _ (by omega) (by omega), xor63 _ _ (by omega) (by omega), xor63 _ _ (by omega) (by omega)]
  congr 1
  apply Nat.eq_of_testBit_eq
  intro i
  simp only [Nat.testBit_xor, Nat.testBit_and, Nat.testBit_or]
  cases x0.testBit i <;> cases x1.testBit i <;> cases x2.testBit i <;> rfl
theorem rot3R (a n m k : Nat) : bits .xor .i64 (bits .xor .i64 ((rotr a n : Nat) : Int) ((rotr a m : Nat) : Int)) ((rotr a k : Nat) : Int) = ((rotr a n ^^^ rotr a m ^^^ rotr a k : Nat) : Int) := by
  have h1 := rotr_lt a n
  have h2 := rotr_lt a m
  have h3 := rotr_lt a k
  have h4 := Nat.xor_lt_two_pow (n := 32) h1 h2
  rw [xor63 _ _ (by omega) (by omega), xor63 _ _ (by omega) (by omega)]
theorem rot3_lt (a n m k : Nat) : (rotr a n ^^^ rotr a m ^^^ rotr a k) < 4294967296 :=
  Nat.xor_lt_two_pow (n := 32) (Nat.xor_lt_two_pow (n := 32) (rotr_lt a n) (rotr_lt a m)) (rotr_lt a k)
end Go.Proofs.Yticegglphmgoaaa.Sha
