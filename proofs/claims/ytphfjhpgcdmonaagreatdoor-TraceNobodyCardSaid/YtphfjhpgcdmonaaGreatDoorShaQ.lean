/- The digest of a text once more, in a form that is reckoned fast: whole numbers alone, each forced; it is the digest. No condition. -/
import Derived.Test.YtphfjhpgcdmonaaGreatDoorShaG
namespace Go.Proofs.YtphfjhpgcdmonaaGreatDoor.Sha
open Go.RowKit
set_option maxRecDepth 100000
/-- A number, reckoned ahead of what is done with it. -/
noncomputable def force (x : Nat) (k : Nat → Bool) : Bool := Nat.rec (motive := fun _ => Bool) (k 0) (fun m _ => k (Nat.succ m)) x
theorem force_is (x : Nat) (k : Nat → Bool) : force x k = k x := by cases x <;> rfl

/-! ### 1. Words -/
abbrev F8 := Nat → Nat → Nat → Nat → Nat → Nat → Nat → Nat → Bool
def sig0 (x : Nat) : Nat := (fun y => Nat.mod (Nat.xor (Nat.xor (Nat.shiftRight y 2) (Nat.shiftRight y 13)) (Nat.shiftRight y 22)) 4294967296) (Nat.mul x 4294967297)
def sig1 (x : Nat) : Nat := (fun y => Nat.mod (Nat.xor (Nat.xor (Nat.shiftRight y 6) (Nat.shiftRight y 11)) (Nat.shiftRight y 25)) 4294967296) (Nat.mul x 4294967297)
def lowF (x : Nat) : Nat := Nat.xor ((fun y => Nat.mod (Nat.xor (Nat.shiftRight y 7) (Nat.shiftRight y 18)) 4294967296) (Nat.mul x 4294967297)) (Nat.shiftRight x 3)
def highF (x : Nat) : Nat := Nat.xor ((fun y => Nat.mod (Nat.xor (Nat.shiftRight y 17) (Nat.shiftRight y 19)) 4294967296) (Nat.mul x 4294967297)) (Nat.shiftRight x 10)
theorem rotr_mul (x n : Nat) (hx : x < 4294967296) (hn : n ≤ 32) : ((x * 4294967297) >>> n) % 4294967296 = rotr x n := by
  have e : x * 4294967297 = x <<< 32 ||| x := by
    rw [← Nat.shiftLeft_add_eq_or_of_lt (show x < 2 ^ 32 by omega), Nat.shiftLeft_eq]
    omega
  unfold rotr
  rw [e]
  refine Nat.eq_of_testBit_eq fun i => ?_
  rw [show (4294967296 : Nat) = 2 ^ 32 by rfl, Nat.testBit_mod_two_pow, Nat.testBit_mod_two_pow, Nat.testBit_shiftRight, Nat.testBit_or, Nat.testBit_or, Nat.testBit_shiftLeft, Nat.testBit_shiftRight, Nat.testBit_shiftLeft]
  by_cases h1 : i < 32
  · by_cases h2 : n + i < 32
    · have a : ¬ n + i ≥ 32 := by omega
      have b : ¬ i ≥ 32 - n := by omega
      simp [h1, a, b]
    · have a : n + i ≥ 32 := by omega
      have b : i ≥ 32 - n := by omega
      have c : x.testBit (n + i) = false := Nat.testBit_lt_two_pow (Nat.lt_of_lt_of_le (show x < 2 ^ 32 by omega) (Nat.pow_le_pow_right (by decide) a))
      have d : n + i - 32 = i - (32 - n) := by omega
      simp [h1, a, b, c, d]
  · simp [h1]
theorem sig0_is (x : Nat) (hx : x < 4294967296) : sig0 x = rotr x 2 ^^^ rotr x 13 ^^^ rotr x 22 := by
  rw [← rotr_mul x 2 hx (by decide), ← rotr_mul x 13 hx (by decide), ← rotr_mul x 22 hx (by decide), show (4294967296 : Nat) = 2 ^ 32 by rfl, ← Nat.xor_mod_two_pow, ← Nat.xor_mod_two_pow]
  rfl
theorem sig1_is (x : Nat) (hx : x < 4294967296) : sig1 x = rotr x 6 ^^^ rotr x 11 ^^^ rotr x 25 := by
  rw [← rotr_mul x 6 hx (by decide), ← rotr_mul x 11 hx (by decide), ← rotr_mul x 25 hx (by decide), show (4294967296 : Nat) = 2 ^ 32 by rfl, ← Nat.xor_mod_two_pow, ← Nat.xor_mod_two_pow]
  rfl
theorem lowF_is (x : Nat) (hx : x < 4294967296) : lowF x = low x := by
  unfold low
  rw [← rotr_mul x 7 hx (by decide), ← rotr_mul x 18 hx (by decide), show (4294967296 : Nat) = 2 ^ 32 by rfl, ← Nat.xor_mod_two_pow]
  rfl
theorem highF_is (x : Nat) (hx : x < 4294967296) : highF x = high x := by
  unfold high
  rw [← rotr_mul x 17 hx (by decide), ← rotr_mul x 19 hx (by decide), show (4294967296 : Nat) = 2 ^ 32 by rfl, ← Nat.xor_mod_two_pow]
  rfl

/-! ### 2. The words of a block -/
theorem schB_far (b : List Nat) (k i : Nat) (h : i < 16 + k) (m : Nat) : at_ (schB b (k + m)) i = at_ (schB b k) i := by
  induction m with
  | zero => rfl
  | succ m ih =>
    rw [← Nat.add_assoc, schB, schStep, at_set, if_neg (by omega), ih]
theorem sched_far (b : List Nat) (k i : Nat) (h : i < 16 + k) (hk : k ≤ 48) : at_ (sched b) i = at_ (schB b k) i := by
  have := schB_far b k i h (48 - k)
  rw [show k + (48 - k) = 48 by omega] at this
  exact this
theorem sched_step (b : List Nat) (i : Nat) (h : i + 16 < 64) : at_ (sched b) (i + 16) = (at_ (sched b) i + low (at_ (sched b) (i + 1)) + at_ (sched b) (i + 9) + high (at_ (sched b) (i + 14))) % 4294967296 := by
  rw [sched_far b (i + 1) (i + 16) (by omega) (by omega), schB, schStep, at_set, if_pos ⟨by omega, by rw [schB_length]; omega⟩, sched_far b i i (by omega) (by omega), sched_far b i (i + 1) (by omega) (by omega), sched_far b i (i + 9) (by omega) (by omega), sched_far b i (i + 14) (by omega) (by omega)]
  rw [show 16 + i - 16 = i by omega, show 16 + i - 15 = i + 1 by omega, show 16 + i - 7 = i + 9 by omega, show 16 + i - 2 = i + 14 by omega]
theorem schA_far (b : List Nat) (k i : Nat) (h : i < k) (hk : k ≤ 64) : at_ (schA b k) i = at_ b (4 * i) * 16777216 + at_ b (4 * i + 1) * 65536 + at_ b (4 * i + 2) * 256 + at_ b (4 * i + 3) := by
  induction k with
  | zero => omega
  | succ k ih =>
    rw [schA, at_set, schA_length]
    by_cases hi : k = i
    · rw [if_pos ⟨hi, by omega⟩, hi]
    · rw [if_neg (by omega), ih (by omega) (by omega)]
theorem sched_word (b : List Nat) (i : Nat) (h : i < 16) : at_ (sched b) i = at_ b (4 * i) * 16777216 + at_ b (4 * i + 1) * 65536 + at_ b (4 * i + 2) * 256 + at_ b (4 * i + 3) := by
  rw [sched_far b 0 i (by omega) (by omega), schB_zero, schA_far b 16 i h (by decide)]

/-! ### 3. The rounds -/
abbrev F16 := Nat → Nat → Nat → Nat → Nat → Nat → Nat → Nat → Nat → Nat → Nat → Nat → Nat → Nat → Nat → Nat → F8
noncomputable def stepsF (fin : F8) (l : List Nat) : F16 := List.rec (motive := fun _ => F16) (fun _ _ _ _ _ _ _ _ _ _ _ _ _ _ _ _ => fin)
  (fun t _ ih w0 w1 w2 w3 w4 w5 w6 w7 w8 w9 w10 w11 w12 w13 w14 w15 a b c d e f g h =>
    force (Nat.add (Nat.add (Nat.add h (sig1 e)) (Nat.xor g (Nat.land e (Nat.xor f g)))) (Nat.add t w0)) fun one =>
    force (Nat.mod (Nat.add d one) 4294967296) fun e' =>
    force (Nat.mod (Nat.add one (Nat.add (sig0 a) (Nat.lor (Nat.land a b) (Nat.land c (Nat.lor a b))))) 4294967296) fun a' =>
    force (Nat.mod (Nat.add (Nat.add w0 (lowF w1)) (Nat.add w9 (highF w14))) 4294967296) fun w16 =>
    ih w1 w2 w3 w4 w5 w6 w7 w8 w9 w10 w11 w12 w13 w14 w15 w16 a' a b c e' e f g) l
theorem stepsF_cons (fin : F8) (t : Nat) (l : List Nat) (w0 w1 w2 w3 w4 w5 w6 w7 w8 w9 w10 w11 w12 w13 w14 w15 a b c d e f g h : Nat) :
    stepsF fin (t :: l) w0 w1 w2 w3 w4 w5 w6 w7 w8 w9 w10 w11 w12 w13 w14 w15 a b c d e f g h =
      stepsF fin l w1 w2 w3 w4 w5 w6 w7 w8 w9 w10 w11 w12 w13 w14 w15 ((w0 + lowF w1 + (w9 + highF w14)) % 4294967296)
        (((h + sig1 e + (g ^^^ (e &&& (f ^^^ g))) + (t + w0)) + (sig0 a + ((a &&& b) ||| (c &&& (a ||| b))))) % 4294967296) a b c
        ((d + (h + sig1 e + (g ^^^ (e &&& (f ^^^ g))) + (t + w0))) % 4294967296) e f g := by
  have e0 : stepsF fin (t :: l) w0 w1 w2 w3 w4 w5 w6 w7 w8 w9 w10 w11 w12 w13 w14 w15 a b c d e f g h =
    force (Nat.add (Nat.add (Nat.add h (sig1 e)) (Nat.xor g (Nat.land e (Nat.xor f g)))) (Nat.add t w0)) fun one =>
    force (Nat.mod (Nat.add d one) 4294967296) fun e' =>
    force (Nat.mod (Nat.add one (Nat.add (sig0 a) (Nat.lor (Nat.land a b) (Nat.land c (Nat.lor a b))))) 4294967296) fun a' =>
    force (Nat.mod (Nat.add (Nat.add w0 (lowF w1)) (Nat.add w9 (highF w14))) 4294967296) fun w16 =>
    stepsF fin l w1 w2 w3 w4 w5 w6 w7 w8 w9 w10 w11 w12 w13 w14 w15 w16 a' a b c e' e f g := rfl
  rw [e0]
  simp only [force_is]
  rfl
theorem add_a (h s c k w s0 m : Nat) : (h + s + c + (k + w) + (s0 + m)) % 4294967296 = ((h + s + c + k + w) % 4294967296 + (s0 + m) % 4294967296) % 4294967296 := by omega
theorem add_e (d h s c k w : Nat) : (d + (h + s + c + (k + w))) % 4294967296 = (d + (h + s + c + k + w) % 4294967296) % 4294967296 := by omega
theorem add_w (a b c d : Nat) : (a + b + (c + d)) % 4294967296 = (a + b + c + d) % 4294967296 := by omega
set_option maxHeartbeats 2000000 in
theorem stepsF_is (fin : F8) (blk v : List Nat) (hb : ∀ i, at_ blk i < 256) (hv : v.length = 8) (hV : ∀ i, at_ v i < 4294967296) :
    ∀ (n t : Nat), t + n = 64 → ∀ (w0 w1 w2 w3 w4 w5 w6 w7 w8 w9 w10 w11 w12 w13 w14 w15 a b c d e f g h : Nat), rounds (sched blk) v t = [a, b, c, d, e, f, g, h] →
      (t < 64 → w0 = at_ (sched blk) t) → (t + 1 < 64 → w1 = at_ (sched blk) (t + 1)) → (t + 2 < 64 → w2 = at_ (sched blk) (t + 2)) → (t + 3 < 64 → w3 = at_ (sched blk) (t + 3)) →
      (t + 4 < 64 → w4 = at_ (sched blk) (t + 4)) → (t + 5 < 64 → w5 = at_ (sched blk) (t + 5)) → (t + 6 < 64 → w6 = at_ (sched blk) (t + 6)) → (t + 7 < 64 → w7 = at_ (sched blk) (t + 7)) →
      (t + 8 < 64 → w8 = at_ (sched blk) (t + 8)) → (t + 9 < 64 → w9 = at_ (sched blk) (t + 9)) → (t + 10 < 64 → w10 = at_ (sched blk) (t + 10)) → (t + 11 < 64 → w11 = at_ (sched blk) (t + 11)) →
      (t + 12 < 64 → w12 = at_ (sched blk) (t + 12)) → (t + 13 < 64 → w13 = at_ (sched blk) (t + 13)) → (t + 14 < 64 → w14 = at_ (sched blk) (t + 14)) → (t + 15 < 64 → w15 = at_ (sched blk) (t + 15)) →
      ∃ A B C D E F G H, rounds (sched blk) v 64 = [A, B, C, D, E, F, G, H] ∧ stepsF fin (ks.drop t) w0 w1 w2 w3 w4 w5 w6 w7 w8 w9 w10 w11 w12 w13 w14 w15 a b c d e f g h = fin A B C D E F G H := by
  intro n
  induction n with
  | zero =>
    intro t ht w0 w1 w2 w3 w4 w5 w6 w7 w8 w9 w10 w11 w12 w13 w14 w15 a b c d e f g h hr _ _ _ _ _ _ _ _ _ _ _ _ _ _ _ _
    obtain rfl : t = 64 := by omega
    exact ⟨a, b, c, d, e, f, g, h, hr, rfl⟩
  | succ n ih =>
    intro t ht w0 w1 w2 w3 w4 w5 w6 w7 w8 w9 w10 w11 w12 w13 w14 w15 a b c d e f g h hr h0 h1 h2 h3 h4 h5 h6 h7 h8 h9 h10 h11 h12 h13 h14 h15
    have hlen : t < ks.length := by show t < 64; omega
    rw [List.drop_eq_getElem_cons hlen, stepsF_cons]
    have hk : ks[t] = ks.getD t 0 := by rw [List.getD_eq_getElem?_getD, List.getElem?_eq_getElem hlen]; rfl
    obtain ⟨x0, x1, x2, x3, x4, x5, x6, x7, hx, l0, _, _, _, l4, _, _, _⟩ := rounds_lt (sched blk) v hv hV t
    rw [hr] at hx
    injection hx with e0 hx; injection hx with e1 hx; injection hx with e2 hx; injection hx with e3 hx
    injection hx with e4 hx; injection hx with e5 hx; injection hx with e6 hx; injection hx with e7 hx
    subst e0 e1 e2 e3 e4 e5 e6 e7
    have hw0 : w0 = (sched blk).getD t 0 := h0 (by omega)
    refine ih (t + 1) (by omega) _ _ _ _ _ _ _ _ _ _ _ _ _ _ _ _ _ _ _ _ _ _ _ _ ?_ ?_ ?_ ?_ ?_ ?_ ?_ ?_ ?_ ?_ ?_ ?_ ?_ ?_ ?_ ?_ ?_
    · have hs : rounds (sched blk) v (t + 1) = round (sched blk) (rounds (sched blk) v t) t := rfl
      rw [hs, hr, round_at, sig0_is _ l0, sig1_is _ l4, hk, hw0, add_a, add_e]
    · intro hh; exact h1 (by omega)
    · intro hh; exact h2 (by omega)
    · intro hh; exact h3 (by omega)
    · intro hh; exact h4 (by omega)
    · intro hh; exact h5 (by omega)
    · intro hh; exact h6 (by omega)
    · intro hh; exact h7 (by omega)
    · intro hh; exact h8 (by omega)
    · intro hh; exact h9 (by omega)
    · intro hh; exact h10 (by omega)
    · intro hh; exact h11 (by omega)
    · intro hh; exact h12 (by omega)
    · intro hh; exact h13 (by omega)
    · intro hh; exact h14 (by omega)
    · intro hh; exact h15 (by omega)
    · intro hh
      have g1 := h1 (by omega)
      have g14 := h14 (by omega)
      have g9 := h9 (by omega)
      have b1 : w1 < 4294967296 := by rw [g1]; exact schB_lt blk hb 48 _
      have b14 : w14 < 4294967296 := by rw [g14]; exact schB_lt blk hb 48 _
      rw [show t + 1 + 15 = t + 16 by omega, sched_step blk t (by omega), lowF_is _ b1, highF_is _ b14, ← g1, ← g14, ← g9, ← (h0 (by omega)), add_w]
end Go.Proofs.YtphfjhpgcdmonaaGreatDoor.Sha
