/- The steps of StampSound's first loop, on counts and lists alone. Conditions: the tests that tell which way a round goes. -/
import Derived.Test.YtkkbpjkplnepiaaSoundP
import Derived.Test.YtkkbpjkplnepiaaBlk
import Derived.Laws.BitsLemmas
namespace Go.Proofs.Ytkkbpjkplnepiaa.Vou
open Go.RowKit

/-- Is a server marked as one that lies? -/
def zb (L : List Int) (k : Nat) : Bool := bits .and .i64 (L.getD k 0) 7 == 0
/-- What a server holds, whether it tells nothing, and what it would lie. -/
def hvs (H : List Int) (k : Nat) : Int := bits .and .i64 (H.getD k 0) 1048575
def qs (H : List Int) (k : Nat) : Bool := bits .and .i64 (H.getD k 0 / 1048576) 3 == 0
def svs (L : List Int) (k : Nat) : Int := L.getD k 0 / 8
theorem i64_and20 (n : Int) : bits .and .i64 n 1048575 = n % 1048576 := by
  have h127 : (BitVec.ofInt 64 1048575).toNat = 2 ^ 20 - 1 := by decide
  have key : (BitVec.ofInt 64 n &&& BitVec.ofInt 64 1048575).toNat = (n % ((2 ^ 64 : Nat) : Int)).toNat % 2 ^ 20 := by
    rw [BitVec.toNat_and, BitVec.toNat_ofInt, h127, Nat.and_two_pow_sub_one_eq_mod]
  show IntKind.i64.wrap ((BitVec.ofInt 64 n &&& BitVec.ofInt 64 1048575).toNat : Nat) = n % 1048576
  rw [key, IntKind.wrap_i64]
  omega
theorem i64_and1 (n : Int) : bits .and .i64 n 1 = n % 2 := by
  have h127 : (BitVec.ofInt 64 1).toNat = 2 ^ 1 - 1 := by decide
  have key : (BitVec.ofInt 64 n &&& BitVec.ofInt 64 1).toNat = (n % ((2 ^ 64 : Nat) : Int)).toNat % 2 ^ 1 := by
    rw [BitVec.toNat_and, BitVec.toNat_ofInt, h127, Nat.and_two_pow_sub_one_eq_mod]
  show IntKind.i64.wrap ((BitVec.ofInt 64 n &&& BitVec.ofInt 64 1).toNat : Nat) = n % 2
  rw [key, IntKind.wrap_i64]
  omega
theorem and20_nonneg (n : Int) : 0 ≤ bits .and .i64 n 1048575 := by rw [i64_and20]; omega
theorem hvs_nonneg (H : List Int) (k : Nat) : 0 ≤ hvs H k := and20_nonneg _

theorem max_if (a b : Int) : max a b = if a < b then b else a := by split <;> omega
/-- One place of a list is written, the others are as they were. -/
def Upd (T T' : List Int) (k : Nat) (v : Int) : Prop := T'.length = T.length ∧ T'.getD k 0 = v ∧ ∀ j, j ≠ k → T'.getD j 0 = T.getD j 0
theorem set_getD (T : List Int) (k j : Nat) (v : Int) (hk : k < T.length) : (T.set k v).getD j 0 = if j = k then v else T.getD j 0 := by
  simp only [List.getD_eq_getElem?_getD, List.getElem?_set]
  by_cases h : k = j
  · subst h; simp [hk]
  · simp [h, show ¬ j = k from fun e => h e.symm]
theorem upd_set {T : List Int} {k : Nat} (v : Int) (hk : k < T.length) : Upd T (T.set k v) k v :=
  ⟨by simp, by rw [set_getD _ _ _ _ hk, if_pos rfl], fun j hj => by rw [set_getD _ _ _ _ hk, if_neg hj]⟩
theorem upd_again {T T' : List Int} {k : Nat} {u : Int} (h : Upd T T' k u) (v : Int) (hk : k < T.length) : Upd T (T'.set k v) k v :=
  ⟨by simp [h.1], by rw [set_getD _ _ _ _ (by rw [h.1]; exact hk), if_pos rfl], fun j hj => by rw [set_getD _ _ _ _ (by rw [h.1]; exact hk), if_neg hj]; exact h.2.2 j hj⟩
section
variable {hv s : Nat → Int} {q z : Nat → Bool} {f k : Nat}
theorem step_liar (h : z k = true) (h2 : lc z f k < f) : lc z f (k + 1) = lc z f k + 1 ∧ tells hv s q z f k = s k ∧ most hv s q z f (k + 1) = most hv s q z f k := by
  have hl : liar z f k = true := by simp [liar, h, h2]
  exact ⟨by rw [lc, if_pos ⟨h, h2⟩], by rw [tells, if_pos hl], by rw [most, if_pos hl]⟩
theorem not_liar (h : ¬ (z k = true ∧ lc z f k < f)) : liar z f k = false := by
  unfold liar
  cases hz : z k
  · rfl
  · simp only [Bool.true_and, decide_eq_false_iff_not]
    exact fun h2 => h ⟨hz, h2⟩
theorem step_still (h : ¬ (z k = true ∧ lc z f k < f)) (hq : q k = true) : lc z f (k + 1) = lc z f k ∧ tells hv s q z f k = -1 ∧ most hv s q z f (k + 1) = most hv s q z f k := by
  have hl := not_liar h
  have ht : tells hv s q z f k = -1 := by rw [tells, if_neg (by simp [hl]), if_pos hq]
  exact ⟨by rw [lc, if_neg h], ht, by rw [most, if_neg (by simp [hl]), ht, if_neg (by omega)]⟩
theorem step_hold (h : ¬ (z k = true ∧ lc z f k < f)) (hq : q k = false) (h0 : 0 ≤ hv k) : lc z f (k + 1) = lc z f k ∧ tells hv s q z f k = hv k ∧ most hv s q z f (k + 1) = max (most hv s q z f k) (hv k) := by
  have hl := not_liar h
  have ht : tells hv s q z f k = hv k := by rw [tells, if_neg (by simp [hl]), if_neg (by simp [hq])]
  exact ⟨by rw [lc, if_neg h], ht, by rw [most, if_neg (by simp [hl]), ht, if_pos h0]⟩
theorem told_on {T T' : List Int} {v : Int} (HT : ∀ j, j < k → T.getD j 0 = tells hv s q z f j) (hu : Upd T T' k v) (hv' : tells hv s q z f k = v) : ∀ j, j < k + 1 → T'.getD j 0 = tells hv s q z f j := by
  intro j hj
  by_cases h : j = k
  · subst h
    rw [hu.2.1, hv']
  · rw [hu.2.2 j h]
    exact HT j (by omega)
theorem told_all {T : List Int} {n : Nat} (hT : T.length = n) (HT : ∀ j, j < n → T.getD j 0 = tells hv s q z f j) : T = (List.range n).map (tells hv s q z f) := by
  apply List.ext_getElem
  · simp [hT]
  · intro i h1 h2
    have := HT i (by omega)
    rw [List.getD_eq_getElem?_getD, List.getElem?_eq_getElem h1] at this
    simpa using this
end
end Go.Proofs.Ytkkbpjkplnepiaa.Vou
