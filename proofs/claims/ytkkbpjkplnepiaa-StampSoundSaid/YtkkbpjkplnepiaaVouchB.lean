/- stamp.Vouched returns what a plain function of the number of liars and the list of numbers says. Conditions: the slice's cells hold the numbers, and the list has at most 2^40 numbers. -/
import Derived.Test.YtkkbpjkplnepiaaVouchA
namespace Go.Proofs.Ytkkbpjkplnepiaa.Vou
open Go.RowKit

/-- The best number after some rounds. -/
def bestOf (t : Int) (l : List Int) : Nat → Int
  | 0 => -1
  | k + 1 => if bestOf t l k < l.getD k 0 ∧ t < cnt (fun n => decide (l.getD k 0 ≤ n)) l then l.getD k 0 else bestOf t l k
/-- The answer. -/
def vouched (t : Int) (l : List Int) : Int × Bool :=
  if t < 1 ∨ 2 < t ∨ (l.length : Int) ≠ 3 * t + 1 then (0, false)
  else if bestOf t l l.length < 0 ∨ cnt (fun n => decide (n ≤ bestOf t l l.length)) l ≤ 2 * t then (0, false) else (bestOf t l l.length, true)
theorem best_yes {t : Int} {l : List Int} {k : Nat} (h1 : bestOf t l k < l.getD k 0) (h2 : t < cnt (fun n => decide (l.getD k 0 ≤ n)) l) : bestOf t l (k + 1) = l.getD k 0 := by
  rw [bestOf, if_pos ⟨h1, h2⟩]
theorem best_no1 {t : Int} {l : List Int} {k : Nat} (h1 : ¬ bestOf t l k < l.getD k 0) : bestOf t l (k + 1) = bestOf t l k := by
  rw [bestOf, if_neg (fun h => h1 h.1)]
theorem best_no2 {t : Int} {l : List Int} {k : Nat} (h2 : ¬ t < cnt (fun n => decide (l.getD k 0 ≤ n)) l) : bestOf t l (k + 1) = bestOf t l k := by
  rw [bestOf, if_neg (fun h => h2 h.2)]

theorem ret_pair {a : Int} {b : Bool} {p : Int × Bool} (h : p = (a, b)) : Ending.returned (.tuple #[.int .i64 a, .bool b]) = .returned (.tuple #[.int .i64 p.1, .bool p.2]) := by rw [h]
theorem add_block (a : Addr) (n : Nat) : (a.add n).block = a.block := by unfold Addr.add; split <;> rfl

set_option maxHeartbeats 1000000 in
theorem vouched_no (t : Int) (a : Option Addr) (len cap : Nat) (w : World) (h : t < 1 ∨ 2 < t ∨ (len : Int) ≠ 3 * t + 1) :
    Calls Try.prog 14 #[.int .i64 t, .slice a len cap] w fun e w' => e = .returned (.tuple #[.int .i64 0, .bool false]) ∧ Below w.heap.size w w' := by
  by_cases h1 : t < 1
  · go_enter Try.func14, Try.ntmps14
    go_wp2
    go_ret2
    exact ⟨rfl, (Below.refl _ _).alloc (Nat.le_refl _) _⟩
  · by_cases h2 : 2 < t
    · go_enter Try.func14, Try.ntmps14
      go_wp2
      go_ret2
      exact ⟨rfl, (Below.refl _ _).alloc (Nat.le_refl _) _⟩
    · have h3 : ((len : Int) == 3 * t + 1) = false := beq_eq_false_iff_ne.2 (by omega)
      have h4 : ((len : Int) != 3 * t + 1) = true := by rw [bne, h3]; rfl
      have h5 : 1 ≤ t := by omega
      have h6 : t ≤ 2 := by omega
      clear h h1 h2
      go_enter Try.func14, Try.ntmps14
      go_wp2
      go_ret2
      exact ⟨rfl, (Below.refl _ _).alloc (Nat.le_refl _) _⟩

set_option maxHeartbeats 1000000 in
theorem vouched_yes (t : Int) (xs : List Int) (ad : Addr) (cap : Nat) (w : World) (hlen : (xs.length : Int) = 3 * t + 1) (h1 : 1 ≤ t) (h2 : t ≤ 2) (hb : ad.block < w.heap.size)
    (hc : ∀ j, j < xs.length → w.cell? (ad.add j) = some (.int .i64 (xs.getD j 0))) :
    Calls Try.prog 14 #[.int .i64 t, .slice (some ad) xs.length cap] w fun e w' => e = .returned (.tuple #[.int .i64 (vouched t xs).1, .bool (vouched t xs).2]) ∧ Below w.heap.size w w' := by
  have h3 : ((xs.length : Int) == 3 * t + 1) = true := beq_iff_eq.2 hlen
  have h4 : ((xs.length : Int) != 3 * t + 1) = false := by rw [bne, h3]; rfl
  have hle : xs.length ≤ 7 := by omega
  have HL := Lib.hid hlen
  have HC := Lib.hid hc
  clear hlen hc
  go_enter Try.func14, Try.ntmps14
  go_wp2
  go_loopw [27] (fun i wr => ∃ k : Nat, k ≤ xs.length ∧ i = .int .i64 k ∧ wr.cell? ⟨w.heap.size, 0, none⟩ = some (.slice (some ad) xs.length cap) ∧ wr.cell? ⟨w.heap.size + 1, 0, none⟩ = some (.int .i64 (bestOf t xs k)) ∧
      wr.frozen? ⟨w.heap.size + 1, 0, none⟩ = false ∧ w.heap.size + 2 ≤ wr.heap.size ∧ Below w.heap.size w wr)
    (fun i _ => xs.length - (intOf i).toNat)
  case atStart =>
    refine ⟨0, Nat.zero_le _, rfl, ?_, ?_, ?_, by simp, ((Below.refl _ _).alloc (Nat.le_refl _) _).alloc (by simp) _⟩
    · rw [World.cell?_alloc_past _ _ _ (by simp), World.cell?_alloc_at _ _ _ _ rfl]; rfl
    · rw [World.cell?_alloc_at _ _ _ _ (by simp)]; rfl
    · exact World.frozen?_alloc_at _ _ _ _ (by simp)
  case round =>
    obtain ⟨k, hk, rfl, hS, hB, hF, hsz, hnx⟩ := hrel
    have hcr : ∀ j, j < xs.length → wr.cell? (ad.add j) = some (.int .i64 (xs.getD j 0)) := fun j hj => (hnx.cell (by rw [add_block]; exact hb)).trans (HC.out j hj)
    have HR := Lib.hid hcr
    clear hcr
    by_cases hlt : k < xs.length
    · have hx := HR.out k hlt
      generalize hxe : xs.getD k 0 = x at hx
      have HE := Lib.hid hxe
      clear hxe
      generalize hbe : bestOf t xs k = b at hB
      have HBe := Lib.hid hbe
      clear hbe
      have hB2 : ∀ o, (wr.alloc o).cell? ⟨w.heap.size + 1, 0, none⟩ = some (.int .i64 b) := fun o => (World.cell?_alloc_past _ _ _ (by omega)).trans hB
      have hF2 : ∀ o, (wr.alloc o).frozen? ⟨w.heap.size + 1, 0, none⟩ = false := fun o => (World.frozen?_alloc_past _ _ _ (by show w.heap.size + 1 < wr.heap.size; omega)).trans hF
      have hS2 : ∀ o, (wr.alloc o).cell? ⟨w.heap.size, 0, none⟩ = some (.slice (some ad) xs.length cap) := fun o => (World.cell?_alloc_past _ _ _ (by omega)).trans hS
      have HR2 : Hid (∀ o, ∀ j, j < xs.length → (wr.alloc o).cell? (ad.add j) = some (.int .i64 (xs.getD j 0))) :=
        Lib.hid (fun o j hj => (World.cell?_alloc_lt _ _ _ (by rw [add_block]; omega)).trans (HR.out j hj))
      by_cases hg : b < x
      · have hgc : x < b ↔ False := by simp; omega
        clear hgc
        have hdd := cnt_bd (fun n => decide (x ≤ n)) xs
        go_wp2_with fail
        (with_reducible refine (count_ge xs ad cap x ⟨w.heap.size, 0, none⟩ ⟨wr.heap.size, 0, none⟩ _ (by omega) (hS2 _) ?_ (HR2.out _)).mono ?_)
        · rw [World.cell?_alloc_at _ _ _ _ rfl]; rfl
        rintro e w' ⟨rfl, rfl⟩
        have HK := Lib.hid (show (cnt (fun n => decide (x ≤ n)) xs) = (cnt (fun n => decide (x ≤ n)) xs) from rfl)
        clear HK
        by_cases hm : t < cnt (fun n => decide (x ≤ n)) xs
        · go_wp2
          go_roundw
          case rel =>
            have e : bestOf t xs (k + 1) = x := by have h1 := HE.out; have h2 := HBe.out; rw [best_yes (by rw [h1, h2]; exact hg) (by rw [h1]; exact hm)]; exact h1
            refine ⟨k + 1, by omega, by go_num, ?_, ?_, ?_, ?_, ?_⟩
            · rw [World.cell?_setCell_other _ _ _ _ (by simp)]; exact hS2 _
            · rw [World.cell?_setCell_same _ _ _ (hB2 _), e]
            · rw [World.frozen?_setCell]; exact hF2 _
            · rw [World.size_setCell]; simp; omega
            · exact (hnx.alloc (by omega) _).setCell (by simp) _
          case measure => simp [intOf]; omega
        · go_wp2
          go_roundw
          case rel =>
            have e : bestOf t xs (k + 1) = b := by have h1 := HE.out; have h2 := HBe.out; rw [best_no2 (by rw [h1]; omega)]; exact h2
            exact ⟨k + 1, by omega, by go_num, hS2 _, by rw [e]; exact hB2 _, hF2 _, by simp; omega, hnx.alloc (by omega) _⟩
          case measure => simp [intOf]; omega
      · go_wp2
        go_roundw
        case rel =>
          have e : bestOf t xs (k + 1) = b := by have h1 := HE.out; have h2 := HBe.out; rw [best_no1 (by rw [h1, h2]; omega)]; exact h2
          exact ⟨k + 1, by omega, by go_num, hS2 _, by rw [e]; exact hB2 _, hF2 _, by simp; omega, hnx.alloc (by omega) _⟩
        case measure => simp [intOf]; omega
    · have hk' : k = xs.length := by omega
      generalize hbe : bestOf t xs k = b at hB
      have HBe := Lib.hid hbe
      clear hbe
      by_cases hb0 : b < 0
      · go_wp2
        go_ret2
        have h1 := HBe.out
        have h2 := HL.out
        subst hk'
        exact ⟨ret_pair (by rw [vouched, if_neg (by omega), if_pos (Or.inl (by rw [h1]; exact hb0))]), hnx⟩
      · go_wp2_with fail
        (with_reducible refine (count_le xs ad cap b ⟨w.heap.size, 0, none⟩ ⟨w.heap.size + 1, 0, none⟩ _ (by omega) hS hB HR.out).mono ?_)
        rintro e w' ⟨rfl, rfl⟩
        by_cases hm : cnt (fun n => decide (n ≤ b)) xs ≤ 2 * t
        · go_wp2
          go_ret2
          have h1 := HBe.out
          have h2 := HL.out
          subst hk'
          exact ⟨ret_pair (by rw [vouched, if_neg (by omega), if_pos (Or.inr (by rw [h1]; exact hm))]), hnx⟩
        · go_wp2
          go_ret2
          have h1 := HBe.out
          have h2 := HL.out
          subst hk'
          exact ⟨ret_pair (by rw [vouched, if_neg (by omega), if_neg (by rw [h1]; omega), h1]), hnx⟩
end Go.Proofs.Ytkkbpjkplnepiaa.Vou
