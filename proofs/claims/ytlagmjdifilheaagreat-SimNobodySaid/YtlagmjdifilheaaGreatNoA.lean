/- Without a group nothing is told: the law's walk. Condition: how the arguments lie. -/
import Derived.Test.YtlagmjdifilheaaGreatEjA
import Derived.Test.YtlagmjdifilheaaGreatPts
import Derived.WalkKit
import Derived.Below
import Derived.Tactics
import Derived.Tactics2
namespace Go.Proofs.YtlagmjdifilheaaGreat.No
open Go Go.RowKit
/-- No group, or one that nobody made. -/
def NoG (w : World) (g : Value) : Prop := g = .pointer none ∨ ∃ b, g = .pointer (some ⟨b, 0, none⟩) ∧ w.cell? ⟨b, 1, none⟩ = some (.pointer none)
theorem NoG.below {w w' : World} {g : Value} (h : NoG w g) (hb : Below w.heap.size w w') : NoG w' g := by
  rcases h with h | ⟨b, h1, h2⟩
  · exact .inl h
  · exact .inr ⟨b, h1, (hb.cell (World.block_lt_of_cell? _ _ h2)).trans h2⟩
theorem NoG.ptr {w : World} {g : Value} (h : NoG w g) : ∃ a, g = .pointer a := by
  rcases h with rfl | ⟨b, rfl, _⟩
  · exact ⟨none, rfl⟩
  · exact ⟨_, rfl⟩
set_option maxHeartbeats 1000000 in
theorem field_no {g : Value} (w : World) (hg : NoG w g) : Calls Tryz.prog 70 #[g] w fun e w' => e = .returned (.pointer none) ∧ Below w.heap.size w w' := by
  rcases hg with rfl | ⟨b, rfl, hc⟩
  · go_enter Tryz.func70, Tryz.ntmps70
    go_wp2
    exact bodyPost_ret (results_tmp rfl _ _ _) rfl ⟨rfl, Below.refl _ _⟩
  · go_enter Tryz.func70, Tryz.ntmps70
    go_wp2
    exact bodyPost_ret (results_tmp rfl _ _ _) rfl ⟨rfl, Below.refl _ _⟩
theorem nog_box {w : World} {a : Option Addr} (hg : NoG w (.pointer a)) (o : Obj) : NoG (w.alloc o) (.pointer a) := hg.below ((Below.refl _ w).alloc (Nat.le_refl _) _)
set_option maxRecDepth 100000 in
set_option maxHeartbeats 2000000 in
theorem liars_no {g : Value} (n : Int) (ao : Option Addr) (len cap : Nat) (w : World) (hg : NoG w g) : Calls Tryz.prog 29 #[g, .int .i64 1, .int .i64 n, .slice ao len cap] w fun e w' => e = .returned (.bool false) ∧ Below w.heap.size w w' := by
  obtain ⟨a, rfl⟩ := hg.ptr
  go_enter Tryz.func29, Tryz.ntmps29
  go_wp2_with (go_at_call 70; refine (field_no _ (nog_box hg _)).mono ?_; rintro e w' ⟨rfl, hb⟩)
  exact bodyPost_ret (results_tmp rfl _ _ _) rfl ⟨rfl, ((Below.refl _ w).alloc (Nat.le_refl _) _).trans (hb.mono (by simp))⟩
set_option maxRecDepth 100000 in
set_option maxHeartbeats 2000000 in
theorem matrix_no {g : Value} (ao : Option Addr) (len cap : Nat) (ao' : Option Addr) (len' cap' : Nat) (w : World) (hg : NoG w g) : Calls Tryz.prog 10 #[g, .int .i64 1, .slice ao len cap, .slice ao' len' cap'] w fun e w' =>
    e = .returned (.tuple #[.slice none 0 0, .int .i64 1]) ∧ Below w.heap.size w w' := by
  obtain ⟨a, rfl⟩ := hg.ptr
  go_enter Tryz.func10, Tryz.ntmps10
  go_wp2_with (go_at_call 29; refine (liars_no _ _ _ _ _ (nog_box hg _)).mono ?_; rintro e w' ⟨rfl, hb⟩)
  exact bodyPost_ret (results_tmp2 rfl _ _ _) rfl ⟨rfl, ((Below.refl _ w).alloc (Nat.le_refl _) _).trans (hb.mono (by simp))⟩
set_option maxRecDepth 100000 in
set_option maxHeartbeats 2000000 in
theorem draws_no {g : Value} (ao : Option Addr) (len cap : Nat) (ao' : Option Addr) (len' cap' : Nat) (w : World) (hg : NoG w g) : Calls Tryz.prog 12 #[g, .int .i64 1, .slice ao len cap, .slice ao' len' cap'] w fun e w' =>
    e = .returned (.tuple #[.slice none 0 0, .int .i64 1]) ∧ Below w.heap.size w w' := by
  obtain ⟨a, rfl⟩ := hg.ptr
  go_enter Tryz.func12, Tryz.ntmps12
  go_wp2_with (go_at_call 29; refine (liars_no _ _ _ _ _ (nog_box hg _)).mono ?_; rintro e w' ⟨rfl, hb⟩)
  exact bodyPost_ret (results_tmp2 rfl _ _ _) rfl ⟨rfl, ((Below.refl _ w).alloc (Nat.le_refl _) _).trans (hb.mono (by simp))⟩
set_option maxRecDepth 100000 in
set_option maxHeartbeats 2000000 in
theorem few_any (ao : Option Addr) (n cap : Nat) (w : World) (hn : n ≤ maxLen) (hc : ∀ i, i < n → ∃ x, ao = some x ∧ ∃ a2 len c, w.cell? ((x.add (i * 2)).add 1) = some (.slice a2 len c)) :
    Calls Tryz.prog 7 #[.slice ao n cap, .int .i64 4, .int .i64 4] w fun e w' => (∃ β, e = .returned (.bool β)) ∧ Below w.heap.size w w' := by
  go_enter Tryz.func7, Tryz.ntmps7
  go_wp2
  go_loopw [7] (fun i wr => ∃ k : Nat, k ≤ n ∧ k ≤ 4 ∧ i = .int .i64 k ∧ wr = w)
    (fun i _ => 4 - (intOf i).toNat)
  case atStart => exact ⟨0, by omega, by omega, rfl, rfl⟩
  case round =>
    obtain ⟨k, hk1, hk2, rfl, rfl⟩ := hrel
    by_cases h1 : k < n
    · by_cases h2 : k < 4
      · obtain ⟨x, rfl, a2, len, c, hcell⟩ := hc k h1
        have hcell' : wr.cell? ⟨(x.add (k * 2)).block, (x.add (k * 2)).off + 1, none⟩ = some (.slice a2 len c) := hcell
        go_wp2
        · exact bodyPost_ret (results_tmp rfl _ _ _) rfl ⟨⟨_, rfl⟩, Below.refl _ _⟩
        · go_roundw
          case rel => exact ⟨k + 1, by omega, by omega, by go_num, trivial⟩
          case measure => simp [intOf]; omega
      · obtain rfl : k = 4 := by omega
        go_wp2
        exact bodyPost_ret (results_tmp rfl _ _ _) rfl ⟨⟨_, rfl⟩, Below.refl _ _⟩
    · obtain rfl : k = n := by omega
      go_wp2
      exact bodyPost_ret (results_tmp rfl _ _ _) rfl ⟨⟨_, rfl⟩, Below.refl _ _⟩
end Go.Proofs.YtlagmjdifilheaaGreat.No
namespace Go.Proofs.YtlagmjdifilheaaGreat.No
open Go Go.RowKit Ef
set_option maxRecDepth 100000 in
set_option maxHeartbeats 4000000 in
theorem nobody_walk (ao : Option Addr) (m mc : Nat) {v : Value} {n : Nat} (w : World) (hp : Pts.Parts w v n) :
    Calls Tryz.prog 6 #[.slice ao m mc, v] w fun e w' => e = .returned (.bool true) ∧ Below w.heap.size w w' := by
  obtain ⟨ao', cap, rfl, hn, hc⟩ := hp.len
  go_enter Tryz.func6, Tryz.ntmps6
  by_cases hm : m ≤ 4
  · go_wp2_with (first | (go_at_call 7; refine (few_any _ _ _ _ hn hc).mono ?_; rintro e w1 ⟨⟨β, rfl⟩, hb1⟩) | (go_at_call 8; refine (awake_any _).mono ?_; rintro e w2 ⟨rfl, hb2⟩))
    · exact bodyPost_ret (results_tmp rfl _ _ _) rfl ⟨rfl, hb1.trans (hb2.mono hb1.size)⟩
    · have hh : (m : Int) ≤ 4 ∧ (!β) = false := by assumption
      obtain rfl : β = true := by simpa using hh.2
      clear hh
      simp only [Bool.not_true, Bool.or_false]
      obtain ⟨X, hX⟩ : ∃ X, X = (w1.alloc (.cells #[.pointer none, .pointer none, .int .u64 0, .int .u64 0, .int .u64 0, .int .u64 0] 82)).alloc (.cells #[.pointer none, .pointer (some ⟨w1.heap.size, 0, none⟩)] 26) := ⟨_, rfl⟩
      rw [← hX]
      have hXs : X.heap.size = w1.heap.size + 2 := by rw [hX]; simp
      have hXb : Below w.heap.size w X := by
        rw [hX]
        exact hb1.trans (((Below.refl w.heap.size w1).alloc hb1.size _).trans ((Below.refl w.heap.size _).alloc (by have := hb1.size; simp; omega) _))
      have e1 := World.alloc_heap_new w1 (.cells #[.pointer none, .pointer none, .int .u64 0, .int .u64 0, .int .u64 0, .int .u64 0] 82)
      have e2 := World.alloc_heap_new (w1.alloc (.cells #[.pointer none, .pointer none, .int .u64 0, .int .u64 0, .int .u64 0, .int .u64 0] 82)) (.cells #[.pointer none, .pointer (some ⟨w1.heap.size, 0, none⟩)] 26)
      rw [← hX] at e2
      simp only [World.size_alloc] at e2
      have g1 : X.cell? ⟨w1.heap.size, 1, none⟩ = some (.pointer none) := by
        have : X.heap[w1.heap.size]? = some (.cells #[.pointer none, .pointer none, .int .u64 0, .int .u64 0, .int .u64 0, .int .u64 0] 82) := by rw [hX, Below.heap_alloc _ _ _ (by simp)]; exact e1
        simp [World.cell?, this]
      have s0 : X.cell? ⟨w1.heap.size + 1, 0, none⟩ = some (.pointer none) := by simp [World.cell?, e2]
      have s1 : X.cell? ⟨w1.heap.size + 1, 1, none⟩ = some (.pointer (some ⟨w1.heap.size, 0, none⟩)) := by simp [World.cell?, e2]
      clear e1 e2 hX
      go_loopw [6] (fun i wr => Below X.heap.size X wr ∧ (i = .int .i64 0 ∨ i = .int .i64 1 ∨ i = .int .i64 2))
        (fun i _ => 2 - (intOf i).toNat)
      case atStart => exact ⟨Below.refl _ _, .inl rfl⟩
      case round =>
        obtain ⟨hB, hi⟩ := hrel
        have t0 : wr.cell? ⟨w1.heap.size + 1, 0, none⟩ = some (.pointer none) := (hB.cell (World.block_lt_of_cell? _ _ s0)).trans s0
        have t1 : wr.cell? ⟨w1.heap.size + 1, 1, none⟩ = some (.pointer (some ⟨w1.heap.size, 0, none⟩)) := (hB.cell (World.block_lt_of_cell? _ _ s1)).trans s1
        have n0 : NoG wr (.pointer none) := .inl rfl
        have n1 : NoG wr (.pointer (some ⟨w1.heap.size, 0, none⟩)) := .inr ⟨_, rfl, (hB.cell (World.block_lt_of_cell? _ _ g1)).trans g1⟩
        rcases hi with rfl | rfl | rfl
        · go_wp2_with (first | (go_at_call 10; refine (matrix_no _ _ _ _ _ _ _ n0).mono ?_; rintro e w3 ⟨rfl, hb3⟩; have t3 := (hb3.cell (World.block_lt_of_cell? _ _ t0)).trans t0) | (go_at_call 12; refine (draws_no _ _ _ _ _ _ _ (n0.below hb3)).mono ?_; rintro e w4 ⟨rfl, hb4⟩))
          go_roundw
          case rel => exact ⟨hB.trans ((hb3.mono hB.size).trans (hb4.mono (Nat.le_trans hB.size hb3.size))), .inr (.inl rfl)⟩
          case measure => decide
        · go_wp2_with (first | (go_at_call 10; refine (matrix_no _ _ _ _ _ _ _ n1).mono ?_; rintro e w3 ⟨rfl, hb3⟩; have t3 := (hb3.cell (World.block_lt_of_cell? _ _ t1)).trans t1) | (go_at_call 12; refine (draws_no _ _ _ _ _ _ _ (n1.below hb3)).mono ?_; rintro e w4 ⟨rfl, hb4⟩))
          go_roundw
          case rel => exact ⟨hB.trans ((hb3.mono hB.size).trans (hb4.mono (Nat.le_trans hB.size hb3.size))), .inr (.inr rfl)⟩
          case measure => decide
        · go_wp2_with (go_at_call 8; refine (awake_any _).mono ?_; rintro e w3 ⟨rfl, hb3⟩)
          exact bodyPost_ret (results_tmp rfl _ _ _) rfl ⟨rfl, hXb.trans ((hB.mono hXb.size).trans (hb3.mono (Nat.le_trans hXb.size hB.size)))⟩
  · have hm' : (4 : Int) < (m : Int) := by omega
    go_wp2_with (go_at_call 8; refine (awake_any _).mono ?_; rintro e w1 ⟨rfl, hb1⟩)
    exact bodyPost_ret (results_tmp rfl _ _ _) rfl ⟨rfl, hb1⟩
end Go.Proofs.YtlagmjdifilheaaGreat.No
