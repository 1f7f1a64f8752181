/- The law on hexadecimal digits, walked. No conditions but those that are named. -/
import Derived.Test.YticegglphmgoaaaSums
namespace Go.Proofs.Yticegglphmgoaaa.Sha
open Go.RowKit
open Blk (nats)
attribute [local irreducible] hex sum dig hexl
set_option maxHeartbeats 4000000 in
set_option maxRecDepth 100000 in
theorem shaHex_any (a : ByteArray) (w : World) : Calls Try.prog 6 #[.string a] w fun e w' => e = .returned (.bool true) ∧ Below w.heap.size w w' := by
  obtain ⟨s, rfl⟩ : ∃ s : List UInt8, a = ⟨s.toArray⟩ := ⟨a.data.toList, rfl⟩
  by_cases h : s.length ≤ 1024
  · go_enter Try.func6, Try.ntmps6
    have hd : decide ((1024 : Int) < (s.length : Int)) = false := decide_eq_false (by omega)
    go_wp2_with fail
    obtain ⟨b, hb⟩ : ∃ b, b = w.heap.size := ⟨_, rfl⟩
    obtain ⟨g, hg⟩ : ∃ g, g = w.heap.size + 1 := ⟨_, rfl⟩
    obtain ⟨W, hW⟩ : ∃ W, W = (w.alloc (.cells Try.zeroCells38 38)).alloc (.cells #[.pointer none, .pointer (some ⟨w.heap.size, 0, none⟩)] 27) := ⟨_, rfl⟩
    have kW : Below w.heap.size w W := by rw [hW]; exact ((Below.refl _ _).alloc (Nat.le_refl _) _).alloc (by simp) _
    have iB : Blk.Is W b Try.zeroCells38.toList 38 := by
      rw [hW, hb]
      exact (Blk.new w Try.zeroCells38.toList 38).alloc _
    have iG : Blk.Is W g [.pointer none, .pointer (some ⟨b, 0, none⟩)] 27 := by
      rw [hW, hg, hb]
      exact Blk.new' (w.alloc (.cells Try.zeroCells38 38)) [.pointer none, .pointer (some ⟨w.heap.size, 0, none⟩)] 27 _ (by simp)
    have c0 : W.cell? ⟨b, 0, none⟩ = some (.bool false) := iB.cell 0
    have g0 : W.cell? ⟨g, 0, none⟩ = some (.pointer none) := iG.cell 0
    have g1 : W.cell? ⟨g, 1, none⟩ = some (.pointer (some ⟨b, 0, none⟩)) := iG.cell 1
    rw [← hW, ← hg, ← hb]
    clear hb hg hW iB iG hd
    generalize decide ((1024 : Int) < (s.length : Int)) = d7
    go_loop [4] (fun i => ∃ k : Nat, k ≤ 2 ∧ i = .int .i64 k) (fun i => 2 - (intOf i).toNat)
    case atStart => exact ⟨0, by omega, rfl⟩
    case round =>
      obtain ⟨k, hk, rfl⟩ := hrel
      rcases (show k = 0 ∨ k = 1 ∨ k = 2 by omega) with rfl | rfl | rfl
      · go_wp2_with fail
        refine (add_nil ⟨s.toArray⟩ W).mono ?_
        rintro e w1 ⟨rfl, rfl⟩
        go_wp2_with fail
        refine (told_nil W).mono ?_
        rintro e w1 ⟨rfl, rfl⟩
        go_wp2
        go_round
        case rel => exact ⟨1, by omega, rfl⟩
        case measure => decide
      · go_wp2_with fail
        refine (add_off ⟨s.toArray⟩ b W c0).mono ?_
        rintro e w1 ⟨rfl, rfl⟩
        go_wp2_with fail
        refine (told_off b W c0).mono ?_
        rintro e w1 ⟨rfl, rfl⟩
        go_wp2
        go_round
        case rel => exact ⟨2, by omega, rfl⟩
        case measure => decide
      · go_wp2_with fail
        refine (hex_any s W (by omega)).mono ?_
        rintro e w1 ⟨rfl, k1⟩
        rw [hexl_text]
        have k1 := kW.trans (k1.mono kW.size)
        clear kW g0 g1 c0
        go_wp2_with fail
        refine (rhex_any s w1 (by omega)).mono ?_
        rintro e w2 ⟨rfl, k2⟩
        rw [hexl_text]
        have k2 := k1.trans (k2.mono k1.size)
        clear k1
        go_wp2_with fail
        refine (awake_any w2).mono ?_
        rintro e w3 ⟨rfl, k3⟩
        have k3 := k2.trans (k3.mono k2.size)
        clear k2
        go_wp2
        exact bodyPost_ret (results_tmp rfl _ _ _) rfl ⟨rfl, k3⟩
  · go_enter Try.func6, Try.ntmps6
    go_wp2_with fail
    refine (awake_any w).mono ?_
    rintro e w4 ⟨rfl, k4⟩
    go_wp2
    exact bodyPost_ret (results_tmp rfl _ _ _) rfl ⟨rfl, k4⟩
end Go.Proofs.Yticegglphmgoaaa.Sha
