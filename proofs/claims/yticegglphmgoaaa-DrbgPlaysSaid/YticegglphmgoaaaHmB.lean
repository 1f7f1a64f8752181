/- The program's tag of bytes under a key, walked. Conditions: fewer than 2^40 bytes. -/
import Derived.Test.YticegglphmgoaaaHmA
namespace Go.Proofs.Yticegglphmgoaaa.Sha
open Go.RowKit
open Blk (nats)
attribute [local irreducible] sum dig pk tk turn turned keyed
set_option maxHeartbeats 4000000 in
set_option maxRecDepth 100000 in
theorem hsum_any (key s : List UInt8) (w : World) (hk : key.length < 1099511627776) (hs : s.length < 1099511627776) :
    Calls Try.prog 27 #[.string ⟨key.toArray⟩, .string ⟨s.toArray⟩] w fun e w' => e = .returned (.string ⟨(hmac key s).toArray⟩) ∧ Below w.heap.size w w' := by
  by_cases h : key.length ≤ 64
  · have hm : hmac key s = dig (turned key 92 ++ dig (turned key 54 ++ s)) := by unfold hmac; rw [keyed_short key h]
    have HM := Lib.hid hm
    clear hm
    go_enter Try.func27, Try.ntmps27
    go_wp2_with fail
    obtain ⟨c, hcc⟩ : ∃ c, c = w.heap.size := ⟨_, rfl⟩
    have k1 : Below w.heap.size w (w.alloc (.cells #[.string ⟨key.toArray⟩] 9)) := (Below.refl _ _).alloc (Nat.le_refl _) _
    have hc : (w.alloc (.cells #[.string ⟨key.toArray⟩] 9)).cell? ⟨c, 0, none⟩ = some (.string ⟨key.toArray⟩) := by
      rw [hcc]
      exact (Blk.new w [.string ⟨key.toArray⟩] 9).cell 0
    rw [← hcc]
    generalize w.alloc (.cells #[.string ⟨key.toArray⟩] 9) = W1 at k1 hc ⊢
    clear hcc
    refine (close_any key 92 c W1 (h) (by decide) hc).mono ?_
    rintro e w2 ⟨rfl, k2⟩
    have hc := (k2.cell (World.block_lt_of_cell? _ _ hc)).trans hc
    have k2 := k1.trans (k2.mono k1.size)
    clear k1
    go_wp2_with fail
    refine (close_any key 54 c w2 (h) (by decide) hc).mono ?_
    rintro e w3 ⟨rfl, k3⟩
    have k3 := k2.trans (k3.mono k2.size)
    have hcat := cat_bytes (turned key 54) s
    have HCAT := Lib.hid hcat
    have hl := turned_length key 54 (h)
    have hl2 := turned_length key 92 (h)
    have HL := Lib.hid hl
    have HL2 := Lib.hid hl2
    have hb1 : (turned key 54).length ≤ 64 := by omega
    have hb2 : (turned key 92).length ≤ 64 := by omega
    have hb3 : (dig (turned key 54 ++ s)).length ≤ 32 := by rw [dig_length]; decide
    clear k2 hc hcat hl hl2
    go_wp2_with fail
    rw [HCAT.out]
    refine (sum_any (turned key 54 ++ s) w3 (by rw [List.length_append, HL.out]; omega)).mono ?_
    rintro e w4 ⟨rfl, k4⟩
    have k4 := k3.trans (k4.mono k3.size)
    rw [dig_text]
    have hcat2 := cat_bytes (turned key 92) (dig (turned key 54 ++ s))
    have HCAT2 := Lib.hid hcat2
    clear k3 hcat2
    go_wp2_with fail
    rw [HCAT2.out]
    refine (sum_any (turned key 92 ++ dig (turned key 54 ++ s)) w4 (by rw [List.length_append, HL2.out, dig_length]; omega)).mono ?_
    rintro e w5 ⟨rfl, k5⟩
    have k5 := k4.trans (k5.mono k4.size)
    rw [dig_text]
    clear k4
    go_wp2
    exact bodyPost_ret (results_tmp rfl _ _ _) rfl ⟨HM.out ▸ rfl, k5⟩
  · have hm : hmac key s = dig (turned (dig key) 92 ++ dig (turned (dig key) 54 ++ s)) := by unfold hmac; rw [keyed_long key h]
    have HM := Lib.hid hm
    clear hm
    have h' : ¬ (key.length : Int) ≤ 64 := by omega
    go_enter Try.func27, Try.ntmps27
    go_wp2_with fail
    obtain ⟨c, hcc⟩ : ∃ c, c = w.heap.size := ⟨_, rfl⟩
    have k0 : Below w.heap.size w (w.alloc (.cells #[.string ⟨key.toArray⟩] 9)) := (Below.refl _ _).alloc (Nat.le_refl _) _
    have i0 : Blk.Is (w.alloc (.cells #[.string ⟨key.toArray⟩] 9)) c [.string ⟨key.toArray⟩] 9 := by
      rw [hcc]
      exact Blk.new w [.string ⟨key.toArray⟩] 9
    rw [← hcc]
    generalize w.alloc (.cells #[.string ⟨key.toArray⟩] 9) = W0 at k0 i0 ⊢
    have hwc : w.heap.size ≤ c := by rw [hcc]; exact Nat.le_refl _
    clear hcc
    refine (sum_any key W0 (by omega)).mono ?_
    rintro e w1 ⟨rfl, k1⟩
    rw [dig_text]
    have i1 := i0.below k1
    have k1 := k0.trans (k1.mono k0.size)
    have f1 := i1.frozen 0
    have c1 : w1.cell? ⟨c, 0, none⟩ = some (.string ⟨key.toArray⟩) := i1.cell 0
    have i2 := i1.set 0 (.string ⟨(dig key).toArray⟩)
    have k2 : Below w.heap.size w (w1.setCell ⟨c, 0, none⟩ (.string ⟨(dig key).toArray⟩)) := k1.setCell hwc _
    have hc : (w1.setCell ⟨c, 0, none⟩ (.string ⟨(dig key).toArray⟩)).cell? ⟨c, 0, none⟩ = some (.string ⟨(dig key).toArray⟩) := i2.cell 0
    have HC := Lib.hid hc
    have hdl : (dig key).length ≤ 64 := by rw [dig_length]; decide
    clear i0 k0 i1 k1 i2 hc
    go_wp2_with fail
    have hc := HC.out
    have k1 := k2
    clear c1 f1 HC k2
    generalize w1.setCell ⟨c, 0, none⟩ (.string ⟨(dig key).toArray⟩) = W1 at k1 hc ⊢
    refine (close_any (dig key) 92 c W1 (hdl) (by decide) hc).mono ?_
    rintro e w2 ⟨rfl, k2⟩
    have hc := (k2.cell (World.block_lt_of_cell? _ _ hc)).trans hc
    have k2 := k1.trans (k2.mono k1.size)
    clear k1
    go_wp2_with fail
    refine (close_any (dig key) 54 c w2 (hdl) (by decide) hc).mono ?_
    rintro e w3 ⟨rfl, k3⟩
    have k3 := k2.trans (k3.mono k2.size)
    have hcat := cat_bytes (turned (dig key) 54) s
    have HCAT := Lib.hid hcat
    have hl := turned_length (dig key) 54 (hdl)
    have hl2 := turned_length (dig key) 92 (hdl)
    have HL := Lib.hid hl
    have HL2 := Lib.hid hl2
    have hb1 : (turned (dig key) 54).length ≤ 64 := by omega
    have hb2 : (turned (dig key) 92).length ≤ 64 := by omega
    have hb3 : (dig (turned (dig key) 54 ++ s)).length ≤ 32 := by rw [dig_length]; decide
    clear k2 hc hcat hl hl2
    go_wp2_with fail
    rw [HCAT.out]
    refine (sum_any (turned (dig key) 54 ++ s) w3 (by rw [List.length_append, HL.out]; omega)).mono ?_
    rintro e w4 ⟨rfl, k4⟩
    have k4 := k3.trans (k4.mono k3.size)
    rw [dig_text]
    have hcat2 := cat_bytes (turned (dig key) 92) (dig (turned (dig key) 54 ++ s))
    have HCAT2 := Lib.hid hcat2
    clear k3 hcat2
    go_wp2_with fail
    rw [HCAT2.out]
    refine (sum_any (turned (dig key) 92 ++ dig (turned (dig key) 54 ++ s)) w4 (by rw [List.length_append, HL2.out, dig_length]; omega)).mono ?_
    rintro e w5 ⟨rfl, k5⟩
    have k5 := k4.trans (k5.mono k4.size)
    rw [dig_text]
    clear k4
    go_wp2
    exact bodyPost_ret (results_tmp rfl _ _ _) rfl ⟨HM.out ▸ rfl, k5⟩
end Go.Proofs.Yticegglphmgoaaa.Sha
