/- The document's hexadecimal digits of bytes. Conditions: fewer than 2^40 bytes. -/
import Derived.Test.YticegglphmgoaaaRefF
namespace Go.Proofs.Yticegglphmgoaaa.Sha
open Go.RowKit
open Blk (nats)
theorem byte_at (s : List UInt8) (k : Nat) (h : k < s.length) : ∃ c : UInt8, s[k]? = some c ∧ (nat s).getD k 0 = c.toNat := by
  refine ⟨s[k], List.getElem?_eq_getElem h, ?_⟩
  simp [nat, List.getD_eq_getElem?_getD, List.getElem?_eq_getElem h]
attribute [local irreducible] hexDigit hexs hex
set_option maxHeartbeats 4000000 in
set_option maxRecDepth 100000 in
theorem rhex_any (s : List UInt8) (w : World) (hs : s.length < 1099511627776) :
    Calls Try.prog 25 #[.string ⟨s.toArray⟩] w fun e w' => e = .returned (Byt.text (hex (nat s))) ∧ Below w.heap.size w w' := by
  have HS := Lib.hid hs
  have hnl : (nat s).length = s.length := List.length_map _
  have HNL := Lib.hid hnl
  clear hnl
  go_enter Try.func25, Try.ntmps25
  go_wp2
  go_loopw [4, 5] (fun v i wr => ∃ k : Nat, k ≤ s.length ∧ i = .int .i64 k ∧ Byt.Row wr w.heap.size 5 v (hexs (nat s) k) ∧ Below w.heap.size w wr)
    (fun _ i _ => s.length - (intOf i).toNat)
  case atStart => exact ⟨0, by omega, rfl, by rw [hexs_zero]; exact Byt.Row.nil _ _ _, Below.refl _ _⟩
  case round =>
    obtain ⟨k, hk, rfl, row, k0⟩ := hrel
    by_cases hlt : k < s.length
    · obtain ⟨c, hc, hcn⟩ := byte_at s k hlt
      have HX := Lib.hid (hexs_succ (nat s) k (by rw [HNL.out]; exact hlt))
      have HXL := Lib.hid (hexs_length (nat s) k (by rw [HNL.out]; exact hk))
      rw [hcn] at HX
      obtain ⟨x, hx⟩ : ∃ x, x = c.toNat := ⟨_, rfl⟩
      have hx256 : x < 256 := by rw [hx]; exact c.toNat_lt
      rw [← hx] at HX
      have HC := Lib.hid hc
      have HXC := Lib.hid hx
      have ROW := Lib.hid row
      clear hc hcn hx row
      go_wp2
      obtain ⟨d1, hd1, hd1n⟩ := digits_at (x / 16) (by omega)
      obtain ⟨d2, hd2, hd2n⟩ := digits_at (x % 16) (by omega)
      have HD1 := Lib.hid hd1
      have HD2 := Lib.hid hd2
      have HD1N := Lib.hid hd1n
      have HD2N := Lib.hid hd2n
      clear hd1 hd2 hd1n hd2n
      refine Mad.region_made 14 13 _ rfl (by kernel_rfl) (by kernel_rfl) (by kernel_rfl) (by decide) (fun w1 v => ∃ h, v = .slice (some ⟨h, 0, none⟩) 2 2 ∧ w.heap.size ≤ h ∧ Blk.Is w1 h (nats .u8 [d1.toNat, d2.toNat]) 5) ?_
      simp only [List.take_succ_cons, List.take_zero, List.drop_succ_cons, List.drop_zero, List.eraseIdx_cons_succ, List.eraseIdx_cons_zero]
      iterate 4 (go_big_quiet_step (fail))
      go_big_quiet_want
      refine quiet_index 9 (.tmp 14) (.tmp 15) rfl s rfl .i64 k rfl (by kernel_rfl) c HC.out ?_
      rw [← HXC.out]
      simp only [Act.put, List.setIfInBounds_toArray, List.set_cons_zero, List.set_cons_succ]
      go_big_quiet_on
      iterate 1 (go_big_quiet_step (fail))
      go_big_quiet_want
      refine quiet_index 9 (.tmp 13) (.tmp 17) rfl digitsL rfl .u8 (x / 16) rfl (by kernel_rfl) d1 HD1.out ?_
      simp only [Act.put, List.setIfInBounds_toArray, List.set_cons_zero, List.set_cons_succ]
      go_big_quiet_on
      iterate 3 (go_big_quiet_step (fail))
      go_big_quiet_want
      refine quiet_index 9 (.tmp 20) (.tmp 21) rfl s rfl .i64 k rfl (by kernel_rfl) c HC.out ?_
      rw [← HXC.out]
      simp only [Act.put, List.setIfInBounds_toArray, List.set_cons_zero, List.set_cons_succ]
      go_big_quiet_on
      iterate 1 (go_big_quiet_step (fail))
      go_big_quiet_want
      refine quiet_index 9 (.tmp 19) (.tmp 23) rfl digitsL rfl .u8 (x % 16) rfl (by kernel_rfl) d2 HD2.out ?_
      simp only [Act.put, List.setIfInBounds_toArray, List.set_cons_zero, List.set_cons_succ]
      go_big_quiet_on
      refine wpQuiet_nil ⟨?_, ?_⟩
      · intro w3 hw3
        refine ⟨.slice (some ⟨w3.heap.size, 0, none⟩) 2 2, w3.alloc (.cells (nats .u8 [d1.toNat, d2.toNat]).toArray 5), ?_, (Below.refl _ _).alloc (Nat.le_refl _) _, w3.heap.size, rfl, Nat.le_trans k0.size hw3.size, Blk.new w3 (nats .u8 [d1.toNat, d2.toNat]) 5⟩
        go_simp
        rfl
      · rintro v w3 hw3 ⟨h, rfl, hh, bh⟩
        have row3 := Byt.Row.below (w := wr.drew) ROW.out.drew hw3
        have k3 := k0.drew.trans (hw3.mono k0.size)
        have hnew : ∀ j u, (nats .u8 [d1.toNat, d2.toNat])[j]? = some u → w3.cell? ((⟨h, 0, none⟩ : Addr).add j) = some u := by
          intro j u hj
          rw [zero_add, bh.cell]
          exact hj
        have HNEW := Lib.hid hnew
        clear hw3 k0 bh hnew
        simp only [Act.put, List.setIfInBounds_toArray, List.set_cons_zero, List.set_cons_succ]
        refine Byt.append_wp kit rfl (.tmp 12) (.tmp 25) rfl w.heap.size _ (hexs (nat s) k) rfl row3 ⟨h, 0, none⟩ 2 [d1.toNat, d2.toNat] rfl HNEW.out (by rw [HXL.out]; have := HS.out; show _ + 2 ≤ _; omega) k3.size ?_
        intro v4 w4 row4 hg4
        have k4 : Below w.heap.size w w4 := k3.grown hg4 k3.size (fun k hk => (row3.lt k hk).1)
        rw [HD1N.out, HD2N.out, ← HX.out] at row4
        clear k3 hg4
        have ROW4 := Lib.hid row4
        clear row4
        simp only [Act.put, List.setIfInBounds_toArray, List.set_cons_zero, List.set_cons_succ]
        go_wp2
        go_roundw
        case rel => exact ⟨k + 1, by omega, by go_num, ROW4.out, k4⟩
        case measure => simp [intOf]; omega
    · have hk' : k = s.length := by omega
      have hd : decide ((k : Int) < (s.length : Int)) = false := decide_eq_false (by omega)
      have row' : Byt.Row wr w.heap.size 5 u4 (hex (nat s)) := by
        rw [← hexs_all (nat s), HNL.out]
        rw [hk'] at row
        exact row
      have hlt' := Lib.hid (hex_lt (nat s) (nat_lt s))
      clear hk' row
      go_wp2_with (refine Byt.text_wp kit rfl (.tmp 27) rfl rfl row' hlt'.out ?_)
      exact bodyPost_ret (results_tmp rfl _ _ _) rfl ⟨rfl, k0⟩
end Go.Proofs.Yticegglphmgoaaa.Sha
