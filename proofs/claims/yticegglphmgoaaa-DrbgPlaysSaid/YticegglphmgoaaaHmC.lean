/- The document's tag of bytes under a key, walked. Conditions: fewer than 2^40 bytes. -/
import Derived.Test.YticegglphmgoaaaHmB
namespace Go.Proofs.Yticegglphmgoaaa.Sha
open Go.RowKit
open Blk (nats)
theorem pk_bytes (k : List UInt8) (n : Nat) : (pk k).getD n 0 = if h : n < k.length then k[n].toNat else 0 := by
  unfold pk
  rw [List.getD_eq_getElem?_getD]
  split
  · rename_i hn
    rw [List.getElem?_append_left (by simpa using hn)]
    simp [nat, List.getElem?_eq_getElem hn]
  · rename_i hn
    rw [List.getElem?_append_right (by simpa using Nat.le_of_not_lt hn)]
    cases hq : (List.replicate (64 - k.length) 0)[n - (nat k).length]? with
    | none => rfl
    | some x => rw [List.eq_of_mem_replicate (List.mem_of_getElem? hq)]; rfl
attribute [local irreducible] sum dig pk tk turn turned keyed
set_option maxHeartbeats 4000000 in
set_option maxRecDepth 100000 in
theorem rturned_any (key : List UInt8) (b : Nat) (w : World) (hk : key.length < 1099511627776) (hb : b < 256) :
    Calls Try.prog 55 #[.string ⟨key.toArray⟩, .int .u8 b] w fun e w' => e = .returned (.string ⟨(turned (keyed key) b).toArray⟩) ∧ Below w.heap.size w w' := by
  by_cases h : key.length ≤ 64
  · have HKD := Lib.hid (keyed_short key h)
    have hd : decide ((64 : Int) < (key.length : Int)) = false := decide_eq_false (by omega)
    have k0 : Below w.heap.size w w := Below.refl _ _
    go_enter Try.func55, Try.ntmps55
    go_wp2_with fail
    have HKL := Lib.hid h
    go_loopw [6, 7, 8] (fun v i c wr => ∃ k : Nat, k ≤ 64 ∧ i = .int .i64 k ∧ Byt.Row wr w.heap.size 5 v ((turn key b).take k) ∧ Below w.heap.size w wr)
      (fun _ i _ _ => 64 - (intOf i).toNat)
    case atStart => exact ⟨0, by omega, rfl, Byt.Row.nil _ _ _, k0⟩
    case round =>
      clear k0
      obtain ⟨k, hk64, rfl, row, k0⟩ := hrel
      by_cases hlt : k < 64
      · have hlt6 : (k : Int) < 64 := by omega
        have HT := Lib.hid (turn_take_succ key b k h hlt)
        have hx := pk_at_lt key k
        have hpk := pk_bytes key k
        have htl : ((turn key b).take k).length = k := by rw [List.length_take, turn_length key b h]; omega
        have HTL := Lib.hid htl
        clear htl
        by_cases hkl : k < key.length
        · rw [dif_pos hkl] at hpk
          have hkl2 : (k : Int) < (key.length : Int) := by omega
          generalize (pk key).getD k 0 = x at HT hx hpk
          have hX := xor8 x b hx hb
          generalize x ^^^ b = y at HT hX
          have HX := Lib.hid hX
          have HPK := Lib.hid hpk
          have ROW := Lib.hid row
          clear hX hpk row
          go_upto_region 11 with (fail)
          rw [show ((⟨key.toArray⟩ : ByteArray)[k]'hkl).toNat = x from HPK.out.symm]
          have hX := HX.out
          (try simp only [Act.put])
          go_wp2_with (first | (refine Byt.append_wp kit rfl (.tmp 26) (.tmp 30) rfl w.heap.size _ ((turn key b).take k) rfl (ROW.out.alloc _) ⟨wr.heap.size, 0, none⟩ 1 [y] rfl (new_bytes wr [y] 5) (by rw [HTL.out]; show _ + 1 ≤ _; omega) (by have := k0.size; simp; omega) ?_) | fail)
          intro v5 w5 row5 hg5
          have k5 : Below w.heap.size w w5 := (k0.alloc k0.size _).grown hg5 (by have := k0.size; simp; omega) (fun k hk => (ROW.out.lt k hk).1)
          rw [← HT.out] at row5
          clear hg5 hX ROW
          go_wp2
          go_roundw
          case rel => exact ⟨k + 1, by omega, by go_num, row5, k5⟩
          case measure => simp [intOf]; omega
        · rw [dif_neg hkl] at hpk
          have hkl2 : ¬ (k : Int) < (key.length : Int) := by omega
          have hdk : decide ((k : Int) < (key.length : Int)) = false := decide_eq_false hkl2
          generalize (pk key).getD k 0 = x at HT hx hpk
          have hX := xor8 x b hx hb
          generalize x ^^^ b = y at HT hX
          have HX := Lib.hid hX
          have HPK := Lib.hid hpk
          have ROW := Lib.hid row
          clear hX hpk row
          go_upto_region 11 with (fail)
          rw [show Value.int .u8 (0 : Int) = Value.int .u8 ((x : Nat) : Int) by rw [HPK.out]; rfl]
          have hX := HX.out
          (try simp only [Act.put])
          go_wp2_with (first | (refine Byt.append_wp kit rfl (.tmp 26) (.tmp 30) rfl w.heap.size _ ((turn key b).take k) rfl (ROW.out.alloc _) ⟨wr.heap.size, 0, none⟩ 1 [y] rfl (new_bytes wr [y] 5) (by rw [HTL.out]; show _ + 1 ≤ _; omega) (by have := k0.size; simp; omega) ?_) | fail)
          intro v5 w5 row5 hg5
          have k5 : Below w.heap.size w w5 := (k0.alloc k0.size _).grown hg5 (by have := k0.size; simp; omega) (fun k hk => (ROW.out.lt k hk).1)
          rw [← HT.out] at row5
          clear hg5 hX ROW
          go_wp2
          go_roundw
          case rel => exact ⟨k + 1, by omega, by go_num, row5, k5⟩
          case measure => simp [intOf]; omega
      · have hk' : k = 64 := by omega
        have hd6 : decide ((k : Int) < 64) = false := decide_eq_false (by omega)
        rw [hk', List.take_of_length_le (by rw [turn_length key b h]; decide)] at row
        have HLT := Lib.hid (turn_lt key b hb)
        clear hk'
        go_wp2_with (refine Byt.text_wp kit rfl (.tmp 32) rfl rfl row HLT.out ?_)
        rw [turned_text]
        go_wp2
        exact bodyPost_ret (results_tmp rfl _ _ _) rfl ⟨by rw [HKD.out]; rfl, k0⟩
  · have HKD := Lib.hid (keyed_long key h)
    have h64 : ¬ (key.length : Int) ≤ 64 := by omega
    go_enter Try.func55, Try.ntmps55
    go_wp2_with fail
    refine (rsum_any key w hk).mono ?_
    rintro e w0 ⟨rfl, k0⟩
    rw [dig_text]
    have hdl : (dig key).length ≤ 64 := by rw [dig_length]; decide
    go_wp2_with fail
    have HKL := Lib.hid hdl
    go_loopw [6, 7, 8] (fun v i c wr => ∃ k : Nat, k ≤ 64 ∧ i = .int .i64 k ∧ Byt.Row wr w.heap.size 5 v ((turn (dig key) b).take k) ∧ Below w.heap.size w wr)
      (fun _ i _ _ => 64 - (intOf i).toNat)
    case atStart => exact ⟨0, by omega, rfl, Byt.Row.nil _ _ _, k0⟩
    case round =>
      clear k0
      obtain ⟨k, hk64, rfl, row, k0⟩ := hrel
      by_cases hlt : k < 64
      · have hlt6 : (k : Int) < 64 := by omega
        have HT := Lib.hid (turn_take_succ (dig key) b k hdl hlt)
        have hx := pk_at_lt (dig key) k
        have hpk := pk_bytes (dig key) k
        have htl : ((turn (dig key) b).take k).length = k := by rw [List.length_take, turn_length (dig key) b hdl]; omega
        have HTL := Lib.hid htl
        clear htl
        by_cases hkl : k < (dig key).length
        · rw [dif_pos hkl] at hpk
          have hkl2 : (k : Int) < ((dig key).length : Int) := by omega
          generalize (pk (dig key)).getD k 0 = x at HT hx hpk
          have hX := xor8 x b hx hb
          generalize x ^^^ b = y at HT hX
          have HX := Lib.hid hX
          have HPK := Lib.hid hpk
          have ROW := Lib.hid row
          clear hX hpk row
          go_upto_region 11 with (fail)
          rw [show ((⟨(dig key).toArray⟩ : ByteArray)[k]'hkl).toNat = x from HPK.out.symm]
          have hX := HX.out
          (try simp only [Act.put])
          go_wp2_with (first | (refine Byt.append_wp kit rfl (.tmp 26) (.tmp 30) rfl w.heap.size _ ((turn (dig key) b).take k) rfl (ROW.out.alloc _) ⟨wr.heap.size, 0, none⟩ 1 [y] rfl (new_bytes wr [y] 5) (by rw [HTL.out]; show _ + 1 ≤ _; omega) (by have := k0.size; simp; omega) ?_) | fail)
          intro v5 w5 row5 hg5
          have k5 : Below w.heap.size w w5 := (k0.alloc k0.size _).grown hg5 (by have := k0.size; simp; omega) (fun k hk => (ROW.out.lt k hk).1)
          rw [← HT.out] at row5
          clear hg5 hX ROW
          go_wp2
          go_roundw
          case rel => exact ⟨k + 1, by omega, by go_num, row5, k5⟩
          case measure => simp [intOf]; omega
        · rw [dif_neg hkl] at hpk
          have hkl2 : ¬ (k : Int) < ((dig key).length : Int) := by omega
          have hdk : decide ((k : Int) < ((dig key).length : Int)) = false := decide_eq_false hkl2
          generalize (pk (dig key)).getD k 0 = x at HT hx hpk
          have hX := xor8 x b hx hb
          generalize x ^^^ b = y at HT hX
          have HX := Lib.hid hX
          have HPK := Lib.hid hpk
          have ROW := Lib.hid row
          clear hX hpk row
          go_upto_region 11 with (fail)
          rw [show Value.int .u8 (0 : Int) = Value.int .u8 ((x : Nat) : Int) by rw [HPK.out]; rfl]
          have hX := HX.out
          (try simp only [Act.put])
          go_wp2_with (first | (refine Byt.append_wp kit rfl (.tmp 26) (.tmp 30) rfl w.heap.size _ ((turn (dig key) b).take k) rfl (ROW.out.alloc _) ⟨wr.heap.size, 0, none⟩ 1 [y] rfl (new_bytes wr [y] 5) (by rw [HTL.out]; show _ + 1 ≤ _; omega) (by have := k0.size; simp; omega) ?_) | fail)
          intro v5 w5 row5 hg5
          have k5 : Below w.heap.size w w5 := (k0.alloc k0.size _).grown hg5 (by have := k0.size; simp; omega) (fun k hk => (ROW.out.lt k hk).1)
          rw [← HT.out] at row5
          clear hg5 hX ROW
          go_wp2
          go_roundw
          case rel => exact ⟨k + 1, by omega, by go_num, row5, k5⟩
          case measure => simp [intOf]; omega
      · have hk' : k = 64 := by omega
        have hd6 : decide ((k : Int) < 64) = false := decide_eq_false (by omega)
        rw [hk', List.take_of_length_le (by rw [turn_length (dig key) b hdl]; decide)] at row
        have HLT := Lib.hid (turn_lt (dig key) b hb)
        clear hk'
        go_wp2_with (refine Byt.text_wp kit rfl (.tmp 32) rfl rfl row HLT.out ?_)
        rw [turned_text]
        go_wp2
        exact bodyPost_ret (results_tmp rfl _ _ _) rfl ⟨by rw [HKD.out]; rfl, k0⟩
end Go.Proofs.Yticegglphmgoaaa.Sha
