/- The program's turned key, walked. Conditions: a key of at most 64 bytes. -/
import Derived.Test.YticegglphmgoaaaHmP
namespace Go.Proofs.Yticegglphmgoaaa.Sha
open Go.RowKit
open Blk (nats)
attribute [local irreducible] sum dig pk tk turn turned
set_option maxHeartbeats 4000000 in
set_option maxRecDepth 100000 in
theorem close_any (key : List UInt8) (by_ : Nat) (c : Nat) (w : World) (hk : key.length ≤ 64) (hb : by_ < 256) (hc : w.cell? ⟨c, 0, none⟩ = some (.string ⟨key.toArray⟩)) :
    Calls Try.prog 54 #[.int .u8 by_, .pointer (some ⟨c, 0, none⟩)] w fun e w' => e = .returned (.string ⟨(turned key by_).toArray⟩) ∧ Below w.heap.size w w' := by
  go_enter Try.func54, Try.ntmps54
  go_wp2_with (first | (refine Byt.make_wp kit rfl (.const (.int .i64 64)) (.const (.int .i64 64)) rfl .i64 .i64 64 64 rfl rfl rfl (by decide) ?_) | fail)
  intro w1 i1 k1 z1
  have hc1 := (k1.cell (World.block_lt_of_cell? _ _ hc)).trans hc
  obtain ⟨g, hg⟩ : ∃ g, g = w.heap.size := ⟨_, rfl⟩
  have hgc : c < g := by rw [hg]; exact World.block_lt_of_cell? _ _ hc
  rw [← hg] at i1 ⊢
  have HG := Lib.hid hg
  have I1 := Lib.hid i1
  clear hg i1 hc z1
  go_wp2_with (first | (refine wpList_copy_text rfl (.tmp 7) (.tmp 8) 32 9 rfl 5 rfl (by kernel_rfl) g 0 64 64 ⟨key.toArray⟩ rfl rfl I1.out (by rw [Blk.nats_length, Byt.zeros_length]; decide) ?_) | fail)
  have i2 := Blk.Is.setCells ((key.map fun x => Value.int .u8 (x.toNat : Int)).take key.length) I1.out 0 (by rw [Blk.nats_length, Byt.zeros_length, List.length_take, Nat.zero_add]; exact Nat.le_trans (Nat.min_le_left _ _) hk)
  rw [pk_put key hk] at i2
  have k2 : Below w.heap.size w (w1.setCells g 0 ((key.map fun x => Value.int .u8 (x.toNat : Int)).take key.length)) := Blk.below_setCells _ k1 (by rw [HG.out]; exact Nat.le_refl _) 0
  generalize w1.setCells g 0 ((key.map fun x => Value.int .u8 (x.toNat : Int)).take key.length) = w2 at i2 k2 ⊢
  rw [← tk_zero key by_] at i2
  clear I1 hc1 k1
  go_loopw [5, 10] (fun _ i wr => ∃ k : Nat, k ≤ 64 ∧ i = .int .i64 k ∧ Blk.Is wr g (nats .u8 (tk key by_ k)) 5 ∧ Below w.heap.size w wr)
    (fun _ i _ => 64 - (intOf i).toNat)
  case atStart => exact ⟨0, by omega, rfl, i2, k2⟩
  case round =>
    clear i2 k2
    obtain ⟨k, hk64, rfl, i2, k2⟩ := hrel
    have hl := tk_length key by_ k hk
    by_cases hlt : k < 64
    · have f := i2.frozen k
      have h := i2.nat k (by rw [hl]; exact hlt)
      rw [tk_at key by_ k hk hlt] at h
      have HS := Lib.hid (tk_succ key by_ k hk hlt)
      have hx := pk_at_lt key k
      generalize (pk key).getD k 0 = x at h HS hx
      have HX := Lib.hid (xor8 x by_ hx hb)
      have I2 := Lib.hid i2
      clear i2 hl
      go_wp2
      rw [HX.out]
      go_roundw
      case rel =>
        refine ⟨k + 1, by omega, by go_num, ?_, k2.setCell (by rw [HG.out]; exact Nat.le_refl _) _⟩
        rw [← HS.out]
        exact I2.out.setNat k _
      case measure => simp [intOf]; omega
    · have hk' : k = 64 := by omega
      subst hk'
      rw [tk_all key by_ hk] at i2
      have r2 : wr.rangeAt g 0 (nats .u8 (turn key by_)) := i2.range 0 _ (fun j v hj => by rw [Nat.zero_add]; exact hj)
      have HT := Lib.hid (turn_lt key by_ hb)
      have HL := Lib.hid (turn_length key by_ hk)
      have R2 := Lib.hid r2
      clear i2 hl r2
      go_wp2_with (first | (refine Byt.text_at_wp kit rfl (.tmp 21) rfl g 0 64 64 rfl (turn key by_) R2.out HL.out.symm HT.out ?_) | fail)
      rw [turned_text]
      go_wp2
      exact bodyPost_ret (results_tmp rfl _ _ _) rfl ⟨rfl, k2⟩
end Go.Proofs.Yticegglphmgoaaa.Sha
