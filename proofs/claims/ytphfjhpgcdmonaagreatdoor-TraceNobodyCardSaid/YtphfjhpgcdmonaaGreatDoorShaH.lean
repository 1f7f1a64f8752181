/- The digest of a text; a digest of nobody. Conditions: fewer than 2^59 bytes. -/
import Derived.Test.YtphfjhpgcdmonaaGreatDoorShaG
namespace Go.Proofs.YtphfjhpgcdmonaaGreatDoor.Sha
open Go.RowKit
open Blk (nats)
set_option maxHeartbeats 4000000 in
theorem sum_any (s : List UInt8) (w : World) (hs : s.length < 576460752303423488) :
    Calls Tryz.prog 190 #[.string ⟨s.toArray⟩] w fun e w' => e = .returned (Byt.text (sum (nat s))) ∧ Below w.heap.size w w' := by
  go_enter Tryz.func190, Tryz.ntmps190
  go_wp2_with fail
  refine (new_any w).mono ?_
  rintro e w1 ⟨b, rfl, hb, u1, k1⟩
  go_wp2_with fail
  refine (add_any [] s b w1 (by simp; omega) u1).mono ?_
  rintro e w2 ⟨rfl, u2, o2⟩
  have k2 := k1.trans (o2.below hb k1.size)
  rw [List.nil_append] at u2
  go_wp2_with fail
  refine (told_any s b w2 hs u2).mono ?_
  rintro e w3 ⟨rfl, k3⟩
  go_wp2
  exact bodyPost_ret (results_tmp rfl _ _ _) rfl ⟨rfl, k2.trans (k3.mono k2.size)⟩
theorem add_nil (s : ByteArray) (w : World) :
    Calls Tryz.prog 227 #[.pointer none, .string s] w fun e w' => e = .returned (.tuple #[]) ∧ w = w' := by
  go_enter Tryz.func227, Tryz.ntmps227
  go_wp2
  exact ⟨rfl, _, results_none rfl _ _ _, rfl, rfl⟩
theorem add_off (s : ByteArray) (b : Nat) (w : World) (h0 : w.cell? ⟨b, 0, none⟩ = some (.bool false)) :
    Calls Tryz.prog 227 #[.pointer (some ⟨b, 0, none⟩), .string s] w fun e w' => e = .returned (.tuple #[]) ∧ w = w' := by
  go_enter Tryz.func227, Tryz.ntmps227
  go_wp2
  exact ⟨rfl, _, results_none rfl _ _ _, rfl, rfl⟩
theorem told_nil (w : World) :
    Calls Tryz.prog 228 #[.pointer none] w fun e w' => e = .returned (.string ⟨#[]⟩) ∧ w = w' := by
  go_enter Tryz.func228, Tryz.ntmps228
  go_wp2
  exact bodyPost_ret (results_tmp rfl _ _ _) rfl ⟨rfl, rfl⟩
theorem told_off (b : Nat) (w : World) (h0 : w.cell? ⟨b, 0, none⟩ = some (.bool false)) :
    Calls Tryz.prog 228 #[.pointer (some ⟨b, 0, none⟩)] w fun e w' => e = .returned (.string ⟨#[]⟩) ∧ w = w' := by
  go_enter Tryz.func228, Tryz.ntmps228
  go_wp2
  exact bodyPost_ret (results_tmp rfl _ _ _) rfl ⟨rfl, rfl⟩
end Go.Proofs.YtphfjhpgcdmonaaGreatDoor.Sha
