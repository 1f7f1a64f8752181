/- Audits: whether shares are enough, walked. Conditions: those that are named. -/
import Derived.Test.YthkibccfdpbojaaAuO
namespace Go.Proofs.Ythkibccfdpbojaa.Au
open Go Go.RowKit
set_option maxHeartbeats 4000000 in
set_option maxRecDepth 100000 in
theorem index_none (f : Value) (w : World) : Calls Try.prog 48 #[nilS, f] w fun e w' => e = .returned (.int .i64 (-1)) ∧ w = w' := by
  go_enter Try.func48, Try.ntmps48
  go_wp2_with fail
  go_loopw [5, 8] (fun _ vi wr => vi = .int .i64 0 ∧ wr = w) (fun _ _ _ => 0)
  case atStart => exact ⟨rfl, rfl⟩
  case round =>
    obtain ⟨rfl, rfl⟩ := hrel
    go_wp2
    exact bodyPost_ret (results_tmp rfl _ _ _) rfl ⟨rfl, rfl⟩
set_option maxHeartbeats 4000000 in
set_option maxRecDepth 100000 in
theorem contains_none (f : Value) (w : World) : Calls Try.prog 25 #[nilS, f] w fun e w' => e = .returned (.bool false) ∧ w = w' := by
  go_enter Try.func25, Try.ntmps25
  go_wp2_with fail
  refine (index_none f _).mono ?_
  rintro e w1 ⟨rfl, rfl⟩
  go_wp2
  exact bodyPost_ret (results_tmp rfl _ _ _) rfl ⟨rfl, rfl⟩
set_option maxHeartbeats 4000000 in
set_option maxRecDepth 100000 in
theorem index_yes (h cap : Nat) (x : Value) (G : FuncId) (caps : Array Value) (w : World) (eg : ∀ args w, (callFunc G args).run Try.prog w = .ok (.enter G args) w) (hx : w.cell? ⟨h, 0, none⟩ = some x)
    (hc : Calls Try.prog G (#[x] ++ caps) w fun e w' => e = .returned (.bool true) ∧ Below w.heap.size w w') :
    Calls Try.prog 48 #[.slice (some ⟨h, 0, none⟩) 1 cap, .func (.func G) #[] caps] w fun e w' => e = .returned (.int .i64 0) ∧ Below w.heap.size w w' := by
  have HC := Lib.hid hc
  clear hc
  go_enter Try.func48, Try.ntmps48
  go_wp2_with fail
  go_loopw [5, 8] (fun _ vi wr => vi = .int .i64 0 ∧ wr = w) (fun _ _ _ => 0)
  case atStart => exact ⟨rfl, rfl⟩
  case round =>
    obtain ⟨rfl, rfl⟩ := hrel
    go_wp2_with fail
    refine HC.out.mono ?_
    rintro e w1 ⟨rfl, k1⟩
    go_wp2
    exact bodyPost_ret (results_tmp rfl _ _ _) rfl ⟨rfl, k1⟩
set_option maxHeartbeats 4000000 in
set_option maxRecDepth 100000 in
theorem contains_yes (h cap : Nat) (x : Value) (G : FuncId) (caps : Array Value) (w : World) (eg : ∀ args w, (callFunc G args).run Try.prog w = .ok (.enter G args) w) (hx : w.cell? ⟨h, 0, none⟩ = some x)
    (hc : Calls Try.prog G (#[x] ++ caps) w fun e w' => e = .returned (.bool true) ∧ Below w.heap.size w w') :
    Calls Try.prog 25 #[.slice (some ⟨h, 0, none⟩) 1 cap, .func (.func G) #[] caps] w fun e w' => e = .returned (.bool true) ∧ Below w.heap.size w w' := by
  have HC := Lib.hid (index_yes h cap x G caps w eg hx hc)
  clear hc hx
  go_enter Try.func25, Try.ntmps25
  go_wp2_with fail
  refine HC.out.mono ?_
  rintro e w1 ⟨rfl, k1⟩
  go_wp2
  exact bodyPost_ret (results_tmp rfl _ _ _) rfl ⟨rfl, k1⟩
theorem enter26 (args : Array Value) (w : World) : (callFunc 26 args).run Try.prog w = .ok (.enter 26 args) w := by kernel_rfl
set_option maxHeartbeats 4000000 in
set_option maxRecDepth 100000 in
theorem shares_nil (t : Int) (w : World) : Calls Try.prog 10 #[nilS, .int .i64 t] w fun e w' => e = .returned (.bool true) ∧ Below w.heap.size w w' := by
  have k0 : Below w.heap.size w ((w.alloc (.cells #[nilS] 67)).alloc (.cells #[.int .i64 t] 3)) := ((Below.refl _ _).alloc (Nat.le_refl _) _).alloc (by simp) _
  have l0 : ((w.alloc (.cells #[nilS] 67)).alloc (.cells #[.int .i64 t] 3)).cell? ⟨w.heap.size, 0, none⟩ = some nilS := ((Blk.new w [nilS] 67).alloc _).cell 0
  go_enter Try.func10, Try.ntmps10
  go_wp2_with fail
  refine (keys_nil _).mono ?_
  rintro e w1 ⟨rfl, k1⟩
  have K1 : Below w.heap.size w w1 := k0.trans (k1.mono k0.size)
  clear k0 k1 l0
  go_wp2_with fail
  refine (contains_none _ _).mono ?_
  rintro e w2 ⟨rfl, rfl⟩
  go_wp2
  exact bodyPost_ret (results_tmp rfl _ _ _) rfl ⟨rfl, K1⟩
set_option maxHeartbeats 4000000 in
set_option maxRecDepth 100000 in
theorem shares_two (g u1 r1 u2 r2 : Nat) (n1 n2 : Int) (d : List UInt8) (w : World) (hg : Blk.Is w g (ims n1 u1 r1 ++ ims n2 u2 r2) 51) (h1 : Blk.Is w r1 (rcs [107] 1 1 d) 66) (h2 : Blk.Is w r2 (rcs [107] 1 1 d) 66) :
    Calls Try.prog 10 #[.slice (some ⟨g, 0, none⟩) 2 2, .int .i64 1] w fun e w' => e = .returned (.bool false) ∧ Below w.heap.size w w' := by
  obtain ⟨V, hV⟩ : ∃ V, V = (w.alloc (.cells #[.slice (some ⟨g, 0, none⟩) 2 2] 67)).alloc (.cells #[.int .i64 1] 3) := ⟨_, rfl⟩
  have k0 : Below w.heap.size w V := by
    rw [hV]
    exact ((Below.refl _ _).alloc (Nat.le_refl _) _).alloc (by simp) _
  have hl : Blk.Is V w.heap.size [.slice (some ⟨g, 0, none⟩) 2 2] 67 := by
    rw [hV]
    exact (Blk.new w [.slice (some ⟨g, 0, none⟩) 2 2] 67).alloc _
  have ht : Blk.Is V (w.heap.size + 1) [.int .i64 1] 3 := by
    rw [hV]
    exact Blk.new' (w.alloc (.cells #[.slice (some ⟨g, 0, none⟩) 2 2] 67)) [.int .i64 1] 3 (w.heap.size + 1) (by simp)
  have HG := Lib.hid (hg.below k0)
  have H1 := Lib.hid (h1.below k0)
  have H2 := Lib.hid (h2.below k0)
  have HL := Lib.hid hl
  have HT := Lib.hid ht
  have HV := Lib.hid hV
  clear hV hl ht hg h1 h2
  go_enter Try.func10, Try.ntmps10
  go_upto_region 1 with (fail)
  rw [← HV.out]
  clear HV
  have l0 := HL.out.cell 0
  simp only [List.getElem?_cons_zero] at l0
  go_wp2_with fail
  refine (keys_two g u1 r1 u2 r2 n1 n2 d d _ HG.out H1.out H2.out).mono ?_
  rintro e w1 ⟨h, cap, rfl, hx, k1⟩
  have K1 : Below w.heap.size w w1 := k0.trans (k1.mono k0.size)
  have HC := Lib.hid (contains_yes h cap (txt [107]) 26 #[.pointer (some ⟨w.heap.size, 0, none⟩), .pointer (some ⟨w.heap.size + 1, 0, none⟩)] w1 enter26 hx (shares1_any g u1 r1 u2 r2 n1 n2 d w.heap.size (w.heap.size + 1) w1 (HG.out.below k1) (H1.out.below k1) (H2.out.below k1) (HL.out.below k1) (HT.out.below k1)))
  clear k0 k1 l0 hx HG H1 H2 HL HT
  go_wp2_with fail
  refine HC.out.mono ?_
  rintro e w2 ⟨rfl, k2⟩
  have K2 : Below w.heap.size w w2 := K1.trans (k2.mono K1.size)
  go_wp2
  exact bodyPost_ret (results_tmp rfl _ _ _) rfl ⟨rfl, K2⟩
end Go.Proofs.Ythkibccfdpbojaa.Au
