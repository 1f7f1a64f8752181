/- Audits: whether a state keeps its bounds, walked. Conditions: those that are named. -/
import Derived.Test.YthkibccfdpbojaaAuQ
namespace Go.Proofs.Ythkibccfdpbojaa.Au
open Go Go.RowKit
set_option maxHeartbeats 4000000 in
set_option maxRecDepth 100000 in
theorem late_any (k d : List UInt8) (s c t : Int) (ct : Nat) (β : Bool) (w : World) (ht : Blk.Is w ct [.int .i64 t] 3) (hβ : β = decide (t < s)) :
    Calls Try.prog 34 #[.agg (rcs k s c d).toArray, .pointer (some ⟨ct, 0, none⟩)] w fun e w' => e = .returned (.bool β) ∧ Below w.heap.size w w' := by
  have kw : Below w.heap.size w (w.alloc (.cells (rcs k s c d).toArray 66)) := (Below.refl _ _).alloc (Nat.le_refl _) _
  have GB := Lib.hid (Blk.new w (rcs k s c d) 66)
  have HT := Lib.hid (ht.below kw)
  have KW := Lib.hid kw
  have HBE := Lib.hid hβ
  clear ht kw hβ
  go_enter Try.func34, Try.ntmps34
  go_upto_region 1 with (fail)
  obtain ⟨W, hW⟩ : ∃ W, W = w.alloc (.cells (rcs k s c d).toArray 66) := ⟨_, rfl⟩
  obtain ⟨p, hp⟩ : ∃ p, p = w.heap.size := ⟨_, rfl⟩
  rw [← hW] at GB HT KW ⊢
  rw [← hp] at GB ⊢
  clear hW hp
  have a1 := GB.out.cell 1
  have t0 := HT.out.cell 0
  simp only [List.getElem?_cons_zero, List.getElem?_cons_succ] at a1 t0
  clear GB HT
  go_wp2
  exact bodyPost_ret (results_tmp rfl _ _ _) rfl ⟨by rw [HBE.out]; rfl, KW.out⟩
theorem enter34 (args : Array Value) (w : World) : (callFunc 34 args).run Try.prog w = .ok (.enter 34 args) w := by kernel_rfl
set_option maxHeartbeats 4000000 in
set_option maxRecDepth 100000 in
theorem index_rec (r ct : Nat) (k d : List UInt8) (s c t : Int) (β : Bool) (w : World) (hr : Blk.Is w r (rcs k s c d) 66) (ht : Blk.Is w ct [.int .i64 t] 3) (hβ : β = decide (t < s)) :
    Calls Try.prog 53 #[.slice (some ⟨r, 0, none⟩) 1 1, .func (.func 34) #[] #[.pointer (some ⟨ct, 0, none⟩)]] w fun e w' => e = .returned (.int .i64 (if β = true then 0 else -1)) ∧ Below w.heap.size w w' := by
  have HC := Lib.hid (late_any k d s c t ct β w ht hβ)
  have c := fun i => hr.cell i
  have e0 := c 0; have e1 := c 1; have e2 := c 2; have e3 := c 3; have e4 := c 4; have e5 := c 5; have e6 := c 6; have e7 := c 7; have e8 := c 8; have e9 := c 9
  simp only [List.getElem?_cons_zero, List.getElem?_cons_succ] at e0 e1 e2 e3 e4 e5 e6 e7 e8 e9
  have k0 : Below w.heap.size w w := Below.refl _ _
  clear c hr ht hβ
  cases β
  · go_enter Try.func53, Try.ntmps53
    go_wp2_with fail
    go_loopw [5, 8] (fun _ vi wr => (vi = .int .i64 0 ∧ wr = w) ∨ (vi = .int .i64 1 ∧ Below w.heap.size w wr)) (fun _ vi _ => 1 - (intOf vi).toNat)
    case atStart => exact .inl ⟨rfl, rfl⟩
    case round =>
      rcases hrel with ⟨rfl, hw⟩ | ⟨rfl, k1⟩
      · subst hw
        go_wp2_with fail
        refine HC.out.mono ?_
        rintro e w1 ⟨rfl, k1⟩
        clear e0 e1 e2 e3 e4 e5 e6 e7 e8 e9 HC
        go_wp2_with fail
        go_roundw
        case rel => exact .inr ⟨by go_num, k1⟩
        case measure => simp [intOf]
      · clear e0 e1 e2 e3 e4 e5 e6 e7 e8 e9 HC
        go_wp2
        exact bodyPost_ret (results_tmp rfl _ _ _) rfl ⟨rfl, k1⟩
  · go_enter Try.func53, Try.ntmps53
    go_wp2_with fail
    go_loopw [5, 8] (fun _ vi wr => vi = .int .i64 0 ∧ wr = w) (fun _ _ _ => 0)
    case atStart => exact ⟨rfl, rfl⟩
    case round =>
      obtain ⟨rfl, rfl⟩ := hrel
      go_wp2_with fail
      refine HC.out.mono ?_
      rintro e w1 ⟨rfl, k1⟩
      clear e0 e1 e2 e3 e4 e5 e6 e7 e8 e9 HC
      go_wp2
      exact bodyPost_ret (results_tmp rfl _ _ _) rfl ⟨rfl, k1⟩
set_option maxHeartbeats 4000000 in
set_option maxRecDepth 100000 in
theorem contains_rec (r ct : Nat) (k d : List UInt8) (s c t : Int) (β : Bool) (w : World) (hr : Blk.Is w r (rcs k s c d) 66) (ht : Blk.Is w ct [.int .i64 t] 3) (hβ : β = decide (t < s)) :
    Calls Try.prog 33 #[.slice (some ⟨r, 0, none⟩) 1 1, .func (.func 34) #[] #[.pointer (some ⟨ct, 0, none⟩)]] w fun e w' => e = .returned (.bool β) ∧ Below w.heap.size w w' := by
  have HC := Lib.hid (index_rec r ct k d s c t β w hr ht hβ)
  clear hr ht hβ
  cases β
  · go_enter Try.func33, Try.ntmps33
    go_wp2_with fail
    refine HC.out.mono ?_
    rintro e w1 ⟨rfl, k1⟩
    go_wp2
    exact bodyPost_ret (results_tmp rfl _ _ _) rfl ⟨rfl, k1⟩
  · go_enter Try.func33, Try.ntmps33
    go_wp2_with fail
    refine HC.out.mono ?_
    rintro e w1 ⟨rfl, k1⟩
    go_wp2
    exact bodyPost_ret (results_tmp rfl _ _ _) rfl ⟨rfl, k1⟩
set_option maxHeartbeats 4000000 in
set_option maxRecDepth 100000 in
theorem bounds1_any (n : Int) (u r ct : Nat) (k d : List UInt8) (t : Int) (β : Bool) (w : World) (hu : Blk.Is w u [.int .i64 0, .int .i64 0, .int .i64 0, .int .i64 0, .int .i64 1] 3) (hr : Blk.Is w r (rcs k 1 1 d) 66) (ht : Blk.Is w ct [.int .i64 t] 3) (hβ : β = decide (t < 1)) :
    Calls Try.prog 30 #[.agg (ims n u r).toArray, .pointer (some ⟨ct, 0, none⟩)] w fun e w' => e = .returned (.bool β) ∧ Below w.heap.size w w' := by
  have kw : Below w.heap.size w (w.alloc (.cells (ims n u r).toArray 51)) := (Below.refl _ _).alloc (Nat.le_refl _) _
  have IB := Lib.hid (Blk.new w (ims n u r) 51)
  have HU := Lib.hid (hu.below kw)
  have HR := Lib.hid (hr.below kw)
  have HT := Lib.hid (ht.below kw)
  have KW := Lib.hid kw
  have HBE := Lib.hid hβ
  clear hu hr ht kw hβ
  go_enter Try.func30, Try.ntmps30
  go_upto_region 1 with (fail)
  obtain ⟨W, hW⟩ : ∃ W, W = w.alloc (.cells (ims n u r).toArray 51) := ⟨_, rfl⟩
  obtain ⟨p, hp⟩ : ∃ p, p = w.heap.size := ⟨_, rfl⟩
  rw [← hW] at IB HU HR HT KW ⊢
  rw [← hp] at IB ⊢
  clear hW hp
  have a := fun i => IB.out.cell i
  have a0 := a 0; have a2 := a 2
  simp only [List.getElem?_cons_zero, List.getElem?_cons_succ] at a0 a2
  clear a
  go_wp2_with fail
  refine (new_any _).mono ?_
  rintro e w1 ⟨b, m, rfl, sb, k1⟩
  have SB := Lib.hid sb
  have IB1 := Lib.hid (IB.out.below k1)
  have HU1 := Lib.hid (HU.out.below k1)
  have HR1 := Lib.hid (HR.out.below k1)
  have HT1 := Lib.hid (HT.out.below k1)
  have K1 : Below w.heap.size w w1 := KW.out.trans (k1.mono KW.out.size)
  clear a0 a2 k1 sb IB HU HR HT KW
  have a3 := IB1.out.cell 3
  simp only [List.getElem?_cons_zero, List.getElem?_cons_succ] at a3
  go_wp2_with fail
  clear a3
  go_loopw [6, 7, 8, 23] (fun vs _ _ vk wr => ∃ k : Nat, vk = .int .i64 k ∧ k ≤ 5 ∧ vs = .int .i64 (if k = 5 then 1 else 0) ∧ Below w1.heap.size w1 wr) (fun _ _ _ vk _ => 5 - (intOf vk).toNat)
  case atStart => exact ⟨0, rfl, by omega, rfl, Below.refl _ _⟩
  case round =>
    obtain ⟨k, rfl, hk, rfl, k2⟩ := hrel
    match k, hk with
    | 0, _ =>
      have c0 := (HU1.out.below k2).cell 0
      simp only [List.getElem?_cons_zero] at c0
      go_wp2_with fail
      refine (quota_low b m 1 _ (SB.out.below k2) (by decide) (by decide)).mono ?_
      rintro e w3 ⟨rfl, k3⟩
      have k4 : Below w1.heap.size w1 w3 := k2.trans (k3.mono k2.size)
      clear c0 k2 k3
      go_wp2_with fail
      go_roundw
      case rel => exact ⟨1, by go_num, by omega, by go_num, k4⟩
      case measure => simp [intOf]
    | 1, _ =>
      have c0 := (HU1.out.below k2).cell 1
      simp only [List.getElem?_cons_zero, List.getElem?_cons_succ] at c0
      go_wp2_with fail
      refine (quota_low b m 2 _ (SB.out.below k2) (by decide) (by decide)).mono ?_
      rintro e w3 ⟨rfl, k3⟩
      have k4 : Below w1.heap.size w1 w3 := k2.trans (k3.mono k2.size)
      clear c0 k2 k3
      go_wp2_with fail
      go_roundw
      case rel => exact ⟨2, by go_num, by omega, by go_num, k4⟩
      case measure => simp [intOf]
    | 2, _ =>
      have c0 := (HU1.out.below k2).cell 2
      simp only [List.getElem?_cons_zero, List.getElem?_cons_succ] at c0
      go_wp2_with fail
      refine (quota_low b m 3 _ (SB.out.below k2) (by decide) (by decide)).mono ?_
      rintro e w3 ⟨rfl, k3⟩
      have k4 : Below w1.heap.size w1 w3 := k2.trans (k3.mono k2.size)
      clear c0 k2 k3
      go_wp2_with fail
      go_roundw
      case rel => exact ⟨3, by go_num, by omega, by go_num, k4⟩
      case measure => simp [intOf]
    | 3, _ =>
      have c0 := (HU1.out.below k2).cell 3
      simp only [List.getElem?_cons_zero, List.getElem?_cons_succ] at c0
      go_wp2_with fail
      refine (quota_low b m 4 _ (SB.out.below k2) (by decide) (by decide)).mono ?_
      rintro e w3 ⟨rfl, k3⟩
      have k4 : Below w1.heap.size w1 w3 := k2.trans (k3.mono k2.size)
      clear c0 k2 k3
      go_wp2_with fail
      go_roundw
      case rel => exact ⟨4, by go_num, by omega, by go_num, k4⟩
      case measure => simp [intOf]
    | 4, _ =>
      have c0 := (HU1.out.below k2).cell 4
      simp only [List.getElem?_cons_zero, List.getElem?_cons_succ] at c0
      go_wp2_with fail
      refine (quota_high b m _ (SB.out.below k2)).mono ?_
      rintro e w3 ⟨rfl, k3⟩
      have k4 : Below w1.heap.size w1 w3 := k2.trans (k3.mono k2.size)
      clear c0 k2 k3
      go_wp2_with fail
      go_roundw
      case rel => exact ⟨5, by go_num, by omega, by go_num, k4⟩
      case measure => simp [intOf]
    | 5, _ =>
      have a4 := (IB1.out.below k2).cell 4
      simp only [List.getElem?_cons_zero, List.getElem?_cons_succ] at a4
      have HCR := Lib.hid (contains_rec r ct _ d 1 1 t β _ (HR1.out.below k2) (HT1.out.below k2) HBE.out)
      clear HU1 HR1 HT1 SB HBE
      go_wp2_with fail
      refine HCR.out.mono ?_
      rintro e w3 ⟨rfl, k3⟩
      have a4 := ((IB1.out.below k2).below k3).cell 4
      simp only [List.getElem?_cons_zero, List.getElem?_cons_succ] at a4
      have K3 : Below w.heap.size w w3 := K1.trans ((k2.trans (k3.mono k2.size)).mono K1.size)
      clear k2 k3 HCR IB1 K1
      cases β
      · go_wp2
        exact bodyPost_ret (results_tmp rfl _ _ _) rfl ⟨rfl, K3⟩
      · go_wp2
        exact bodyPost_ret (results_tmp rfl _ _ _) rfl ⟨rfl, K3⟩
    | k + 6, h => omega
theorem enter30 (args : Array Value) (w : World) : (callFunc 30 args).run Try.prog w = .ok (.enter 30 args) w := by kernel_rfl
set_option maxHeartbeats 4000000 in
set_option maxRecDepth 100000 in
theorem index_im_none (f : Value) (w : World) : Calls Try.prog 52 #[nilS, f] w fun e w' => e = .returned (.int .i64 (-1)) ∧ w = w' := by
  go_enter Try.func52, Try.ntmps52
  go_wp2_with fail
  go_loopw [5, 8] (fun _ vi wr => vi = .int .i64 0 ∧ wr = w) (fun _ _ _ => 0)
  case atStart => exact ⟨rfl, rfl⟩
  case round =>
    obtain ⟨rfl, rfl⟩ := hrel
    go_wp2
    exact bodyPost_ret (results_tmp rfl _ _ _) rfl ⟨rfl, rfl⟩
set_option maxHeartbeats 4000000 in
set_option maxRecDepth 100000 in
theorem contains_im_none (f : Value) (w : World) : Calls Try.prog 29 #[nilS, f] w fun e w' => e = .returned (.bool false) ∧ w = w' := by
  go_enter Try.func29, Try.ntmps29
  go_wp2_with fail
  refine (index_im_none f _).mono ?_
  rintro e w1 ⟨rfl, rfl⟩
  go_wp2
  exact bodyPost_ret (results_tmp rfl _ _ _) rfl ⟨rfl, rfl⟩
set_option maxHeartbeats 4000000 in
set_option maxRecDepth 100000 in
theorem index_im (g u r ct : Nat) (n : Int) (β : Bool) (w : World) (hg : Blk.Is w g (ims n u r) 51)
    (hc : Calls Try.prog 30 #[.agg (ims n u r).toArray, .pointer (some ⟨ct, 0, none⟩)] w fun e w' => e = .returned (.bool β) ∧ Below w.heap.size w w') :
    Calls Try.prog 52 #[.slice (some ⟨g, 0, none⟩) 1 1, .func (.func 30) #[] #[.pointer (some ⟨ct, 0, none⟩)]] w fun e w' => e = .returned (.int .i64 (if β = true then 0 else -1)) ∧ Below w.heap.size w w' := by
  have HC := Lib.hid hc
  have c := fun i => hg.cell i
  have e0 := c 0; have e1 := c 1; have e2 := c 2; have e3 := c 3; have e4 := c 4
  simp only [List.getElem?_cons_zero, List.getElem?_cons_succ] at e0 e1 e2 e3 e4
  have k0 : Below w.heap.size w w := Below.refl _ _
  clear c hg hc
  cases β
  · go_enter Try.func52, Try.ntmps52
    go_wp2_with fail
    go_loopw [5, 8] (fun _ vi wr => (vi = .int .i64 0 ∧ wr = w) ∨ (vi = .int .i64 1 ∧ Below w.heap.size w wr)) (fun _ vi _ => 1 - (intOf vi).toNat)
    case atStart => exact .inl ⟨rfl, rfl⟩
    case round =>
      rcases hrel with ⟨rfl, hw⟩ | ⟨rfl, k1⟩
      · subst hw
        go_wp2_with fail
        refine HC.out.mono ?_
        rintro e w1 ⟨rfl, k1⟩
        clear e0 e1 e2 e3 e4 HC
        go_wp2_with fail
        go_roundw
        case rel => exact .inr ⟨by go_num, k1⟩
        case measure => simp [intOf]
      · clear e0 e1 e2 e3 e4 HC
        go_wp2
        exact bodyPost_ret (results_tmp rfl _ _ _) rfl ⟨rfl, k1⟩
  · go_enter Try.func52, Try.ntmps52
    go_wp2_with fail
    go_loopw [5, 8] (fun _ vi wr => vi = .int .i64 0 ∧ wr = w) (fun _ _ _ => 0)
    case atStart => exact ⟨rfl, rfl⟩
    case round =>
      obtain ⟨rfl, rfl⟩ := hrel
      go_wp2_with fail
      refine HC.out.mono ?_
      rintro e w1 ⟨rfl, k1⟩
      clear e0 e1 e2 e3 e4 HC
      go_wp2
      exact bodyPost_ret (results_tmp rfl _ _ _) rfl ⟨rfl, k1⟩
set_option maxHeartbeats 4000000 in
set_option maxRecDepth 100000 in
theorem bounds_nil (t : Int) (w : World) : Calls Try.prog 11 #[nilS, .int .i64 t] w fun e w' => e = .returned (.bool true) ∧ Below w.heap.size w w' := by
  have k0 : Below w.heap.size w (w.alloc (.cells #[.int .i64 t] 3)) := (Below.refl _ _).alloc (Nat.le_refl _) _
  go_enter Try.func11, Try.ntmps11
  go_wp2_with fail
  refine (contains_im_none _ _).mono ?_
  rintro e w2 ⟨rfl, rfl⟩
  go_wp2
  exact bodyPost_ret (results_tmp rfl _ _ _) rfl ⟨rfl, k0⟩
set_option maxHeartbeats 4000000 in
set_option maxRecDepth 100000 in
theorem contains_im (g u r ct : Nat) (n : Int) (β : Bool) (w : World) (hg : Blk.Is w g (ims n u r) 51)
    (hc : Calls Try.prog 30 #[.agg (ims n u r).toArray, .pointer (some ⟨ct, 0, none⟩)] w fun e w' => e = .returned (.bool β) ∧ Below w.heap.size w w') :
    Calls Try.prog 29 #[.slice (some ⟨g, 0, none⟩) 1 1, .func (.func 30) #[] #[.pointer (some ⟨ct, 0, none⟩)]] w fun e w' => e = .returned (.bool β) ∧ Below w.heap.size w w' := by
  have HC := Lib.hid (index_im g u r ct n β w hg hc)
  clear hg hc
  cases β
  · go_enter Try.func29, Try.ntmps29
    go_wp2_with fail
    refine HC.out.mono ?_
    rintro e w1 ⟨rfl, k1⟩
    go_wp2
    exact bodyPost_ret (results_tmp rfl _ _ _) rfl ⟨rfl, k1⟩
  · go_enter Try.func29, Try.ntmps29
    go_wp2_with fail
    refine HC.out.mono ?_
    rintro e w1 ⟨rfl, k1⟩
    go_wp2
    exact bodyPost_ret (results_tmp rfl _ _ _) rfl ⟨rfl, k1⟩
set_option maxHeartbeats 4000000 in
set_option maxRecDepth 100000 in
theorem bounds_one (g u r : Nat) (n t : Int) (k d : List UInt8) (β : Bool) (w : World) (hg : Blk.Is w g (ims n u r) 51) (hu : Blk.Is w u [.int .i64 0, .int .i64 0, .int .i64 0, .int .i64 0, .int .i64 1] 3) (hr : Blk.Is w r (rcs k 1 1 d) 66) (hβ : β = decide (t < 1)) :
    Calls Try.prog 11 #[.slice (some ⟨g, 0, none⟩) 1 1, .int .i64 t] w fun e w' => e = .returned (.bool (!β)) ∧ Below w.heap.size w w' := by
  have k0 : Below w.heap.size w (w.alloc (.cells #[.int .i64 t] 3)) := (Below.refl _ _).alloc (Nat.le_refl _) _
  have HC := Lib.hid (contains_im g u r w.heap.size n β _ (hg.below k0) (bounds1_any n u r w.heap.size k d t β _ (hu.below k0) (hr.below k0) (Blk.new w [.int .i64 t] 3) hβ))
  clear hg hu hr hβ
  go_enter Try.func11, Try.ntmps11
  go_wp2_with fail
  refine HC.out.mono ?_
  rintro e w1 ⟨rfl, k1⟩
  have K1 : Below w.heap.size w w1 := k0.trans (k1.mono k0.size)
  clear k0 k1 HC
  go_wp2
  exact bodyPost_ret (results_tmp rfl _ _ _) rfl ⟨rfl, K1⟩
end Go.Proofs.Ythkibccfdpbojaa.Au
