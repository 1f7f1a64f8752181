/- Audits: how many servers something is true of, walked. Conditions: those that are named. -/
import Derived.Test.YthkibccfdpbojaaAuG
namespace Go.Proofs.Ythkibccfdpbojaa.Au
open Go Go.RowKit
set_option maxHeartbeats 4000000 in
set_option maxRecDepth 100000 in
theorem count_one_true (g u1 r1 : Nat) (n1 : Int) (y1 d1 : List UInt8) (s1 c1 : Int) (k : List UInt8) (f : Value) (w : World) (hg : Blk.Is w g (ims n1 u1 r1) 51) (h1 : Blk.Is w r1 (rcs y1 s1 c1 d1) 66) :
    Calls Try.prog 23 #[.slice (some ⟨g, 0, none⟩) 1 1, txt k, .bool true, f] w fun e w' => e = .returned (.int .i64 (1)) ∧ Below w.heap.size w w' := by
  have HG := Lib.hid hg
  have H1 := Lib.hid h1
  have k0 : Below w.heap.size w w := Below.refl _ _
  clear hg h1 
  go_enter Try.func23, Try.ntmps23
  go_wp2_with fail
  go_loopw [9, 17] (fun vn vi wr => ∃ i : Nat, vi = .int .i64 i ∧ vn = vi ∧ i ≤ 1 ∧ Below w.heap.size w wr) (fun _ vi _ => 1 - (intOf vi).toNat)
  case atStart => exact ⟨0, rfl, rfl, by omega, k0⟩
  case round =>
    clear k0
    obtain ⟨i, rfl, rfl, hi, k1⟩ := hrel
    match i, hi with
    | 0, _ =>
      have c := fun i => (HG.out.below k1).cell i
      have e0 := c 0; have e1 := c 1; have e2 := c 2; have e3 := c 3; have e4 := c 4
      simp only [List.getElem?_cons_zero, List.getElem?_cons_succ] at e0 e1 e2 e3 e4
      clear c
      have IB := Lib.hid (Blk.new wr (ims n1 u1 r1) 51)
      have k2 : Below w.heap.size w (wr.alloc (.cells (ims n1 u1 r1).toArray 51)) := k1.alloc k1.size _
      go_upto_region 6 with (fail)
      clear e0 e1 e2 e3 e4 k1
      obtain ⟨W1, hW1⟩ : ∃ W1, W1 = wr.alloc (.cells (ims n1 u1 r1).toArray 51) := ⟨_, rfl⟩
      obtain ⟨p, hp⟩ : ∃ p, p = wr.heap.size := ⟨_, rfl⟩
      rw [← hW1] at IB k2 ⊢
      rw [← hp] at IB ⊢
      clear hW1 hp
      have z4 := IB.out.cell 4
      simp only [List.getElem?_cons_zero, List.getElem?_cons_succ] at z4
      go_wp2_with fail
      clear z4 IB
      go_loopw [12, 25] (fun vo vj w2 => ∃ j : Nat, vj = .int .i64 j ∧ vo = .bool true ∧ j ≤ 1 ∧ Below w.heap.size w w2) (fun _ vj _ => 1 - (intOf vj).toNat)
      case atStart => exact ⟨0, rfl, rfl, by omega, k2⟩
      case round =>
        clear k2
        obtain ⟨j, rfl, rfl, hj, k1⟩ := hrel
        match j, hj with
        | 0, _ =>
          have c := fun i => (H1.out.below k1).cell i
          have e0 := c 0; have e1 := c 1; have e2 := c 2; have e3 := c 3; have e4 := c 4; have e5 := c 5; have e6 := c 6; have e7 := c 7; have e8 := c 8; have e9 := c 9
          simp only [List.getElem?_cons_zero, List.getElem?_cons_succ] at e0 e1 e2 e3 e4 e5 e6 e7 e8 e9
          clear c
          have RB := Lib.hid (Blk.new wr (rcs y1 s1 c1 d1) 66)
          have k2 : Below w.heap.size w (wr.alloc (.cells (rcs y1 s1 c1 d1).toArray 66)) := k1.alloc k1.size _
          go_upto_region 9 with (fail)
          clear e0 e1 e2 e3 e4 e5 e6 e7 e8 e9 k1
          obtain ⟨W2, hW2⟩ : ∃ W2, W2 = wr.alloc (.cells (rcs y1 s1 c1 d1).toArray 66) := ⟨_, rfl⟩
          obtain ⟨q, hq⟩ : ∃ q, q = wr.heap.size := ⟨_, rfl⟩
          rw [← hW2] at RB k2 ⊢
          rw [← hq] at RB ⊢
          clear hW2 hq
          clear RB
          go_wp2_with fail
          go_roundw
          case rel => first | exact ⟨1, by go_num, rfl, by omega, k2⟩ | ((repeat apply Exists.intro); exact ⟨⟨1, by go_num, rfl, by omega, k2⟩, rfl⟩)
          case measure => simp [intOf]
        | 1, _ =>
          go_wp2_with fail
          go_roundw
          case rel => exact ⟨1, by go_num, by go_num, by omega, k1⟩
          case measure => simp [intOf]
        | j + 2, h => omega
    | 1, _ =>
      go_wp2
      exact bodyPost_ret (results_tmp rfl _ _ _) rfl ⟨rfl, k1⟩
    | i + 2, h => omega
set_option maxHeartbeats 4000000 in
set_option maxRecDepth 100000 in
theorem count_two_true (g u1 r1 u2 r2 : Nat) (n1 n2 : Int) (y1 d1 y2 d2 : List UInt8) (s1 c1 s2 c2 : Int) (k : List UInt8) (f : Value) (w : World) (hg : Blk.Is w g (ims n1 u1 r1 ++ ims n2 u2 r2) 51) (h1 : Blk.Is w r1 (rcs y1 s1 c1 d1) 66) (h2 : Blk.Is w r2 (rcs y2 s2 c2 d2) 66) :
    Calls Try.prog 23 #[.slice (some ⟨g, 0, none⟩) 2 2, txt k, .bool true, f] w fun e w' => e = .returned (.int .i64 (2)) ∧ Below w.heap.size w w' := by
  have HG := Lib.hid hg
  have H1 := Lib.hid h1
  have H2 := Lib.hid h2
  have k0 : Below w.heap.size w w := Below.refl _ _
  clear hg h1 h2 
  go_enter Try.func23, Try.ntmps23
  go_wp2_with fail
  go_loopw [9, 17] (fun vn vi wr => ∃ i : Nat, vi = .int .i64 i ∧ vn = vi ∧ i ≤ 2 ∧ Below w.heap.size w wr) (fun _ vi _ => 2 - (intOf vi).toNat)
  case atStart => exact ⟨0, rfl, rfl, by omega, k0⟩
  case round =>
    clear k0
    obtain ⟨i, rfl, rfl, hi, k1⟩ := hrel
    match i, hi with
    | 0, _ =>
      have c := fun i => (HG.out.below k1).cell i
      have e0 := c 0; have e1 := c 1; have e2 := c 2; have e3 := c 3; have e4 := c 4
      simp only [List.cons_append, List.nil_append, List.getElem?_cons_zero, List.getElem?_cons_succ] at e0 e1 e2 e3 e4
      clear c
      have IB := Lib.hid (Blk.new wr (ims n1 u1 r1) 51)
      have k2 : Below w.heap.size w (wr.alloc (.cells (ims n1 u1 r1).toArray 51)) := k1.alloc k1.size _
      go_upto_region 6 with (fail)
      clear e0 e1 e2 e3 e4 k1
      obtain ⟨W1, hW1⟩ : ∃ W1, W1 = wr.alloc (.cells (ims n1 u1 r1).toArray 51) := ⟨_, rfl⟩
      obtain ⟨p, hp⟩ : ∃ p, p = wr.heap.size := ⟨_, rfl⟩
      rw [← hW1] at IB k2 ⊢
      rw [← hp] at IB ⊢
      clear hW1 hp
      have z4 := IB.out.cell 4
      simp only [List.getElem?_cons_zero, List.getElem?_cons_succ] at z4
      go_wp2_with fail
      clear z4 IB
      go_loopw [12, 25] (fun vo vj w2 => ∃ j : Nat, vj = .int .i64 j ∧ vo = .bool true ∧ j ≤ 1 ∧ Below w.heap.size w w2) (fun _ vj _ => 1 - (intOf vj).toNat)
      case atStart => exact ⟨0, rfl, rfl, by omega, k2⟩
      case round =>
        clear k2
        obtain ⟨j, rfl, rfl, hj, k1⟩ := hrel
        match j, hj with
        | 0, _ =>
          have c := fun i => (H1.out.below k1).cell i
          have e0 := c 0; have e1 := c 1; have e2 := c 2; have e3 := c 3; have e4 := c 4; have e5 := c 5; have e6 := c 6; have e7 := c 7; have e8 := c 8; have e9 := c 9
          simp only [List.getElem?_cons_zero, List.getElem?_cons_succ] at e0 e1 e2 e3 e4 e5 e6 e7 e8 e9
          clear c
          have RB := Lib.hid (Blk.new wr (rcs y1 s1 c1 d1) 66)
          have k2 : Below w.heap.size w (wr.alloc (.cells (rcs y1 s1 c1 d1).toArray 66)) := k1.alloc k1.size _
          go_upto_region 9 with (fail)
          clear e0 e1 e2 e3 e4 e5 e6 e7 e8 e9 k1
          obtain ⟨W2, hW2⟩ : ∃ W2, W2 = wr.alloc (.cells (rcs y1 s1 c1 d1).toArray 66) := ⟨_, rfl⟩
          obtain ⟨q, hq⟩ : ∃ q, q = wr.heap.size := ⟨_, rfl⟩
          rw [← hW2] at RB k2 ⊢
          rw [← hq] at RB ⊢
          clear hW2 hq
          clear RB
          go_wp2_with fail
          go_roundw
          case rel => first | exact ⟨1, by go_num, rfl, by omega, k2⟩ | ((repeat apply Exists.intro); exact ⟨⟨1, by go_num, rfl, by omega, k2⟩, rfl⟩)
          case measure => simp [intOf]
        | 1, _ =>
          go_wp2_with fail
          go_roundw
          case rel => exact ⟨1, by go_num, by go_num, by omega, k1⟩
          case measure => simp [intOf]
        | j + 2, h => omega
    | 1, _ =>
      have c := fun i => (HG.out.below k1).cell i
      have e0 := c 5; have e1 := c 6; have e2 := c 7; have e3 := c 8; have e4 := c 9
      simp only [List.cons_append, List.nil_append, List.getElem?_cons_zero, List.getElem?_cons_succ] at e0 e1 e2 e3 e4
      clear c
      have IB := Lib.hid (Blk.new wr (ims n2 u2 r2) 51)
      have k2 : Below w.heap.size w (wr.alloc (.cells (ims n2 u2 r2).toArray 51)) := k1.alloc k1.size _
      go_upto_region 6 with (fail)
      clear e0 e1 e2 e3 e4 k1
      obtain ⟨W1, hW1⟩ : ∃ W1, W1 = wr.alloc (.cells (ims n2 u2 r2).toArray 51) := ⟨_, rfl⟩
      obtain ⟨p, hp⟩ : ∃ p, p = wr.heap.size := ⟨_, rfl⟩
      rw [← hW1] at IB k2 ⊢
      rw [← hp] at IB ⊢
      clear hW1 hp
      have z4 := IB.out.cell 4
      simp only [List.getElem?_cons_zero, List.getElem?_cons_succ] at z4
      go_wp2_with fail
      clear z4 IB
      go_loopw [12, 25] (fun vo vj w2 => ∃ j : Nat, vj = .int .i64 j ∧ vo = .bool true ∧ j ≤ 1 ∧ Below w.heap.size w w2) (fun _ vj _ => 1 - (intOf vj).toNat)
      case atStart => exact ⟨0, rfl, rfl, by omega, k2⟩
      case round =>
        clear k2
        obtain ⟨j, rfl, rfl, hj, k1⟩ := hrel
        match j, hj with
        | 0, _ =>
          have c := fun i => (H2.out.below k1).cell i
          have e0 := c 0; have e1 := c 1; have e2 := c 2; have e3 := c 3; have e4 := c 4; have e5 := c 5; have e6 := c 6; have e7 := c 7; have e8 := c 8; have e9 := c 9
          simp only [List.getElem?_cons_zero, List.getElem?_cons_succ] at e0 e1 e2 e3 e4 e5 e6 e7 e8 e9
          clear c
          have RB := Lib.hid (Blk.new wr (rcs y2 s2 c2 d2) 66)
          have k2 : Below w.heap.size w (wr.alloc (.cells (rcs y2 s2 c2 d2).toArray 66)) := k1.alloc k1.size _
          go_upto_region 9 with (fail)
          clear e0 e1 e2 e3 e4 e5 e6 e7 e8 e9 k1
          obtain ⟨W2, hW2⟩ : ∃ W2, W2 = wr.alloc (.cells (rcs y2 s2 c2 d2).toArray 66) := ⟨_, rfl⟩
          obtain ⟨q, hq⟩ : ∃ q, q = wr.heap.size := ⟨_, rfl⟩
          rw [← hW2] at RB k2 ⊢
          rw [← hq] at RB ⊢
          clear hW2 hq
          clear RB
          go_wp2_with fail
          go_roundw
          case rel => first | exact ⟨1, by go_num, rfl, by omega, k2⟩ | ((repeat apply Exists.intro); exact ⟨⟨1, by go_num, rfl, by omega, k2⟩, rfl⟩)
          case measure => simp [intOf]
        | 1, _ =>
          go_wp2_with fail
          go_roundw
          case rel => exact ⟨2, by go_num, by go_num, by omega, k1⟩
          case measure => simp [intOf]
        | j + 2, h => omega
    | 2, _ =>
      go_wp2
      exact bodyPost_ret (results_tmp rfl _ _ _) rfl ⟨rfl, k1⟩
    | i + 3, h => omega
set_option maxHeartbeats 4000000 in
set_option maxRecDepth 100000 in
theorem count_two_false (g u1 r1 u2 r2 : Nat) (n1 n2 : Int) (d1 d2 : List UInt8) (s1 c1 s2 c2 : Int) (k : List UInt8) (G : FuncId) (caps : Array Value) (eg : ∀ args w, (callFunc G args).run Try.prog w = .ok (.enter G args) w)  (w : World) (hg : Blk.Is w g (ims n1 u1 r1 ++ ims n2 u2 r2) 51) (h1 : Blk.Is w r1 (rcs k s1 c1 d1) 66) (h2 : Blk.Is w r2 (rcs k s2 c2 d2) 66) (hc1 : ∀ w', Below w.heap.size w w' → Calls Try.prog G (#[.agg (rcs k s1 c1 d1).toArray] ++ caps) w' fun e w'' => e = .returned (.bool false) ∧ Below w'.heap.size w' w'') (hc2 : ∀ w', Below w.heap.size w w' → Calls Try.prog G (#[.agg (rcs k s2 c2 d2).toArray] ++ caps) w' fun e w'' => e = .returned (.bool false) ∧ Below w'.heap.size w' w'') :
    Calls Try.prog 23 #[.slice (some ⟨g, 0, none⟩) 2 2, txt k, .bool false, .func (.func G) #[] caps] w fun e w' => e = .returned (.int .i64 0) ∧ Below w.heap.size w w' := by
  have HG := Lib.hid hg
  have H1 := Lib.hid h1
  have H2 := Lib.hid h2
  have HC1 := Lib.hid hc1
  have HC2 := Lib.hid hc2
  have k0 : Below w.heap.size w w := Below.refl _ _
  clear hg h1 h2 hc1 hc2
  go_enter Try.func23, Try.ntmps23
  go_wp2_with fail
  go_loopw [9, 17] (fun vn vi wr => ∃ i : Nat, vi = .int .i64 i ∧ vn = .int .i64 0 ∧ i ≤ 2 ∧ Below w.heap.size w wr) (fun _ vi _ => 2 - (intOf vi).toNat)
  case atStart => exact ⟨0, rfl, rfl, by omega, k0⟩
  case round =>
    clear k0
    obtain ⟨i, rfl, rfl, hi, k1⟩ := hrel
    match i, hi with
    | 0, _ =>
      have c := fun i => (HG.out.below k1).cell i
      have e0 := c 0; have e1 := c 1; have e2 := c 2; have e3 := c 3; have e4 := c 4
      simp only [List.cons_append, List.nil_append, List.getElem?_cons_zero, List.getElem?_cons_succ] at e0 e1 e2 e3 e4
      clear c
      have IB := Lib.hid (Blk.new wr (ims n1 u1 r1) 51)
      have k2 : Below w.heap.size w (wr.alloc (.cells (ims n1 u1 r1).toArray 51)) := k1.alloc k1.size _
      go_upto_region 6 with (fail)
      clear e0 e1 e2 e3 e4 k1
      obtain ⟨W1, hW1⟩ : ∃ W1, W1 = wr.alloc (.cells (ims n1 u1 r1).toArray 51) := ⟨_, rfl⟩
      obtain ⟨p, hp⟩ : ∃ p, p = wr.heap.size := ⟨_, rfl⟩
      rw [← hW1] at IB k2 ⊢
      rw [← hp] at IB ⊢
      clear hW1 hp
      have z4 := IB.out.cell 4
      simp only [List.getElem?_cons_zero, List.getElem?_cons_succ] at z4
      go_wp2_with fail
      clear z4 IB
      go_loopw [12, 25] (fun vo vj w2 => ∃ j : Nat, vj = .int .i64 j ∧ vo = .bool false ∧ j ≤ 1 ∧ Below w.heap.size w w2) (fun _ vj _ => 1 - (intOf vj).toNat)
      case atStart => exact ⟨0, rfl, rfl, by omega, k2⟩
      case round =>
        clear k2
        obtain ⟨j, rfl, rfl, hj, k1⟩ := hrel
        match j, hj with
        | 0, _ =>
          have c := fun i => (H1.out.below k1).cell i
          have e0 := c 0; have e1 := c 1; have e2 := c 2; have e3 := c 3; have e4 := c 4; have e5 := c 5; have e6 := c 6; have e7 := c 7; have e8 := c 8; have e9 := c 9
          simp only [List.getElem?_cons_zero, List.getElem?_cons_succ] at e0 e1 e2 e3 e4 e5 e6 e7 e8 e9
          clear c
          have RB := Lib.hid (Blk.new wr (rcs k s1 c1 d1) 66)
          have k2 : Below w.heap.size w (wr.alloc (.cells (rcs k s1 c1 d1).toArray 66)) := k1.alloc k1.size _
          go_upto_region 9 with (fail)
          clear e0 e1 e2 e3 e4 e5 e6 e7 e8 e9 k1
          obtain ⟨W2, hW2⟩ : ∃ W2, W2 = wr.alloc (.cells (rcs k s1 c1 d1).toArray 66) := ⟨_, rfl⟩
          obtain ⟨q, hq⟩ : ∃ q, q = wr.heap.size := ⟨_, rfl⟩
          rw [← hW2] at RB k2 ⊢
          rw [← hq] at RB ⊢
          clear hW2 hq
          have c := fun i => RB.out.cell i
          have e0 := c 0; have e1 := c 1; have e2 := c 2; have e3 := c 3; have e4 := c 4; have e5 := c 5; have e6 := c 6; have e7 := c 7; have e8 := c 8; have e9 := c 9
          simp only [List.getElem?_cons_zero, List.getElem?_cons_succ] at e0 e1 e2 e3 e4 e5 e6 e7 e8 e9
          clear c RB
          go_wp2_with fail
          clear e0 e1 e2 e3 e4 e5 e6 e7 e8 e9
          refine (HC1.out _ k2).mono ?_
          rintro e w4 ⟨rfl, k4⟩
          have k5 : Below w.heap.size w w4 := k2.trans (k4.mono k2.size)
          clear k2 k4
          go_wp2_with fail
          go_roundw
          case rel => first | exact ⟨1, by go_num, rfl, by omega, k5⟩ | ((repeat apply Exists.intro); exact ⟨⟨1, by go_num, rfl, by omega, k5⟩, rfl⟩)
          case measure => simp [intOf]
        | 1, _ =>
          go_wp2_with fail
          go_roundw
          case rel => exact ⟨1, by go_num, rfl, by omega, k1⟩
          case measure => simp [intOf]
        | j + 2, h => omega
    | 1, _ =>
      have c := fun i => (HG.out.below k1).cell i
      have e0 := c 5; have e1 := c 6; have e2 := c 7; have e3 := c 8; have e4 := c 9
      simp only [List.cons_append, List.nil_append, List.getElem?_cons_zero, List.getElem?_cons_succ] at e0 e1 e2 e3 e4
      clear c
      have IB := Lib.hid (Blk.new wr (ims n2 u2 r2) 51)
      have k2 : Below w.heap.size w (wr.alloc (.cells (ims n2 u2 r2).toArray 51)) := k1.alloc k1.size _
      go_upto_region 6 with (fail)
      clear e0 e1 e2 e3 e4 k1
      obtain ⟨W1, hW1⟩ : ∃ W1, W1 = wr.alloc (.cells (ims n2 u2 r2).toArray 51) := ⟨_, rfl⟩
      obtain ⟨p, hp⟩ : ∃ p, p = wr.heap.size := ⟨_, rfl⟩
      rw [← hW1] at IB k2 ⊢
      rw [← hp] at IB ⊢
      clear hW1 hp
      have z4 := IB.out.cell 4
      simp only [List.getElem?_cons_zero, List.getElem?_cons_succ] at z4
      go_wp2_with fail
      clear z4 IB
      go_loopw [12, 25] (fun vo vj w2 => ∃ j : Nat, vj = .int .i64 j ∧ vo = .bool false ∧ j ≤ 1 ∧ Below w.heap.size w w2) (fun _ vj _ => 1 - (intOf vj).toNat)
      case atStart => exact ⟨0, rfl, rfl, by omega, k2⟩
      case round =>
        clear k2
        obtain ⟨j, rfl, rfl, hj, k1⟩ := hrel
        match j, hj with
        | 0, _ =>
          have c := fun i => (H2.out.below k1).cell i
          have e0 := c 0; have e1 := c 1; have e2 := c 2; have e3 := c 3; have e4 := c 4; have e5 := c 5; have e6 := c 6; have e7 := c 7; have e8 := c 8; have e9 := c 9
          simp only [List.getElem?_cons_zero, List.getElem?_cons_succ] at e0 e1 e2 e3 e4 e5 e6 e7 e8 e9
          clear c
          have RB := Lib.hid (Blk.new wr (rcs k s2 c2 d2) 66)
          have k2 : Below w.heap.size w (wr.alloc (.cells (rcs k s2 c2 d2).toArray 66)) := k1.alloc k1.size _
          go_upto_region 9 with (fail)
          clear e0 e1 e2 e3 e4 e5 e6 e7 e8 e9 k1
          obtain ⟨W2, hW2⟩ : ∃ W2, W2 = wr.alloc (.cells (rcs k s2 c2 d2).toArray 66) := ⟨_, rfl⟩
          obtain ⟨q, hq⟩ : ∃ q, q = wr.heap.size := ⟨_, rfl⟩
          rw [← hW2] at RB k2 ⊢
          rw [← hq] at RB ⊢
          clear hW2 hq
          have c := fun i => RB.out.cell i
          have e0 := c 0; have e1 := c 1; have e2 := c 2; have e3 := c 3; have e4 := c 4; have e5 := c 5; have e6 := c 6; have e7 := c 7; have e8 := c 8; have e9 := c 9
          simp only [List.getElem?_cons_zero, List.getElem?_cons_succ] at e0 e1 e2 e3 e4 e5 e6 e7 e8 e9
          clear c RB
          go_wp2_with fail
          clear e0 e1 e2 e3 e4 e5 e6 e7 e8 e9
          refine (HC2.out _ k2).mono ?_
          rintro e w4 ⟨rfl, k4⟩
          have k5 : Below w.heap.size w w4 := k2.trans (k4.mono k2.size)
          clear k2 k4
          go_wp2_with fail
          go_roundw
          case rel => first | exact ⟨1, by go_num, rfl, by omega, k5⟩ | ((repeat apply Exists.intro); exact ⟨⟨1, by go_num, rfl, by omega, k5⟩, rfl⟩)
          case measure => simp [intOf]
        | 1, _ =>
          go_wp2_with fail
          go_roundw
          case rel => exact ⟨2, by go_num, rfl, by omega, k1⟩
          case measure => simp [intOf]
        | j + 2, h => omega
    | 2, _ =>
      go_wp2
      exact bodyPost_ret (results_tmp rfl _ _ _) rfl ⟨rfl, k1⟩
    | i + 3, h => omega
end Go.Proofs.Ythkibccfdpbojaa.Au
