/- Audits: all records of states gone over, walked. Conditions: those that are named. -/
import Derived.Test.YthkibccfdpbojaaAuA
namespace Go.Proofs.Ythkibccfdpbojaa.Au
open Go.RowKit
/-- All is as it was but some blocks. -/
structure But (S : List Nat) (w w' : World) : Prop where
  os : w'.os = w.os
  tape : w'.tape = w.tape
  output : w'.output = w.output
  size : w.heap.size ≤ w'.heap.size
  block : ∀ k, k < w.heap.size → k ∉ S → w'.heap[k]? = w.heap[k]?
theorem But.refl (S : List Nat) (w : World) : But S w w := ⟨rfl, rfl, rfl, Nat.le_refl _, fun _ _ _ => rfl⟩
theorem But.trans {S : List Nat} {x y z : World} (h : But S x y) (k : But S y z) : But S x z :=
  ⟨k.os.trans h.os, k.tape.trans h.tape, k.output.trans h.output, Nat.le_trans h.size k.size, fun i hi hn => (k.block i (Nat.lt_of_lt_of_le hi h.size) hn).trans (h.block i hi hn)⟩
theorem But.of {S : List Nat} {w w' : World} (h : Below w.heap.size w w') : But S w w' := ⟨h.os, h.tape, h.output, h.size, fun k hk _ => h.block k hk⟩
theorem But.drew {S : List Nat} {w w' : World} (h : But S w w') : But S w w'.drew := ⟨h.os, h.tape, h.output, h.size, h.block⟩
theorem But.alloc {S : List Nat} {w w' : World} (h : But S w w') (o : Obj) : But S w (w'.alloc o) := h.trans (.of ((Below.refl _ _).alloc (Nat.le_refl _) o))
theorem But.setCell {S : List Nat} {w w' : World} (h : But S w w') {p : Addr} (hp : p.block ∈ S) (v : Value) : But S w (w'.setCell p v) :=
  ⟨h.os, h.tape, h.output, by rw [World.size_setCell]; exact h.size, fun k hk hn => (Below.heap_setCell _ _ _ _ (fun e => hn (by rw [e]; exact hp))).trans (h.block k hk hn)⟩
theorem But.setCells : ∀ (vs : List Value) {S : List Nat} {w w' : World} (_ : But S w w') {c : Nat} (_ : c ∈ S) (o : Nat), But S w (w'.setCells c o vs)
  | [], _, _, _, h, _, _, _ => h
  | v :: r, _, _, _, h, _, hc, o => But.setCells r (h.setCell (p := ⟨_, o, none⟩) hc v) hc (o + 1)
theorem But.mono {S S' : List Nat} {w w' : World} (h : But S w w') (hs : ∀ x ∈ S, x ∈ S') : But S' w w' := ⟨h.os, h.tape, h.output, h.size, fun k hk hn => h.block k hk (fun hm => hn (hs k hm))⟩
theorem But.below {S : List Nat} {B : Nat} {w w' : World} (h : But S w w') (hS : ∀ x ∈ S, B ≤ x) (hB : B ≤ w.heap.size) : Below B w w' :=
  ⟨h.os, h.tape, h.output, h.size, fun k hk => h.block k (by omega) (fun hm => by have := hS k hm; omega)⟩
theorem is_but {S : List Nat} {w w' : World} {b : Nat} {cs : List Value} {t : TypeId} (h : Blk.Is w b cs t) (hb : But S w w') (hn : b ∉ S) : Blk.Is w' b cs t := by
  have hl := h.lt
  unfold Blk.Is at h ⊢
  rw [hb.block b hl hn]
  exact h
abbrev nilS : Value := .slice none 0 0
/-- A record's cells: its key, what is held. -/
abbrev rcs (k : List UInt8) (s c : Int) (d : List UInt8) : List Value := [.string ⟨k.toArray⟩, .int .i64 s, .int .i64 c, .string ⟨d.toArray⟩, nilS, nilS, .int .i64 0, nilS, nilS, nilS]
/-- A state's cells. -/
abbrev ims (n : Int) (u r : Nat) : List Value := [.int .i64 1, .int .i64 n, .int .i64 1, .slice (some ⟨u, 0, none⟩) 5 5, .slice (some ⟨r, 0, none⟩) 1 1]
set_option maxHeartbeats 4000000 in
set_option maxRecDepth 100000 in
theorem each_nil (G : FuncId) (caps : Array Value) (w : World) : Calls Try.prog 14 #[nilS, .func (.func G) #[] caps] w fun e w' => e = .returned (.tuple #[]) ∧ Below w.heap.size w w' := by
  have k0 : Below w.heap.size w w := Below.refl _ _
  go_enter Try.func14, Try.ntmps14
  go_wp2_with fail
  go_loopw [10] (fun vi wr => vi = .int .i64 0 ∧ wr = w) (fun _ _ => 0)
  case atStart => exact ⟨rfl, rfl⟩
  case round =>
    obtain ⟨rfl, rfl⟩ := hrel
    go_wp2
    exact ⟨rfl, _, results_none rfl _ _ _, rfl, k0⟩
set_option maxHeartbeats 4000000 in
set_option maxRecDepth 100000 in
theorem each_two (G : FuncId) (caps : Array Value) (g u1 r1 u2 r2 : Nat) (n1 n2 : Int) (k1 k2 d1 d2 : List UInt8) (s1 c1 s2 c2 : Int) (w : World) (J : Nat → World → Prop)
    (eg : ∀ args w, (callFunc G args).run Try.prog w = .ok (.enter G args) w)
    (hF : ∀ n w', J n w' → Blk.Is w' g (ims n1 u1 r1 ++ ims n2 u2 r2) 51 ∧ Blk.Is w' r1 (rcs k1 s1 c1 d1) 66 ∧ Blk.Is w' r2 (rcs k2 s2 c2 d2) 66)
    (hJ : ∀ n w' w'', J n w' → Below w'.heap.size w' w'' → J n w'')
    (hs0 : ∀ w', J 0 w' → Calls Try.prog G (#[.agg (ims n1 u1 r1).toArray, .agg (rcs k1 s1 c1 d1).toArray] ++ caps) w' fun e w'' => e = .returned (.tuple #[]) ∧ J 1 w'')
    (hs1 : ∀ w', J 1 w' → Calls Try.prog G (#[.agg (ims n2 u2 r2).toArray, .agg (rcs k2 s2 c2 d2).toArray] ++ caps) w' fun e w'' => e = .returned (.tuple #[]) ∧ J 2 w'')
    (h0 : J 0 w) : Calls Try.prog 14 #[.slice (some ⟨g, 0, none⟩) 2 2, .func (.func G) #[] caps] w fun e w' => e = .returned (.tuple #[]) ∧ J 2 w' := by
  have HF := Lib.hid hF
  have HJ := Lib.hid hJ
  have HS0 := Lib.hid hs0
  have HS1 := Lib.hid hs1
  have H0 := Lib.hid h0
  clear hF hJ hs0 hs1 h0
  go_enter Try.func14, Try.ntmps14
  go_wp2_with fail
  go_loopw [10] (fun vi wr => ∃ k : Nat, vi = .int .i64 k ∧ k ≤ 2 ∧ Hid (J k wr)) (fun vi _ => 2 - (intOf vi).toNat)
  case atStart => exact ⟨0, rfl, by omega, H0⟩
  case round =>
    clear H0
    obtain ⟨k, rfl, hk, HK⟩ := hrel
    match k, hk with
    | 0, _ =>
      obtain ⟨f1, f2, f3⟩ := HF.out 0 _ HK.out
      have c := fun i => f1.cell i
      have e0 := c 0; have e1 := c 1; have e2 := c 2; have e3 := c 3; have e4 := c 4
      simp only [List.cons_append, List.nil_append, List.getElem?_cons_zero, List.getElem?_cons_succ] at e0 e1 e2 e3 e4
      clear c f1 f2 f3
      have IB := Lib.hid (Blk.new wr (ims n1 u1 r1) 51)
      have HK1 := Lib.hid (HJ.out 0 wr _ HK.out ((Below.refl _ _).alloc (Nat.le_refl _) (.cells (ims n1 u1 r1).toArray 51)))
      clear HK
      go_upto_region 3 with (fail)
      clear e0 e1 e2 e3 e4
      obtain ⟨W1, hW1⟩ : ∃ W1, W1 = wr.alloc (.cells (ims n1 u1 r1).toArray 51) := ⟨_, rfl⟩
      obtain ⟨p, hp⟩ : ∃ p, p = wr.heap.size := ⟨_, rfl⟩
      rw [← hW1] at IB HK1 ⊢
      rw [← hp] at IB ⊢
      clear hW1 hp
      have z4 := IB.out.cell 4
      simp only [List.getElem?_cons_zero, List.getElem?_cons_succ] at z4
      go_wp2_with fail
      clear z4
      go_loopw [17] (fun vj w2 => ∃ j : Nat, vj = .int .i64 j ∧ j ≤ 1 ∧ (j = 0 → w2 = W1) ∧ Hid (j = 1 → J 1 w2)) (fun vj _ => 1 - (intOf vj).toNat)
      case atStart => exact ⟨0, rfl, by omega, fun _ => rfl, Lib.hid (fun h => by omega)⟩
      case round =>
        obtain ⟨j, rfl, hj, hw, HJ1⟩ := hrel
        match j, hj with
        | 0, _ =>
          have hw' := hw rfl
          subst hw'
          clear hw HJ1
          obtain ⟨f1, f2, f3⟩ := HF.out 0 _ HK1.out
          have c := fun i => f2.cell i
          have e0 := c 0; have e1 := c 1; have e2 := c 2; have e3 := c 3; have e4 := c 4; have e5 := c 5; have e6 := c 6; have e7 := c 7; have e8 := c 8; have e9 := c 9
          simp only [List.getElem?_cons_zero, List.getElem?_cons_succ] at e0 e1 e2 e3 e4 e5 e6 e7 e8 e9
          clear c f1 f2 f3
          have RB := Lib.hid (Blk.new wr (rcs k1 s1 c1 d1) 66)
          have IB2 := Lib.hid (IB.out.alloc (.cells (rcs k1 s1 c1 d1).toArray 66))
          have HK2 := Lib.hid (HJ.out 0 wr _ HK1.out ((Below.refl _ _).alloc (Nat.le_refl _) (.cells (rcs k1 s1 c1 d1).toArray 66)))
          clear HK1 IB
          go_upto_region 6 with (fail)
          clear e0 e1 e2 e3 e4 e5 e6 e7 e8 e9
          obtain ⟨W2, hW2⟩ : ∃ W2, W2 = wr.alloc (.cells (rcs k1 s1 c1 d1).toArray 66) := ⟨_, rfl⟩
          obtain ⟨q, hq⟩ : ∃ q, q = wr.heap.size := ⟨_, rfl⟩
          rw [← hW2] at RB IB2 HK2 ⊢
          rw [← hq] at RB ⊢
          clear hW2 hq
          have a := fun i => IB2.out.cell i
          have a0 := a 0; have a1 := a 1; have a2 := a 2; have a3 := a 3; have a4 := a 4
          have c := fun i => RB.out.cell i
          have e0 := c 0; have e1 := c 1; have e2 := c 2; have e3 := c 3; have e4 := c 4; have e5 := c 5; have e6 := c 6; have e7 := c 7; have e8 := c 8; have e9 := c 9
          simp only [List.getElem?_cons_zero, List.getElem?_cons_succ] at a0 a1 a2 a3 a4 e0 e1 e2 e3 e4 e5 e6 e7 e8 e9
          clear c a
          go_wp2_with fail
          clear a0 a1 a2 a3 a4 e0 e1 e2 e3 e4 e5 e6 e7 e8 e9
          refine (HS0.out _ HK2.out).mono ?_
          rintro e w4 ⟨rfl, j4⟩
          have J4 := Lib.hid j4
          clear j4
          go_wp2_with fail
          go_roundw
          case rel => (repeat apply Exists.intro); exact ⟨⟨1, by go_num, by omega, fun h => by omega, Lib.hid (fun _ => J4.out)⟩, rfl⟩
          case measure => simp [intOf]
        | 1, _ =>
          have J4 := Lib.hid (HJ1.out rfl)
          clear HJ1 hw
          go_wp2_with fail
          go_roundw
          case rel => exact ⟨1, by go_num, by omega, J4⟩
          case measure => simp [intOf]
        | j + 2, h => omega
    | 1, _ =>
      obtain ⟨f1, f2, f3⟩ := HF.out 1 _ HK.out
      have c := fun i => f1.cell i
      have e0 := c 5; have e1 := c 6; have e2 := c 7; have e3 := c 8; have e4 := c 9
      simp only [List.cons_append, List.nil_append, List.getElem?_cons_zero, List.getElem?_cons_succ] at e0 e1 e2 e3 e4
      clear c f1 f2 f3
      have IB := Lib.hid (Blk.new wr (ims n2 u2 r2) 51)
      have HK1 := Lib.hid (HJ.out 1 wr _ HK.out ((Below.refl _ _).alloc (Nat.le_refl _) (.cells (ims n2 u2 r2).toArray 51)))
      clear HK
      go_upto_region 3 with (fail)
      clear e0 e1 e2 e3 e4
      obtain ⟨W1, hW1⟩ : ∃ W1, W1 = wr.alloc (.cells (ims n2 u2 r2).toArray 51) := ⟨_, rfl⟩
      obtain ⟨p, hp⟩ : ∃ p, p = wr.heap.size := ⟨_, rfl⟩
      rw [← hW1] at IB HK1 ⊢
      rw [← hp] at IB ⊢
      clear hW1 hp
      have z4 := IB.out.cell 4
      simp only [List.getElem?_cons_zero, List.getElem?_cons_succ] at z4
      go_wp2_with fail
      clear z4
      go_loopw [17] (fun vj w2 => ∃ j : Nat, vj = .int .i64 j ∧ j ≤ 1 ∧ (j = 0 → w2 = W1) ∧ Hid (j = 1 → J 2 w2)) (fun vj _ => 1 - (intOf vj).toNat)
      case atStart => exact ⟨0, rfl, by omega, fun _ => rfl, Lib.hid (fun h => by omega)⟩
      case round =>
        obtain ⟨j, rfl, hj, hw, HJ1⟩ := hrel
        match j, hj with
        | 0, _ =>
          have hw' := hw rfl
          subst hw'
          clear hw HJ1
          obtain ⟨f1, f2, f3⟩ := HF.out 1 _ HK1.out
          have c := fun i => f3.cell i
          have e0 := c 0; have e1 := c 1; have e2 := c 2; have e3 := c 3; have e4 := c 4; have e5 := c 5; have e6 := c 6; have e7 := c 7; have e8 := c 8; have e9 := c 9
          simp only [List.getElem?_cons_zero, List.getElem?_cons_succ] at e0 e1 e2 e3 e4 e5 e6 e7 e8 e9
          clear c f1 f2 f3
          have RB := Lib.hid (Blk.new wr (rcs k2 s2 c2 d2) 66)
          have IB2 := Lib.hid (IB.out.alloc (.cells (rcs k2 s2 c2 d2).toArray 66))
          have HK2 := Lib.hid (HJ.out 1 wr _ HK1.out ((Below.refl _ _).alloc (Nat.le_refl _) (.cells (rcs k2 s2 c2 d2).toArray 66)))
          clear HK1 IB
          go_upto_region 6 with (fail)
          clear e0 e1 e2 e3 e4 e5 e6 e7 e8 e9
          obtain ⟨W2, hW2⟩ : ∃ W2, W2 = wr.alloc (.cells (rcs k2 s2 c2 d2).toArray 66) := ⟨_, rfl⟩
          obtain ⟨q, hq⟩ : ∃ q, q = wr.heap.size := ⟨_, rfl⟩
          rw [← hW2] at RB IB2 HK2 ⊢
          rw [← hq] at RB ⊢
          clear hW2 hq
          have a := fun i => IB2.out.cell i
          have a0 := a 0; have a1 := a 1; have a2 := a 2; have a3 := a 3; have a4 := a 4
          have c := fun i => RB.out.cell i
          have e0 := c 0; have e1 := c 1; have e2 := c 2; have e3 := c 3; have e4 := c 4; have e5 := c 5; have e6 := c 6; have e7 := c 7; have e8 := c 8; have e9 := c 9
          simp only [List.getElem?_cons_zero, List.getElem?_cons_succ] at a0 a1 a2 a3 a4 e0 e1 e2 e3 e4 e5 e6 e7 e8 e9
          clear c a
          go_wp2_with fail
          clear a0 a1 a2 a3 a4 e0 e1 e2 e3 e4 e5 e6 e7 e8 e9
          refine (HS1.out _ HK2.out).mono ?_
          rintro e w4 ⟨rfl, j4⟩
          have J4 := Lib.hid j4
          clear j4
          go_wp2_with fail
          go_roundw
          case rel => (repeat apply Exists.intro); exact ⟨⟨1, by go_num, by omega, fun h => by omega, Lib.hid (fun _ => J4.out)⟩, rfl⟩
          case measure => simp [intOf]
        | 1, _ =>
          have J4 := Lib.hid (HJ1.out rfl)
          clear HJ1 hw
          go_wp2_with fail
          go_roundw
          case rel => exact ⟨2, by go_num, by omega, J4⟩
          case measure => simp [intOf]
        | j + 2, h => omega
    | 2, _ =>
      go_wp2
      exact ⟨rfl, _, results_none rfl _ _ _, rfl, HK.out⟩
    | k + 3, h => omega
set_option maxHeartbeats 4000000 in
set_option maxRecDepth 100000 in
theorem each_one (G : FuncId) (caps : Array Value) (g u1 r1 : Nat) (n1 : Int) (k1 d1 : List UInt8) (s1 c1 : Int) (w : World) (J : Nat → World → Prop)
    (eg : ∀ args w, (callFunc G args).run Try.prog w = .ok (.enter G args) w)
    (hF : ∀ n w', J n w' → Blk.Is w' g (ims n1 u1 r1) 51 ∧ Blk.Is w' r1 (rcs k1 s1 c1 d1) 66)
    (hJ : ∀ n w' w'', J n w' → Below w'.heap.size w' w'' → J n w'')
    (hs0 : ∀ w', J 0 w' → Calls Try.prog G (#[.agg (ims n1 u1 r1).toArray, .agg (rcs k1 s1 c1 d1).toArray] ++ caps) w' fun e w'' => e = .returned (.tuple #[]) ∧ J 1 w'')
    (h0 : J 0 w) : Calls Try.prog 14 #[.slice (some ⟨g, 0, none⟩) 1 1, .func (.func G) #[] caps] w fun e w' => e = .returned (.tuple #[]) ∧ J 1 w' := by
  have HF := Lib.hid hF
  have HJ := Lib.hid hJ
  have HS0 := Lib.hid hs0
  have H0 := Lib.hid h0
  clear hF hJ hs0 h0
  go_enter Try.func14, Try.ntmps14
  go_wp2_with fail
  go_loopw [10] (fun vi wr => ∃ k : Nat, vi = .int .i64 k ∧ k ≤ 1 ∧ Hid (J k wr)) (fun vi _ => 1 - (intOf vi).toNat)
  case atStart => exact ⟨0, rfl, by omega, H0⟩
  case round =>
    clear H0
    obtain ⟨k, rfl, hk, HK⟩ := hrel
    match k, hk with
    | 0, _ =>
      obtain ⟨f1, f2⟩ := HF.out 0 _ HK.out
      have c := fun i => f1.cell i
      have e0 := c 0; have e1 := c 1; have e2 := c 2; have e3 := c 3; have e4 := c 4
      simp only [List.getElem?_cons_zero, List.getElem?_cons_succ] at e0 e1 e2 e3 e4
      clear c f1 f2
      have IB := Lib.hid (Blk.new wr (ims n1 u1 r1) 51)
      have HK1 := Lib.hid (HJ.out 0 wr _ HK.out ((Below.refl _ _).alloc (Nat.le_refl _) (.cells (ims n1 u1 r1).toArray 51)))
      clear HK
      go_upto_region 3 with (fail)
      clear e0 e1 e2 e3 e4
      obtain ⟨W1, hW1⟩ : ∃ W1, W1 = wr.alloc (.cells (ims n1 u1 r1).toArray 51) := ⟨_, rfl⟩
      obtain ⟨p, hp⟩ : ∃ p, p = wr.heap.size := ⟨_, rfl⟩
      rw [← hW1] at IB HK1 ⊢
      rw [← hp] at IB ⊢
      clear hW1 hp
      have z4 := IB.out.cell 4
      simp only [List.getElem?_cons_zero, List.getElem?_cons_succ] at z4
      go_wp2_with fail
      clear z4
      go_loopw [17] (fun vj w2 => ∃ j : Nat, vj = .int .i64 j ∧ j ≤ 1 ∧ (j = 0 → w2 = W1) ∧ Hid (j = 1 → J 1 w2)) (fun vj _ => 1 - (intOf vj).toNat)
      case atStart => exact ⟨0, rfl, by omega, fun _ => rfl, Lib.hid (fun h => by omega)⟩
      case round =>
        obtain ⟨j, rfl, hj, hw, HJ1⟩ := hrel
        match j, hj with
        | 0, _ =>
          have hw' := hw rfl
          subst hw'
          clear hw HJ1
          obtain ⟨f1, f2⟩ := HF.out 0 _ HK1.out
          have c := fun i => f2.cell i
          have e0 := c 0; have e1 := c 1; have e2 := c 2; have e3 := c 3; have e4 := c 4; have e5 := c 5; have e6 := c 6; have e7 := c 7; have e8 := c 8; have e9 := c 9
          simp only [List.getElem?_cons_zero, List.getElem?_cons_succ] at e0 e1 e2 e3 e4 e5 e6 e7 e8 e9
          clear c f1 f2
          have RB := Lib.hid (Blk.new wr (rcs k1 s1 c1 d1) 66)
          have IB2 := Lib.hid (IB.out.alloc (.cells (rcs k1 s1 c1 d1).toArray 66))
          have HK2 := Lib.hid (HJ.out 0 wr _ HK1.out ((Below.refl _ _).alloc (Nat.le_refl _) (.cells (rcs k1 s1 c1 d1).toArray 66)))
          clear HK1 IB
          go_upto_region 6 with (fail)
          clear e0 e1 e2 e3 e4 e5 e6 e7 e8 e9
          obtain ⟨W2, hW2⟩ : ∃ W2, W2 = wr.alloc (.cells (rcs k1 s1 c1 d1).toArray 66) := ⟨_, rfl⟩
          obtain ⟨q, hq⟩ : ∃ q, q = wr.heap.size := ⟨_, rfl⟩
          rw [← hW2] at RB IB2 HK2 ⊢
          rw [← hq] at RB ⊢
          clear hW2 hq
          have a := fun i => IB2.out.cell i
          have a0 := a 0; have a1 := a 1; have a2 := a 2; have a3 := a 3; have a4 := a 4
          have c := fun i => RB.out.cell i
          have e0 := c 0; have e1 := c 1; have e2 := c 2; have e3 := c 3; have e4 := c 4; have e5 := c 5; have e6 := c 6; have e7 := c 7; have e8 := c 8; have e9 := c 9
          simp only [List.getElem?_cons_zero, List.getElem?_cons_succ] at a0 a1 a2 a3 a4 e0 e1 e2 e3 e4 e5 e6 e7 e8 e9
          clear c a
          go_wp2_with fail
          clear a0 a1 a2 a3 a4 e0 e1 e2 e3 e4 e5 e6 e7 e8 e9
          refine (HS0.out _ HK2.out).mono ?_
          rintro e w4 ⟨rfl, j4⟩
          have J4 := Lib.hid j4
          clear j4
          go_wp2_with fail
          go_roundw
          case rel => (repeat apply Exists.intro); exact ⟨⟨1, by go_num, by omega, fun h => by omega, Lib.hid (fun _ => J4.out)⟩, rfl⟩
          case measure => simp [intOf]
        | 1, _ =>
          have J4 := Lib.hid (HJ1.out rfl)
          clear HJ1 hw
          go_wp2_with fail
          go_roundw
          case rel => exact ⟨1, by go_num, by omega, J4⟩
          case measure => simp [intOf]
        | j + 2, h => omega
    | 1, _ =>
      go_wp2
      exact ⟨rfl, _, results_none rfl _ _ _, rfl, HK.out⟩
    | k + 2, h => omega
end Go.Proofs.Ythkibccfdpbojaa.Au
