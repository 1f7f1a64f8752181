/- Words and numbers of four words: products, sums, differences, comparisons: what the code does, by runs with free numbers. No condition. -/
import Derived.Test.YtphfjhpgcdmonaaGreatDoorEaA
import Derived.Test.YtphfjhpgcdmonaaGreatDoorMg2
namespace Go.Proofs.YtphfjhpgcdmonaaGreatDoor.Ec
open Go Go.RowKit Exe
set_option maxRecDepth 100000
theorem soundN {N : KnownC} (hK : KnownSound Tryz.prog N) : CallSound Tryz.prog (callK Tryz.prog N (execK Tryz.prog N 1000)) := Ea.sound hK 1000
abbrev u (n : Nat) : Value := .int .u64 (.ofNat n)
abbrev agg4 (a b c d : Nat) : Value := .agg #[u a, u b, u c, u d]
abbrev agg6 (a b c d e f : Nat) : Value := .agg #[u a, u b, u c, u d, u e, u f]
/-- A difference with what was borrowed, each way on its own. -/
noncomputable def subB : LeafF := fun args h q => match args with
  | [.int .u64 (.ofNat x), .int .u64 (.ofNat y), .int .u64 (.ofNat c)] => Bool.rec false
      (Bool.rec (q (.tuple #[u (Nat.mod (Nat.sub (Nat.sub (Nat.add x 18446744073709551616) y) c) 18446744073709551616), u 0]) h) (q (.tuple #[u (Nat.mod (Nat.sub (Nat.sub (Nat.add x 18446744073709551616) y) c) 18446744073709551616), u 1]) h) (Nat.ble (Nat.succ x) (Nat.add y c))) (Nat.ble c 1)
  | _ => false
theorem subB_ok : OneSound Tryz.prog 204 subB := by
  refine pure_one fun args h k hr => ?_
  unfold subB at hr
  split at hr
  · rename_i x y c
    cases hc : Nat.ble c 1 with
    | false => rw [hc] at hr; cases hr
    | true =>
      rw [hc] at hr
      have h1 := Ea.run_sub64 x y c (Nat.le_of_ble_eq_true hc)
      cases hb : Nat.ble (Nat.succ x) (Nat.add y c) with
      | true =>
        rw [hb] at hr
        refine ⟨_, hr, rfl, rfl, fun w => ?_⟩
        have h2 := h1 w
        rw [if_pos (show x < y + c from Nat.le_of_ble_eq_true hb)] at h2
        exact h2
      | false =>
        rw [hb] at hr
        refine ⟨_, hr, rfl, rfl, fun w => ?_⟩
        have h2 := h1 w
        rw [if_neg (fun h => by rw [show Nat.ble (Nat.succ x) (Nat.add y c) = true from Nat.ble_eq_true_of_le h] at hb; cases hb)] at h2
        exact h2
  · cases hr
noncomputable def leaves0 : List (FuncId × LeafF) := [(207, addF), (204, subB), (135, sameF)]
theorem leaves0_ok : ∀ p ∈ leaves0, OneSound Tryz.prog p.1 p.2 := by
  intro p hp
  simp only [leaves0, List.mem_cons, List.not_mem_nil, or_false] at hp
  rcases hp with rfl | rfl | rfl
  · exact addF_ok Ea.run_add64
  · exact subB_ok
  · exact sameF_ok Ea.run_same
noncomputable def K0 : KnownC := KnownC.of leaves0 []
theorem K0_ok : KnownSound Tryz.prog K0 := known_ok Ea.meth_ok (leaves0_ok) (fun p hp => by cases hp)
noncomputable abbrev run0 : CallC := callK Tryz.prog K0 (execK Tryz.prog K0 1000)
-- products
def h32 (a : Nat) : Nat := Nat.shiftRight a 32
def l32 (a : Nat) : Nat := Nat.mod (Nat.land a 4294967295) 18446744073709551616
def mm (a b : Nat) : Nat := Nat.mod (Nat.mul a b) 18446744073709551616
def aa (a b : Nat) : Nat := Nat.mod (Nat.add a b) 18446744073709551616
def mulHi (x y : Nat) : Nat :=
  aa (aa (mm (h32 x) (h32 y)) (h32 (aa (mm (h32 x) (l32 y)) (h32 (mm (l32 x) (l32 y)))))) (h32 (aa (l32 (aa (mm (h32 x) (l32 y)) (h32 (mm (l32 x) (l32 y))))) (mm (l32 x) (h32 y))))
theorem mul_run (x y : Nat) (r : Value → Bool) : run0 206 [u x, u y] Hp.none (fun v _ => r v) = r (.tuple #[u (mulHi x y), u (mm x y)]) := by kernel_rfl
theorem mul_call (x y : Nat) : FlatCall Tryz.prog 206 [u x, u y] (.tuple #[u (mulHi x y), u (mm x y)]) := flat_call (soundN K0_ok) rfl rfl (mul_run x y)
noncomputable def mulC : LeafF := fun args h q => match args with
  | [.int .u64 (.ofNat x), .int .u64 (.ofNat y)] => q (.tuple #[u (mulHi x y), u (mm x y)]) h
  | _ => false
theorem mulC_ok : OneSound Tryz.prog 206 mulC := by
  refine flat_one fun args h k hr => ?_
  unfold mulC at hr
  split at hr
  · exact ⟨_, hr, rfl, rfl, mul_call _ _⟩
  · cases hr
-- differences
def dl (a b c : Nat) : Nat := Nat.mod (Nat.sub (Nat.sub (Nat.add a 18446744073709551616) b) c) 18446744073709551616
def bo (a b c : Nat) : Bool := Nat.ble (Nat.succ a) (Nat.add b c)
noncomputable def cb (b : Bool) : Nat := Bool.rec 0 1 b
noncomputable def sub1 (a0 a1 a2 a3 b0 b1 b2 b3 : Nat) (r : Value → Bool) (c1 c2 c3 : Nat) : Bool := Bool.rec (r (.tuple #[agg4 (dl a0 b0 0) (dl a1 b1 c1) (dl a2 b2 c2) (dl a3 b3 c3), .int .i64 0])) (r (.tuple #[agg4 (dl a0 b0 0) (dl a1 b1 c1) (dl a2 b2 c2) (dl a3 b3 c3), .int .i64 1])) (bo a3 b3 c3)
noncomputable def sub2 (a0 a1 a2 a3 b0 b1 b2 b3 : Nat) (r : Value → Bool) (c1 c2 : Nat) : Bool := Bool.rec (sub1 a0 a1 a2 a3 b0 b1 b2 b3 r c1 c2 0) (sub1 a0 a1 a2 a3 b0 b1 b2 b3 r c1 c2 1) (bo a2 b2 c2)
noncomputable def sub3 (a0 a1 a2 a3 b0 b1 b2 b3 : Nat) (r : Value → Bool) (c1 : Nat) : Bool := Bool.rec (sub2 a0 a1 a2 a3 b0 b1 b2 b3 r c1 0) (sub2 a0 a1 a2 a3 b0 b1 b2 b3 r c1 1) (bo a1 b1 c1)
noncomputable def subT (a0 a1 a2 a3 b0 b1 b2 b3 : Nat) (r : Value → Bool) : Bool := Bool.rec (sub3 a0 a1 a2 a3 b0 b1 b2 b3 r 0) (sub3 a0 a1 a2 a3 b0 b1 b2 b3 r 1) (bo a0 b0 0)
theorem sub_run (a0 a1 a2 a3 b0 b1 b2 b3 : Nat) (r : Value → Bool) : run0 165 [agg4 a0 a1 a2 a3, agg4 b0 b1 b2 b3] Hp.none (fun v _ => r v) = subT a0 a1 a2 a3 b0 b1 b2 b3 r := by kernel_rfl
-- comparisons
noncomputable def cmpT (a0 a1 a2 a3 b0 b1 b2 b3 : Nat) (r : Value → Bool) : Bool :=
  Bool.rec (Bool.rec (Bool.rec (Bool.rec (Bool.rec (Bool.rec (Bool.rec (Bool.rec (r (.int .i64 0)) (r (.int .i64 1)) (Nat.ble (Nat.succ b0) a0)) (r (.int .i64 (-1))) (Nat.ble (Nat.succ a0) b0))
    (r (.int .i64 1)) (Nat.ble (Nat.succ b1) a1)) (r (.int .i64 (-1))) (Nat.ble (Nat.succ a1) b1)) (r (.int .i64 1)) (Nat.ble (Nat.succ b2) a2)) (r (.int .i64 (-1))) (Nat.ble (Nat.succ a2) b2)) (r (.int .i64 1)) (Nat.ble (Nat.succ b3) a3)) (r (.int .i64 (-1))) (Nat.ble (Nat.succ a3) b3)
theorem cmp_run (a0 a1 a2 a3 b0 b1 b2 b3 : Nat) (r : Value → Bool) : run0 130 [agg4 a0 a1 a2 a3, agg4 b0 b1 b2 b3] Hp.none (fun v _ => r v) = cmpT a0 a1 a2 a3 b0 b1 b2 b3 r := by kernel_rfl
theorem rec_cb (f : Nat → Bool) (b : Bool) : (Bool.rec (f 0) (f 1) b : Bool) = f (cb b) := by cases b <;> rfl
theorem rec_last (r : Value → Bool) (x : Value) (b : Bool) : (Bool.rec (r (.tuple #[x, .int .i64 0])) (r (.tuple #[x, .int .i64 1])) b : Bool) = r (.tuple #[x, .int .i64 (.ofNat (cb b))]) := by cases b <;> rfl
noncomputable def subV (a0 a1 a2 a3 b0 b1 b2 b3 : Nat) : Value :=
  let c1 := cb (bo a0 b0 0)
  let c2 := cb (bo a1 b1 c1)
  let c3 := cb (bo a2 b2 c2)
  .tuple #[agg4 (dl a0 b0 0) (dl a1 b1 c1) (dl a2 b2 c2) (dl a3 b3 c3), .int .i64 (.ofNat (cb (bo a3 b3 c3)))]
theorem sub_val (a0 a1 a2 a3 b0 b1 b2 b3 : Nat) (r : Value → Bool) : subT a0 a1 a2 a3 b0 b1 b2 b3 r = r (subV a0 a1 a2 a3 b0 b1 b2 b3) :=
  (rec_cb (sub3 a0 a1 a2 a3 b0 b1 b2 b3 r) _).trans ((rec_cb (sub2 a0 a1 a2 a3 b0 b1 b2 b3 r _) _).trans ((rec_cb (sub1 a0 a1 a2 a3 b0 b1 b2 b3 r _ _) _).trans (rec_last r _ _)))
theorem sub_call (a0 a1 a2 a3 b0 b1 b2 b3 : Nat) : FlatCall Tryz.prog 165 [agg4 a0 a1 a2 a3, agg4 b0 b1 b2 b3] (subV a0 a1 a2 a3 b0 b1 b2 b3) :=
  flat_call (soundN K0_ok) rfl rfl fun r => (sub_run a0 a1 a2 a3 b0 b1 b2 b3 r).trans (sub_val a0 a1 a2 a3 b0 b1 b2 b3 r)
/-- The words of a value. -/
def four (v : Value) (k : Nat → Nat → Nat → Nat → Bool) : Bool := match v with
  | .agg cs => match cs.toList with
    | [.int .u64 (.ofNat a), .int .u64 (.ofNat b), .int .u64 (.ofNat c), .int .u64 (.ofNat d)] => k a b c d
    | _ => false
  | _ => false
theorem four_some {v : Value} {k : Nat → Nat → Nat → Nat → Bool} (h : four v k = true) : ∃ a b c d, v = agg4 a b c d ∧ k a b c d = true := by
  unfold four at h
  split at h
  · rename_i cs
    split at h
    · rename_i a b c d hl
      refine ⟨a, b, c, d, ?_, h⟩
      have : cs = #[u a, u b, u c, u d] := Array.toList_inj.1 hl
      rw [this]
    · cases h
  · cases h
def six (v : Value) (k : Nat → Nat → Nat → Nat → Nat → Nat → Bool) : Bool := match v with
  | .agg cs => match cs.toList with
    | [.int .u64 (.ofNat a), .int .u64 (.ofNat b), .int .u64 (.ofNat c), .int .u64 (.ofNat d), .int .u64 (.ofNat e), .int .u64 (.ofNat f)] => k a b c d e f
    | _ => false
  | _ => false
theorem six_some {v : Value} {k : Nat → Nat → Nat → Nat → Nat → Nat → Bool} (h : six v k = true) : ∃ a b c d e f, v = agg6 a b c d e f ∧ k a b c d e f = true := by
  unfold six at h
  split at h
  · rename_i cs
    split at h
    · rename_i a b c d e f hl
      refine ⟨a, b, c, d, e, f, ?_, h⟩
      have : cs = #[u a, u b, u c, u d, u e, u f] := Array.toList_inj.1 hl
      rw [this]
    · cases h
  · cases h
noncomputable def subC : LeafF := fun args h q => match args with
  | [x, y] => four x fun a0 a1 a2 a3 => four y fun b0 b1 b2 b3 => q (subV a0 a1 a2 a3 b0 b1 b2 b3) h
  | _ => false
theorem subC_ok : OneSound Tryz.prog 165 subC := by
  refine flat_one fun args h k hr => ?_
  unfold subC at hr
  split at hr
  · rename_i x y
    obtain ⟨a0, a1, a2, a3, hx, hr⟩ := four_some (v := x) hr
    subst hx
    obtain ⟨b0, b1, b2, b3, hy, hr⟩ := four_some (v := y) hr
    subst hy
    exact ⟨_, hr, rfl, rfl, sub_call _ _ _ _ _ _ _ _⟩
  · cases hr
noncomputable def cz (a0 a1 a2 a3 b0 b1 b2 b3 : Nat) : Int :=
  Bool.rec (Bool.rec (Bool.rec (Bool.rec (Bool.rec (Bool.rec (Bool.rec (Bool.rec 0 1 (Nat.ble (Nat.succ b0) a0)) (-1) (Nat.ble (Nat.succ a0) b0))
    1 (Nat.ble (Nat.succ b1) a1)) (-1) (Nat.ble (Nat.succ a1) b1)) 1 (Nat.ble (Nat.succ b2) a2)) (-1) (Nat.ble (Nat.succ a2) b2)) 1 (Nat.ble (Nat.succ b3) a3)) (-1) (Nat.ble (Nat.succ a3) b3)
theorem cmp_val (a0 a1 a2 a3 b0 b1 b2 b3 : Nat) (r : Value → Bool) : cmpT a0 a1 a2 a3 b0 b1 b2 b3 r = r (.int .i64 (cz a0 a1 a2 a3 b0 b1 b2 b3)) := by
  unfold cmpT cz
  cases Nat.ble (Nat.succ a3) b3 with
  | true => rfl
  | false =>
  cases Nat.ble (Nat.succ b3) a3 with
  | true => rfl
  | false =>
  cases Nat.ble (Nat.succ a2) b2 with
  | true => rfl
  | false =>
  cases Nat.ble (Nat.succ b2) a2 with
  | true => rfl
  | false =>
  cases Nat.ble (Nat.succ a1) b1 with
  | true => rfl
  | false =>
  cases Nat.ble (Nat.succ b1) a1 with
  | true => rfl
  | false =>
  cases Nat.ble (Nat.succ a0) b0 with
  | true => rfl
  | false => cases Nat.ble (Nat.succ b0) a0 <;> rfl
theorem cmp_call (a0 a1 a2 a3 b0 b1 b2 b3 : Nat) : FlatCall Tryz.prog 130 [agg4 a0 a1 a2 a3, agg4 b0 b1 b2 b3] (.int .i64 (cz a0 a1 a2 a3 b0 b1 b2 b3)) :=
  flat_call (soundN K0_ok) rfl rfl fun r => (cmp_run a0 a1 a2 a3 b0 b1 b2 b3 r).trans (cmp_val a0 a1 a2 a3 b0 b1 b2 b3 r)
noncomputable def cmpC : LeafF := fun args h q => match args with
  | [x, y] => four x fun a0 a1 a2 a3 => four y fun b0 b1 b2 b3 => cmpT a0 a1 a2 a3 b0 b1 b2 b3 fun v => q v h
  | _ => false
theorem cmpC_ok : OneSound Tryz.prog 130 cmpC := by
  refine flat_one fun args h k hr => ?_
  unfold cmpC at hr
  split at hr
  · rename_i x y
    obtain ⟨a0, a1, a2, a3, hx, hr⟩ := four_some (v := x) hr
    subst hx
    obtain ⟨b0, b1, b2, b3, hy, hr⟩ := four_some (v := y) hr
    subst hy
    exact ⟨_, (cmp_val a0 a1 a2 a3 b0 b1 b2 b3 (fun v => k v h)).symm.trans hr, rfl, rfl, cmp_call _ _ _ _ _ _ _ _⟩
  · cases hr
-- a number, and a natural times a word more
noncomputable def leaves1 : List (FuncId × LeafF) := (206, mulC) :: leaves0
theorem leaves1_ok : ∀ p ∈ leaves1, OneSound Tryz.prog p.1 p.2 := by
  intro p hp
  rcases List.mem_cons.1 hp with rfl | hp
  · exact mulC_ok
  · exact leaves0_ok p hp
noncomputable def K1 : KnownC := KnownC.of leaves1 []
theorem K1_ok : KnownSound Tryz.prog K1 := known_ok Ea.meth_ok (leaves1_ok) (fun p hp => by cases hp)
noncomputable abbrev run1 : CallC := callK Tryz.prog K1 (execK Tryz.prog K1 1000)
def lo3 (a b c : Nat) : Nat := Nat.mod (Nat.add (Nat.add a b) c) 18446744073709551616
def hi3 (a b c : Nat) : Nat := Nat.div (Nat.add (Nat.add a b) c) 18446744073709551616
/-- A limb of the sum, and what is carried. -/
def outA (x b t c : Nat) : Nat := lo3 (lo3 (mm x b) t 0) c 0
def carA (x b t c : Nat) : Nat := aa (aa (mulHi x b) (hi3 (mm x b) t 0)) (hi3 (lo3 (mm x b) t 0) c 0)
def ca1 (x b0 t0 : Nat) := carA x b0 t0 0
def ca2 (x b0 b1 t0 t1 : Nat) := carA x b1 t1 (ca1 x b0 t0)
def ca3 (x b0 b1 b2 t0 t1 t2 : Nat) := carA x b2 t2 (ca2 x b0 b1 t0 t1)
def ca4 (x b0 b1 b2 b3 t0 t1 t2 t3 : Nat) := carA x b3 t3 (ca3 x b0 b1 b2 t0 t1 t2)
def addsV (t0 t1 t2 t3 t4 t5 x b0 b1 b2 b3 : Nat) : Value := agg6 (outA x b0 t0 0) (outA x b1 t1 (ca1 x b0 t0)) (outA x b2 t2 (ca2 x b0 b1 t0 t1)) (outA x b3 t3 (ca3 x b0 b1 b2 t0 t1 t2)) (lo3 t4 (ca4 x b0 b1 b2 b3 t0 t1 t2 t3) 0) (aa t5 (hi3 t4 (ca4 x b0 b1 b2 b3 t0 t1 t2 t3) 0))
theorem adds_run (t0 t1 t2 t3 t4 t5 x b0 b1 b2 b3 : Nat) (r : Value → Bool) : run1 212 [agg6 t0 t1 t2 t3 t4 t5, u x, agg4 b0 b1 b2 b3] Hp.none (fun v _ => r v) = r (addsV t0 t1 t2 t3 t4 t5 x b0 b1 b2 b3) := by kernel_rfl
theorem adds_call (t0 t1 t2 t3 t4 t5 x b0 b1 b2 b3 : Nat) : FlatCall Tryz.prog 212 [agg6 t0 t1 t2 t3 t4 t5, u x, agg4 b0 b1 b2 b3] (addsV t0 t1 t2 t3 t4 t5 x b0 b1 b2 b3) := flat_call (soundN K1_ok) rfl rfl (adds_run t0 t1 t2 t3 t4 t5 x b0 b1 b2 b3)
noncomputable def addsC : LeafF := fun args h q => match args with
  | [t, .int .u64 (.ofNat x), y] => six t fun t0 t1 t2 t3 t4 t5 => four y fun b0 b1 b2 b3 => q (addsV t0 t1 t2 t3 t4 t5 x b0 b1 b2 b3) h
  | _ => false
theorem addsC_ok : OneSound Tryz.prog 212 addsC := by
  refine flat_one fun args h k hr => ?_
  unfold addsC at hr
  split at hr
  · rename_i t x y
    obtain ⟨t0, t1, t2, t3, t4, t5, rfl, hr⟩ := six_some (v := t) hr
    obtain ⟨b0, b1, b2, b3, hy, hr⟩ := four_some (v := y) hr
    subst hy
    exact ⟨_, hr, rfl, rfl, adds_call _ _ _ _ _ _ _ _ _ _ _⟩
  · cases hr
end Go.Proofs.YtphfjhpgcdmonaaGreatDoor.Ec
