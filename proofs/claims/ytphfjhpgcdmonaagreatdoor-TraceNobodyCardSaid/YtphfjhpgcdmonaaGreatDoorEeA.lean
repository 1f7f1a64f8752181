/- Quotients by a word: what the code does where nothing stands ahead, by runs with free numbers. No condition. -/
import Derived.Test.YtphfjhpgcdmonaaGreatDoorEdA
namespace Go.Proofs.YtphfjhpgcdmonaaGreatDoor.Ee
open Go Go.RowKit Exe Ec Ed
set_option maxRecDepth 100000
theorem div_run (a z : Nat) (r : Value → Bool) : run2 240 [u 0, u a, u (Nat.succ z)] Hp.none (fun v _ => r v) = r (.tuple #[u (Nat.mod (Nat.div a (Nat.succ z)) 18446744073709551616), u (Nat.mod a (Nat.succ z))]) := by kernel_rfl
theorem div_call (a z : Nat) : FlatCall Tryz.prog 240 [u 0, u a, u (Nat.succ z)] (.tuple #[u (Nat.mod (Nat.div a (Nat.succ z)) 18446744073709551616), u (Nat.mod a (Nat.succ z))]) := flat_call (soundN K2_ok) rfl rfl (div_run a z)
theorem succ_of {y : Nat} (h : Nat.beq y 0 = false) : ∃ z, y = Nat.succ z := by
  cases y with
  | zero => cases h
  | succ z => exact ⟨z, rfl⟩
/-- bits.Div64 with nothing ahead. -/
noncomputable def divC : LeafF := fun args h q => match args with
  | [.int .u64 (.ofNat x), .int .u64 (.ofNat a), .int .u64 (.ofNat y)] => Bool.rec false (Bool.rec (q (.tuple #[u (Nat.mod (Nat.div a y) 18446744073709551616), u (Nat.mod a y)]) h) false (Nat.beq y 0)) (Nat.beq x 0)
  | _ => false
theorem divC_ok : OneSound Tryz.prog 240 divC := by
  refine flat_one fun args h k hr => ?_
  unfold divC at hr
  split at hr
  · rename_i x a y
    cases hx : Nat.beq x 0 with
    | false => rw [hx] at hr; cases hr
    | true =>
      rw [hx] at hr
      cases hy : Nat.beq y 0 with
      | true => rw [hy] at hr; cases hr
      | false =>
        rw [hy] at hr
        obtain rfl := Nat.eq_of_beq_eq_true hx
        obtain ⟨z, rfl⟩ := succ_of hy
        exact ⟨_, hr, rfl, rfl, div_call a z⟩
  · cases hr
noncomputable def leaves3 : List (FuncId × LeafF) := (240, divC) :: leaves2
theorem leaves3_ok : ∀ p ∈ leaves3, OneSound Tryz.prog p.1 p.2 := by
  intro p hp
  rcases List.mem_cons.1 hp with rfl | hp
  · exact divC_ok
  · exact leaves2_ok p hp
noncomputable def K3 : KnownC := KnownC.of leaves3 []
theorem K3_ok : KnownSound Tryz.prog K3 := known_ok Ea.meth_ok (leaves3_ok) (fun p hp => by cases hp)
noncomputable abbrev run3 : CallC := callK Tryz.prog K3 (execK Tryz.prog K3 1000)
def dq (a m : Nat) : Nat := Nat.mod (Nat.div a m) 18446744073709551616
def shortV (a m : Nat) : Value := .tuple #[agg4 (dq a m) (dq 0 m) (dq 0 m) (dq 0 m), agg4 (Nat.mod a m) 0 0 0]
theorem short_run (a z : Nat) (r : Value → Bool) : run3 209 [agg4 a 0 0 0, u 0, u (Nat.succ z)] Hp.none (fun v _ => r v) = r (shortV a (Nat.succ z)) := by kernel_rfl
theorem short_call (a z : Nat) : FlatCall Tryz.prog 209 [agg4 a 0 0 0, u 0, u (Nat.succ z)] (shortV a (Nat.succ z)) := flat_call (soundN K3_ok) rfl rfl (short_run a z)
/-- wide.short of one word. -/
noncomputable def shortC : LeafF := fun args h q => match args with
  | [x, .int .u64 (.ofNat l), .int .u64 (.ofNat m)] => four x fun a0 a1 a2 a3 => Bool.rec false (Bool.rec (q (shortV a0 m) h) false (Nat.beq m 0)) (Nat.beq (Nat.add (Nat.add a1 a2) (Nat.add a3 l)) 0)
  | _ => false
theorem shortC_ok : OneSound Tryz.prog 209 shortC := by
  refine flat_one fun args h k hr => ?_
  unfold shortC at hr
  split at hr
  · rename_i x l m
    obtain ⟨a0, a1, a2, a3, hx, hr1⟩ := four_some (v := x) hr
    clear hr
    subst hx
    cases hz : Nat.beq (Nat.add (Nat.add a1 a2) (Nat.add a3 l)) 0 with
    | false => rw [hz] at hr1; cases hr1
    | true =>
      rw [hz] at hr1
      have h0 : a1 + a2 + (a3 + l) = 0 := Nat.eq_of_beq_eq_true hz
      obtain rfl : a1 = 0 := by omega
      obtain rfl : a2 = 0 := by omega
      obtain rfl : a3 = 0 := by omega
      obtain rfl : l = 0 := by omega
      cases hm : Nat.beq m 0 with
      | true => rw [hm] at hr1; cases hr1
      | false =>
        rw [hm] at hr1
        obtain ⟨z, rfl⟩ := succ_of hm
        exact ⟨_, hr1, rfl, rfl, short_call a0 z⟩
  · cases hr
end Go.Proofs.YtphfjhpgcdmonaaGreatDoor.Ee
