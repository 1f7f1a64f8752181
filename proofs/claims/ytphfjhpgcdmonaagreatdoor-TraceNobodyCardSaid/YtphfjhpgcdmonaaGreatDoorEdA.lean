/- (*mont.Ring).redc: what the code does, by a run with free numbers. No condition. -/
import Derived.Test.YtphfjhpgcdmonaaGreatDoorEcA
namespace Go.Proofs.YtphfjhpgcdmonaaGreatDoor.Ed
open Go Go.RowKit Exe Ec
set_option maxRecDepth 100000
noncomputable def leaves2 : List (FuncId × LeafF) := (212, addsC) :: (130, cmpC) :: (165, subC) :: leaves1
theorem leaves2_ok : ∀ p ∈ leaves2, OneSound Tryz.prog p.1 p.2 := by
  intro p hp
  rcases List.mem_cons.1 hp with rfl | hp
  · exact addsC_ok
  rcases List.mem_cons.1 hp with rfl | hp
  · exact cmpC_ok
  rcases List.mem_cons.1 hp with rfl | hp
  · exact subC_ok
  · exact leaves1_ok p hp
noncomputable def K2 : KnownC := KnownC.of leaves2 []
theorem K2_ok : KnownSound Tryz.prog K2 := known_ok Ea.meth_ok (leaves2_ok) (fun p hp => by cases hp)
noncomputable abbrev run2 : CallC := callK Tryz.prog K2 (execK Tryz.prog K2 1000)
structure S4 where
  a : Nat
  b : Nat
  c : Nat
  d : Nat
structure S6 where
  a : Nat
  b : Nat
  c : Nat
  d : Nat
  e : Nat
  f : Nat
def adds6 (t : S6) (x : Nat) (b : S4) : S6 := ⟨outA x b.a t.a 0, outA x b.b t.b (ca1 x b.a t.a), outA x b.c t.c (ca2 x b.a b.b t.a t.b), outA x b.d t.d (ca3 x b.a b.b b.c t.a t.b t.c),
  lo3 t.e (ca4 x b.a b.b b.c b.d t.a t.b t.c t.d) 0, aa t.f (hi3 t.e (ca4 x b.a b.b b.c b.d t.a t.b t.c t.d) 0)⟩
def shift6 (t : S6) : S6 := ⟨t.b, t.c, t.d, t.e, t.f, 0⟩
def round6 (m : S4) (inv : Nat) (b : S4) (t : S6) (x : Nat) : S6 := shift6 (adds6 (adds6 t x b) (mm (adds6 t x b).a inv) m)
def redcT (m : S4) (inv : Nat) (a b : S4) : S6 := round6 m inv b (round6 m inv b (round6 m inv b (round6 m inv b ⟨0, 0, 0, 0, 0, 0⟩ a.a) a.b) a.c) a.d
def low4 (t : S6) : Value := agg4 t.a t.b t.c t.d
noncomputable def less4 (t : S6) (m : S4) : Value := agg4 (dl t.a m.a 0) (dl t.b m.b (cb (bo t.a m.a 0))) (dl t.c m.c (cb (bo t.b m.b (cb (bo t.a m.a 0))))) (dl t.d m.d (cb (bo t.c m.c (cb (bo t.b m.b (cb (bo t.a m.a 0)))))))
def signB (x y : Bool) : Value → Bool
  | .int _ (.negSucc _) => x
  | _ => y
noncomputable def redcR (t : S6) (m : S4) (r : Value → Bool) : Bool := Bool.rec (cmpT t.a t.b t.c t.d m.a m.b m.c m.d (signB (r (low4 t)) (r (less4 t m)))) (r (less4 t m)) (Bool.rec true false (Nat.beq t.e 0))
theorem redc_run (m0 m1 m2 m3 inv c0 c1 c2 c3 c4 c5 c6 c7 a0 a1 a2 a3 b0 b1 b2 b3 : Nat) (r : Value → Option Blk → Bool) :
    run2 175 [.pointer (some ⟨1, 0, none⟩), agg4 a0 a1 a2 a3, agg4 b0 b1 b2 b3] (Hp.one [u m0, u m1, u m2, u m3, u inv, u c0, u c1, u c2, u c3, u c4, u c5, u c6, u c7] 235) (fun v h' => r v (h'.get 1)) =
    redcR (redcT ⟨m0, m1, m2, m3⟩ inv ⟨a0, a1, a2, a3⟩ ⟨b0, b1, b2, b3⟩) ⟨m0, m1, m2, m3⟩ (fun v => r v (some (Blk.of [u m0, u m1, u m2, u m3, u inv, u c0, u c1, u c2, u c3, u c4, u c5, u c6, u c7] 235 false))) := by kernel_rfl
noncomputable def redcV (t : S6) (m : S4) : Value := Bool.rec (motive := fun _ => Value) (Int.rec (motive := fun _ => Value) (fun _ => less4 t m) (fun _ => low4 t) (cz t.a t.b t.c t.d m.a m.b m.c m.d)) (less4 t m) (Bool.rec true false (Nat.beq t.e 0))
theorem redc_val (t : S6) (m : S4) (r : Value → Bool) : redcR t m r = r (redcV t m) := by
  unfold redcR redcV
  rw [cmp_val]
  cases (Bool.rec true false (Nat.beq t.e 0) : Bool) with
  | true => rfl
  | false => cases cz t.a t.b t.c t.d m.a m.b m.c m.d <;> rfl
theorem redcV_flat (t : S6) (m : S4) : flatB (redcV t m) = true := by
  unfold redcV
  cases (Bool.rec true false (Nat.beq t.e 0) : Bool) with
  | true => rfl
  | false => cases cz t.a t.b t.c t.d m.a m.b m.c m.d <;> rfl
/-- The words of a row. -/
def words : List Value → Option (List Nat)
  | [] => some []
  | .int .u64 (.ofNat a) :: vs => match words vs with
    | some ns => some (a :: ns)
    | none => none
  | _ => none
theorem words_some : ∀ {vs : List Value} {ns : List Nat}, words vs = some ns → vs = ns.map fun n => u n
  | [], ns, h => by cases h; rfl
  | v :: vs, ns, h => by
    unfold words at h
    split at h
    · rename_i e; cases e
    · rename_i a vs' e
      cases e
      cases hw : words vs with
      | none => rw [hw] at h; cases h
      | some ms =>
        rw [hw] at h
        cases h
        rw [List.map_cons, ← words_some hw]
    · cases h
/-- A ring's modulus, and the word that makes it vanish. -/
noncomputable def ringOf (h : Hp) (i : Nat) (k : S4 → Nat → Bool) : Bool := match h.get i with
  | some blk => bif Nat.beq blk.elem 235 && !blk.grow then (match words blk.cells with
    | some [m0, m1, m2, m3, inv, _, _, _, _, _, _, _, _] => k ⟨m0, m1, m2, m3⟩ inv
    | _ => false) else false
  | none => false
abbrev ring13 (m : S4) (inv c0 c1 c2 c3 c4 c5 c6 c7 : Nat) : List Value := [u m.a, u m.b, u m.c, u m.d, u inv, u c0, u c1, u c2, u c3, u c4, u c5, u c6, u c7]
theorem ring_some {h : Hp} {i : Nat} {k : S4 → Nat → Bool} (hr : ringOf h i k = true) : ∃ blk m inv c0 c1 c2 c3 c4 c5 c6 c7, h.get i = some blk ∧ blk.elem = 235 ∧ blk.grow = false ∧ blk.cells = ring13 m inv c0 c1 c2 c3 c4 c5 c6 c7 ∧ k m inv = true := by
  unfold ringOf at hr
  cases hb : h.get i with
  | none => rw [hb] at hr; cases hr
  | some blk =>
    rw [hb] at hr
    dsimp only at hr
    cases hc : (Nat.beq blk.elem 235 && !blk.grow) with
    | false => rw [hc] at hr; cases hr
    | true =>
      rw [hc, cond_true] at hr
      simp only [Bool.and_eq_true, Bool.not_eq_true'] at hc
      split at hr
      · rename_i m0 m1 m2 m3 inv c0 c1 c2 c3 c4 c5 c6 c7 hw
        exact ⟨blk, ⟨m0, m1, m2, m3⟩, inv, c0, c1, c2, c3, c4, c5, c6, c7, rfl, Nat.eq_of_beq_eq_true hc.1, hc.2, words_some hw, hr⟩
      · cases hr
noncomputable def redcC : LeafF := fun args h q => match args with
  | [.pointer (some ⟨i, 0, none⟩), x, y] => four x fun a0 a1 a2 a3 => four y fun b0 b1 b2 b3 => ringOf h i fun m inv => redcR (redcT m inv ⟨a0, a1, a2, a3⟩ ⟨b0, b1, b2, b3⟩) m fun v => q v h
  | _ => false
theorem redcC_ok : OneSound Tryz.prog 175 redcC := by
  intro args h k hr
  unfold redcC at hr
  split at hr
  · rename_i i x y
    obtain ⟨a0, a1, a2, a3, hx, hr1⟩ := four_some (v := x) hr
    obtain ⟨b0, b1, b2, b3, hy, hr3⟩ := four_some (v := y) hr1
    clear hr hr1
    subst hx hy
    obtain ⟨blk, m, inv, c0, c1, c2, c3, c4, c5, c6, c7, hblk, he, hg, hcells, hr⟩ := ring_some hr3
    have hr2 := (redc_val (redcT m inv ⟨a0, a1, a2, a3⟩ ⟨b0, b1, b2, b3⟩) m (fun v => k v h)).symm.trans hr
    refine ⟨_, h, hr2, fun E w args' W hA => ?_⟩
    match args', hA with
    | [p', x', y'], hA =>
      obtain ⟨b, hρ, rfl⟩ := hA.1.to_ptr
      obtain rfl := hA.2.1.of_flat rfl
      obtain rfl := hA.2.2.1.of_flat rfl
      have hpc := ptr_call (soundN K2_ok) (g := 175) (cells := ring13 m inv c0 c1 c2 c3 c4 c5 c6 c7) (t := 235) (rest := [agg4 a0 a1 a2 a3, agg4 b0 b1 b2 b3]) rfl rfl (redcV_flat _ _)
        (fun r => (redc_run m.a m.b m.c m.d inv c0 c1 c2 c3 c4 c5 c6 c7 a0 a1 a2 a3 b0 b1 b2 b3 r).trans (redc_val _ _ _)) W hblk hρ hcells he hg
      rcases hpc with ⟨h1, h2⟩ | ⟨w', h1, h2⟩
      · refine .inl ⟨h1, Calls.mono h2 fun e w' he => ?_⟩
        exact ⟨_, he.1, E, Grow.refl E h, .refl_flat (redcV_flat _ _), he.2⟩
      · exact .inr ⟨_, w', h1, E, Grow.refl E h, .refl_flat (redcV_flat _ _), h2⟩
  · cases hr
end Go.Proofs.YtphfjhpgcdmonaaGreatDoor.Ed
