/- Go's exchange of two ranges, and its rotation, walked. Conditions: those that are named. -/
import Derived.Test.YtagjgofnaplefaaWeO
import Derived.BigRegion
namespace Go.Proofs.Ytagjgofnaplefaa.Wei
open Go.RowKit
open Flo
open Blk (nats)
/-- The place of a list. -/
abbrev at' (l : List Nat) (x : Nat) : Nat := l.getD x 0
theorem swp_at (l : List Nat) (i j x : Nat) (hi : i < l.length) (hj : j < l.length) : (swp l i j).getD x 0 = if x = j then l.getD i 0 else if x = i then l.getD j 0 else l.getD x 0 := by
  unfold swp
  simp only [List.getD_eq_getElem?_getD, List.getElem?_set, List.length_set]
  by_cases h1 : j = x
  · subst h1
    simp [hj]
  · by_cases h2 : i = x
    · subst h2
      rw [if_neg h1, if_pos rfl, if_pos hi, if_neg (fun h => h1 h.symm), if_pos rfl]
      rfl
    · rw [if_neg h1, if_neg h2, if_neg (fun h => h1 h.symm), if_neg (fun h => h2 h.symm)]
/-- Two ranges exchanged. -/
def SwapR (l l' : List Nat) (a b n : Nat) : Prop :=
  l'.length = l.length ∧ ∀ x, l'.getD x 0 = if a ≤ x ∧ x < a + n then l.getD (x + (b - a)) 0 else if b ≤ x ∧ x < b + n then l.getD (x - (b - a)) 0 else l.getD x 0
theorem SwapR.zero (l : List Nat) (a b : Nat) : SwapR l l a b 0 := ⟨rfl, fun x => by rw [if_neg (by omega), if_neg (by omega)]⟩
theorem SwapR.step {l d : List Nat} {a b n : Nat} (h : SwapR l d a b n) (hab : a + n < b) (hb : b + n < l.length) : SwapR l (swp d (a + n) (b + n)) a b (n + 1) := by
  obtain ⟨h1, h2⟩ := h
  refine ⟨(swp_length _ _ _).trans h1, fun x => ?_⟩
  rw [swp_at d _ _ _ (by omega) (by omega), h2, h2, h2]
  by_cases e1 : x = b + n
  · subst e1
    rw [if_pos rfl, if_neg (by omega), if_neg (by omega), if_neg (by omega), if_pos (by omega), show b + n - (b - a) = a + n by omega]
  · rw [if_neg e1]
    by_cases e2 : x = a + n
    · subst e2
      rw [if_pos rfl, if_neg (by omega), if_neg (by omega), if_pos (by omega), show a + n + (b - a) = b + n by omega]
    · rw [if_neg e2]
      by_cases e3 : a ≤ x ∧ x < a + n
      · rw [if_pos e3, if_pos (by omega)]
      · rw [if_neg e3]
        by_cases e4 : b ≤ x ∧ x < b + n
        · rw [if_pos e4, if_neg (by omega), if_pos (by omega)]
        · rw [if_neg e4, if_neg (by omega), if_neg (by omega)]
set_option maxHeartbeats 4000000 in
set_option maxRecDepth 100000 in
theorem swap_any (g cap a b n : Nat) (f : Value) (t : TypeId) (l : List Nat) (w : World) (hb : Blk.Is w g (nats .i64 l) t) (hab : a + n ≤ b) (hbn : b + n ≤ l.length) (hn : l.length ≤ 1000000) :
    Calls Try.prog 39 #[.slice (some ⟨g, 0, none⟩) l.length cap, .int .i64 a, .int .i64 b, .int .i64 n, f] w fun e w' =>
      e = .returned (.tuple #[]) ∧ ∃ l', SwapR l l' a b n ∧ Blk.Is w' g (nats .i64 l') t ∧ Below g w w' := by
  have HB := Lib.hid hb
  have k0 : Below g w w := Below.refl _ _
  clear hb
  generalize hm : l.length = m at *
  have HM := Lib.hid hm
  clear hm
  go_enter Try.func39, Try.ntmps39
  go_wp2_with fail
  go_loopw [10] (fun vi wr => ∃ (i : Nat) (d : List Nat), vi = .int .i64 i ∧ i ≤ n ∧ SwapR l d a b i ∧ Blk.Is wr g (nats .i64 d) t ∧ Below g w wr) (fun i _ => n - (intOf i).toNat)
  case atStart => exact ⟨0, l, rfl, by omega, SwapR.zero _ _ _, HB.out, k0⟩
  case round =>
    clear k0 HB
    obtain ⟨i, d, rfl, hin, hsw, hblk, k1⟩ := hrel
    by_cases hlt : i < n
    · have hlt' : (i : Int) < (n : Int) := by omega
      have hd : d.length = m := hsw.1.trans HM.out
      obtain ⟨x, hx⟩ : ∃ x, x = a + i := ⟨_, rfl⟩
      obtain ⟨y, hy⟩ : ∃ y, y = b + i := ⟨_, rfl⟩
      have ex : (a : Int) + (i : Int) = (x : Int) := by omega
      have ey : (b : Int) + (i : Int) = (y : Int) := by omega
      have hwx : IntKind.i64.wrap (x : Int) = (x : Int) := by rw [IntKind.wrap_i64]; omega
      have hwy : IntKind.i64.wrap (y : Int) = (y : Int) := by rw [IntKind.wrap_i64]; omega
      have hxm : (x : Int) < (m : Int) := by omega
      have hym : (y : Int) < (m : Int) := by omega
      have cx := hblk.nat x (by omega)
      have cy := hblk.nat y (by omega)
      have fx := hblk.frozen x
      have fy := hblk.frozen y
      have B2 : Go.RowKit.Hid (Blk.Is ((wr.drew.setCell ⟨g, x, none⟩ (.int .i64 (d.getD y 0 : Nat))).setCell ⟨g, y, none⟩ (.int .i64 (d.getD x 0 : Nat))) g (nats .i64 (swp d x y)) t) := Lib.hid ((hblk.drew.setNat x _).setNat y _)
      have k2 : Go.RowKit.Hid (Below g w ((wr.drew.setCell ⟨g, x, none⟩ (.int .i64 (d.getD y 0 : Nat))).setCell ⟨g, y, none⟩ (.int .i64 (d.getD x 0 : Nat)))) := Lib.hid (below_put (below_put k1.drew _ _) _ _)
      have HSW : Go.RowKit.Hid (SwapR l (swp d x y) a b (i + 1)) := Lib.hid (by rw [hx, hy]; exact hsw.step (by omega) (by rw [HM.out]; omega))
      generalize d.getD x 0 = u at *
      generalize d.getD y 0 = v at *
      have cx2 : wr.drew.cell? ⟨g, x, none⟩ = some (.int .i64 (u : Int)) := cx
      have cy2 : wr.drew.cell? ⟨g, y, none⟩ = some (.int .i64 (v : Int)) := cy
      have fx2 : wr.drew.frozen? ⟨g, x, none⟩ = false := fx
      have fy2 : wr.drew.frozen? ⟨g, y, none⟩ = false := fy
      clear hblk k1 hsw hx hy
      go_upto_region 3 with (fail)
      go_region
      all_goals clear cx cy fx fy cx2 cy2 fx2 fy2
      all_goals go_wp2
      go_roundw
      case rel => exact ⟨i + 1, swp d x y, by go_num, by omega, HSW.out, B2.out, k2.out⟩
      case measure => simp [intOf]; omega
    · have hd6 : decide ((i : Int) < (n : Int)) = false := decide_eq_false (by omega)
      obtain rfl : i = n := by omega
      go_wp2
      exact ⟨rfl, _, results_none rfl _ _ _, rfl, d, hsw, hblk, k1⟩
end Go.Proofs.Ytagjgofnaplefaa.Wei
