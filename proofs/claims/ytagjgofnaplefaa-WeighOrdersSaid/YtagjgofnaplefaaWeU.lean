/- Go's rotation of a range, walked. Conditions: those that are named. -/
import Derived.Test.YtagjgofnaplefaaWeT
namespace Go.Proofs.Ytagjgofnaplefaa.Wei
open Go.RowKit
open Flo
open Blk (nats)
/-- A range rotated. -/
def Rot (l l' : List Nat) (s m e : Nat) : Prop :=
  l'.length = l.length ∧ ∀ x, l'.getD x 0 = if s ≤ x ∧ x < s + (e - m) then l.getD (x + (m - s)) 0 else if s + (e - m) ≤ x ∧ x < e then l.getD (x - (e - m)) 0 else l.getD x 0
theorem rot_a {d d' l' : List Nat} {m i j : Nat} (hi : i ≤ m) (hij : j < i) (h : SwapR d d' (m - i) m j) (h' : Rot d' l' (m - (i - j)) m (m + j)) : Rot d l' (m - i) m (m + j) := by
  refine ⟨h'.1.trans h.1, fun x => ?_⟩
  rw [h'.2 x]
  simp only [h.2]
  repeat' split
  all_goals first | (exfalso; omega) | (congr 1 <;> omega)
theorem rot_b {d d' l' : List Nat} {m i j : Nat} (hi : i ≤ m) (hij : i < j) (h : SwapR d d' (m - i) (m + j - i) i) (h' : Rot d' l' (m - i) m (m + (j - i))) : Rot d l' (m - i) m (m + j) := by
  refine ⟨h'.1.trans h.1, fun x => ?_⟩
  rw [h'.2 x]
  simp only [h.2]
  repeat' split
  all_goals first | (exfalso; omega) | (congr 1 <;> omega)
theorem rot_c {d d' : List Nat} {m i : Nat} (hi : i ≤ m) (h : SwapR d d' (m - i) m i) : Rot d d' (m - i) m (m + i) := by
  refine ⟨h.1, fun x => ?_⟩
  rw [h.2 x]
  repeat' split
  all_goals first | (exfalso; omega) | (congr 1 <;> omega)
theorem rot_nil (l : List Nat) (s m e : Nat) (h : s = m ∧ m ≤ e ∨ m = e ∧ s ≤ m) : Rot l l s m e := by
  refine ⟨rfl, fun x => ?_⟩
  repeat' split
  all_goals first | (exfalso; omega) | (congr 1 <;> omega)
set_option maxHeartbeats 4000000 in
set_option maxRecDepth 100000 in
theorem rotate_any (g cap a m b : Nat) (f : Value) (t : TypeId) (l : List Nat) (w : World) (hb : Blk.Is w g (nats .i64 l) t) (ham : a < m) (hmb : m < b) (hbl : b ≤ l.length) (hn : l.length ≤ 1000000) :
    Calls Try.prog 38 #[.slice (some ⟨g, 0, none⟩) l.length cap, .int .i64 a, .int .i64 m, .int .i64 b, f] w fun e w' =>
      e = .returned (.tuple #[]) ∧ ∃ l', Rot l l' a m b ∧ Blk.Is w' g (nats .i64 l') t ∧ Below g w w' := by
  have HB := Lib.hid hb
  have k0 : Below g w w := Below.refl _ _
  clear hb
  generalize hm : l.length = z at *
  have HM := Lib.hid hm
  clear hm
  obtain ⟨i0, hi0⟩ : ∃ i0, i0 = m - a := ⟨_, rfl⟩
  obtain ⟨j0, hj0⟩ : ∃ j0, j0 = b - m := ⟨_, rfl⟩
  have ei : (m : Int) - (a : Int) = (i0 : Int) := by omega
  have ej : (b : Int) - (m : Int) = (j0 : Int) := by omega
  have hwi : IntKind.i64.wrap (i0 : Int) = (i0 : Int) := by rw [IntKind.wrap_i64]; omega
  have hwj : IntKind.i64.wrap (j0 : Int) = (j0 : Int) := by rw [IntKind.wrap_i64]; omega
  have HI0 := Lib.hid hi0
  have HJ0 := Lib.hid hj0
  have i0p : 0 < i0 ∧ i0 ≤ m ∧ i0 ≤ z := by omega
  have j0p : 0 < j0 ∧ m + j0 ≤ z := by omega
  clear hi0 hj0
  go_enter Try.func38, Try.ntmps38
  go_wp2_with fail
  clear ei ej hwi hwj
  go_loopw [10, 11] (fun vi vj wr => ∃ (i j : Nat) (d : List Nat), vi = .int .i64 i ∧ vj = .int .i64 j ∧ 0 < i ∧ 0 < j ∧ i ≤ i0 ∧ j ≤ j0 ∧ d.length = z ∧ Hid (∀ l', Rot d l' (m - i) m (m + j) → Rot l l' a m b) ∧ Blk.Is wr g (nats .i64 d) t ∧ Below g w wr) (fun i j _ => (intOf i).toNat + (intOf j).toNat)
  case atStart => exact ⟨i0, j0, l, rfl, rfl, by omega, by omega, by omega, by omega, HM.out, Lib.hid (fun l' h => by rw [HI0.out, HJ0.out, show m - (m - a) = a by omega, show m + (b - m) = b by omega] at h; exact h), HB.out, k0⟩
  case round =>
    clear k0 HB
    obtain ⟨i, j, d, rfl, rfl, hi, hj, hii, hjj, hd, HR, hblk, k1⟩ := hrel
    rcases Nat.lt_trichotomy i j with hij | hij | hij
    · have c1 : ((i : Int) != (j : Int)) = true := by rw [bne_iff_ne]; omega
      have c2 : decide ((j : Int) < (i : Int)) = false := decide_eq_false (by omega)
      obtain ⟨x, hx⟩ : ∃ x, x = m - i := ⟨_, rfl⟩
      obtain ⟨y, hy⟩ : ∃ y, y = m + j - i := ⟨_, rfl⟩
      obtain ⟨p, hp⟩ : ∃ p, p = j - i := ⟨_, rfl⟩
      have ex : (m : Int) - (i : Int) = (x : Int) := by omega
      have ey : (m : Int) + (j : Int) - (i : Int) = (y : Int) := by omega
      have ep : (j : Int) - (i : Int) = (p : Int) := by omega
      have hwx : IntKind.i64.wrap (x : Int) = (x : Int) := by rw [IntKind.wrap_i64]; omega
      have hwy : IntKind.i64.wrap (y : Int) = (y : Int) := by rw [IntKind.wrap_i64]; omega
      have hwp : IntKind.i64.wrap (p : Int) = (p : Int) := by rw [IntKind.wrap_i64]; omega
      have hws : IntKind.i64.wrap ((m : Int) + (j : Int)) = (m : Int) + (j : Int) := by rw [IntKind.wrap_i64]; omega
      have hcall := swap_any g cap x y i f t d wr hblk (by omega) (by omega) (by omega)
      rw [hd] at hcall
      have HCL := Lib.hid hcall
      have HX := Lib.hid hx
      have HY := Lib.hid hy
      have HP := Lib.hid hp
      clear hcall hx hy hp
      go_wp2_with fail
      refine HCL.out.mono ?_
      rintro e w1 ⟨rfl, d', S1, B1, k2⟩
      have k3 := k1.trans k2
      have SW := Lib.hid S1
      clear S1 k2 HCL k1 hblk
      go_wp2_with fail
      have hd' : d'.length = z := SW.out.1.trans hd
      have HR' : Go.RowKit.Hid (∀ l', Rot d' l' (m - i) m (m + p) → Rot l l' a m b) := Lib.hid (fun l' h => HR.out l' (rot_b (by omega) hij (by rw [← HX.out, ← HY.out]; exact SW.out) (by rw [← HP.out]; exact h)))
      have pp : 0 < p ∧ p < j := by have := HP.out; omega
      clear ex ey ep
      go_roundw
      case rel => exact ⟨i, p, d', by go_num, by go_num, hi, pp.1, hii, by omega, hd', HR', B1, k3⟩
      case measure => simp [intOf]; omega
    · subst hij
      have c1 : ((i : Int) != (i : Int)) = false := bne_self_eq_false _
      obtain ⟨x, hx⟩ : ∃ x, x = m - i := ⟨_, rfl⟩
      have ex : (m : Int) - (i : Int) = (x : Int) := by omega
      have hwx : IntKind.i64.wrap (x : Int) = (x : Int) := by rw [IntKind.wrap_i64]; omega
      have hcall := swap_any g cap x m i f t d wr hblk (by omega) (by omega) (by omega)
      rw [hd] at hcall
      have HCL := Lib.hid hcall
      have HX := Lib.hid hx
      clear hcall hx
      go_wp2_with fail
      refine HCL.out.mono ?_
      rintro e w1 ⟨rfl, d', S1, B1, k2⟩
      have k3 := k1.trans k2
      have RR := Lib.hid (HR.out d' (rot_c (by omega) (by rw [← HX.out]; exact S1)))
      clear S1 k2 HCL k1 hblk
      go_wp2
      exact ⟨rfl, _, results_none rfl _ _ _, rfl, d', RR.out, B1, k3⟩
    · have c1 : ((i : Int) != (j : Int)) = true := by rw [bne_iff_ne]; omega
      have c2 : decide ((j : Int) < (i : Int)) = true := decide_eq_true (by omega)
      have c3 : (j : Int) < (i : Int) := by omega
      obtain ⟨x, hx⟩ : ∃ x, x = m - i := ⟨_, rfl⟩
      obtain ⟨p, hp⟩ : ∃ p, p = i - j := ⟨_, rfl⟩
      have ex : (m : Int) - (i : Int) = (x : Int) := by omega
      have ep : (i : Int) - (j : Int) = (p : Int) := by omega
      have hwx : IntKind.i64.wrap (x : Int) = (x : Int) := by rw [IntKind.wrap_i64]; omega
      have hwp : IntKind.i64.wrap (p : Int) = (p : Int) := by rw [IntKind.wrap_i64]; omega
      have hcall := swap_any g cap x m j f t d wr hblk (by omega) (by omega) (by omega)
      rw [hd] at hcall
      have HCL := Lib.hid hcall
      have HX := Lib.hid hx
      have HP := Lib.hid hp
      clear hcall hx hp
      go_wp2_with fail
      refine HCL.out.mono ?_
      rintro e w1 ⟨rfl, d', S1, B1, k2⟩
      have k3 := k1.trans k2
      have SW := Lib.hid S1
      clear S1 k2 HCL k1 hblk
      go_wp2_with fail
      have hd' : d'.length = z := SW.out.1.trans hd
      have HR' : Go.RowKit.Hid (∀ l', Rot d' l' (m - p) m (m + j) → Rot l l' a m b) := Lib.hid (fun l' h => HR.out l' (rot_a (by omega) hij (by rw [← HX.out]; exact SW.out) (by rw [← HP.out]; exact h)))
      have pp : 0 < p ∧ p < i := by have := HP.out; omega
      clear ex ep
      go_roundw
      case rel => exact ⟨p, j, d', by go_num, by go_num, pp.1, hj, by omega, hjj, hd', HR', B1, k3⟩
      case measure => simp [intOf]; omega
end Go.Proofs.Ytagjgofnaplefaa.Wei
