/- Go's merge in place where the right part is of one entry, walked. Conditions: those that are named. -/
import Derived.Test.YtagjgofnaplefaaWeW
namespace Go.Proofs.Ytagjgofnaplefaa.Wei
open Go.RowKit
open Flo
open Blk (nats)
set_option maxHeartbeats 4000000 in
set_option maxRecDepth 100000 in
theorem sym_b (n c g cap a m b : Nat) (K : Nat → Int) (t : TypeId) (l : List Nat) (w : World) (hcmp : Cmp n K c g w) (hb : Blk.Is w g (nats .i64 l) t) (hlt : ∀ x, x < l.length → l.getD x 0 < n) (hm : b = m + 1) (ham : a < m) (hno : m ≠ a + 1) (hbl : b ≤ l.length) (hn : l.length ≤ 1000000)
    (hr : Sor K l a m) (hap : Apart l a m b) :
    Calls Try.prog 37 #[.slice (some ⟨g, 0, none⟩) l.length cap, .int .i64 a, .int .i64 m, .int .i64 b, clo c] w fun e w' =>
      e = .returned (.tuple #[]) ∧ ∃ l', Sor K l' a b ∧ Mix a b l l' ∧ Blk.Is w' g (nats .i64 l') t ∧ Below g w w' := by
  have HC := Lib.hid hcmp
  have HB := Lib.hid hb
  have HLT := Lib.hid hlt
  have HR := Lib.hid hr
  have HAP := Lib.hid hap
  have k0 : Below g w w := Below.refl _ _
  clear hcmp hb hlt hr hap
  generalize hz : l.length = z at *
  have HZ := Lib.hid hz
  have HM := Lib.hid hm
  obtain ⟨r, hrr⟩ : ∃ r, r = m - a := ⟨_, rfl⟩
  have c0 : (m : Int) - (a : Int) = (r : Int) := by omega
  have hwr : IntKind.i64.wrap (r : Int) = (r : Int) := by rw [IntKind.wrap_i64]; omega
  have c1 : ((r : Int) == 1) = false := by rw [beq_eq_false_iff_ne]; omega
  have c1' : decide ((r : Int) = 1) = false := decide_eq_false (by omega)
  have c1'' : ¬ (r : Int) = 1 := by omega
  have c2 : (b : Int) - (m : Int) = 1 := by omega
  have bm : a < m ∧ m < z ∧ m < b := by omega
  clear hz hm hrr hno
  go_enter Try.func37, Try.ntmps37
  go_wp2_with fail
  clear c0 c1 c1' c1'' hwr c2
  go_loopw [14, 15, 16] (fun vi vj _ wr => ∃ (i j : Nat), vi = .int .i64 i ∧ vj = .int .i64 j ∧ a ≤ i ∧ i ≤ j ∧ j ≤ m ∧ Hid ((i = a ∨ lx K (l.getD (i - 1) 0) (l.getD m 0)) ∧ (j = m ∨ lx K (l.getD m 0) (l.getD j 0))) ∧ Blk.Is wr g (nats .i64 l) t ∧ Below g w wr) (fun i j _ _ => (intOf j).toNat - (intOf i).toNat)
  case atStart => exact ⟨a, m, rfl, rfl, by omega, by omega, by omega, Lib.hid ⟨.inl rfl, .inl rfl⟩, HB.out, k0⟩
  case round =>
    clear k0 HB
    obtain ⟨i, j, rfl, rfl, hmi, hij, hjm, HE, hblk, k1⟩ := hrel
    by_cases hlt : i < j
    · have hlt' : (i : Int) < (j : Int) := by omega
      obtain ⟨h, hh⟩ : ∃ h, h = (i + j) / 2 := ⟨_, rfl⟩
      have eh : ((i : Int) + (j : Int)) / 2 = (h : Int) := by omega
      have hih : i ≤ h ∧ h < j := by omega
      have hhz : (h : Int) < (z : Int) := by omega
      have hmz : (m : Int) < (z : Int) := by omega
      have ch := hblk.nat h (by rw [HZ.out]; omega)
      have ca := hblk.nat m (by rw [HZ.out]; omega)
      have hx := HLT.out h (by omega)
      have hy := HLT.out m (by omega)
      have hau := HAP.out h m (by omega) (by omega) (by omega) (by omega)
      have HBK := Lib.hid hblk
      have hbs : g ≤ wr.drew.heap.size := Nat.le_of_lt hblk.lt
      have hkx : ∀ x : Cls.Wd (Cls.Kept wr.drew), Below g w x.w := fun x => k1.drew.trans (x.ok.mono hbs)
      have hcall := fun (u : Cls.Wd (Cls.Kept wr.drew)) => HC.out u.w _ _ (hkx u) hy hx
      have HE1 : Go.RowKit.Hid (K (l.getD m 0) < K (l.getD h 0) → lx K (l.getD m 0) (l.getD h 0)) := Lib.hid (fun h => .inl h)
      have HE2 : Go.RowKit.Hid (¬ K (l.getD m 0) < K (l.getD h 0) → lx K (l.getD h 0) (l.getD m 0)) := Lib.hid (fun h => lx_right hau h)
      have HD := Lib.hid (cmp3_neg (K (l.getD m 0)) (K (l.getD h 0)))
      have HEE := HE
      clear hh hau hblk
      generalize hu : l.getD h 0 = u at *
      generalize hv : l.getD m 0 = v at *
      have HU := Lib.hid hu
      clear hu hv
      by_cases hxy : K v < K u
      · have HD' : Go.RowKit.Hid (decide (cmp3 (K v) (K u) < 0) = true) := Lib.hid (by rw [HD.out]; exact decide_eq_true hxy)
        have HN : Go.RowKit.Hid ((i = a ∨ lx K (l.getD (i - 1) 0) v) ∧ (h = m ∨ lx K v (l.getD h 0))) := Lib.hid ⟨HEE.out.1, .inr (by rw [HU.out]; exact HE1.out hxy)⟩
        clear HD hxy
        generalize cmp3 (K v) (K u) = y at hcall HD'
        have hz := HD'.out
        have HCL := Lib.hid hcall
        clear hcall
        go_upto_region 17 with (fail)
        have q1 := Cls.Wd.cell (w0 := wr.drew) ch
        have q2 := Cls.Wd.cell (w0 := wr.drew) ca
        refine Cls.region_cls (S := Cls.Kept _) (by kernel_rfl) (by kernel_rfl) (Below.refl _ _) ?_
        iterate 12 (go_big_quiet_step (first | (go_at_call 31; with_reducible refine Cls.calls_kept (HCL.out _)) | fail))
        refine wpQuiet_nil ?_
        intro w3 hw3
        have k3 : Below g w w3 := hkx ⟨w3, hw3⟩
        have B3 := Lib.hid (HBK.out.drew.below hw3)
        clear q1 q2 ch ca hkx HCL HBK hw3 k1
        go_wp2
        go_roundw
        case rel => exact ⟨i, h, rfl, rfl, by omega, by omega, by omega, HN, B3.out, k3⟩
        case measure => simp [intOf]; omega
      · have HD' : Go.RowKit.Hid (decide (cmp3 (K v) (K u) < 0) = false) := Lib.hid (by rw [HD.out]; exact decide_eq_false hxy)
        have HN : Go.RowKit.Hid ((h + 1 = a ∨ lx K (l.getD (h + 1 - 1) 0) v) ∧ (j = m ∨ lx K v (l.getD j 0))) := Lib.hid ⟨.inr (by rw [Nat.add_sub_cancel, HU.out]; exact HE2.out hxy), HEE.out.2⟩
        clear HD hxy
        generalize cmp3 (K v) (K u) = y at hcall HD'
        have hz := HD'.out
        have HCL := Lib.hid hcall
        clear hcall
        go_upto_region 17 with (fail)
        have q1 := Cls.Wd.cell (w0 := wr.drew) ch
        have q2 := Cls.Wd.cell (w0 := wr.drew) ca
        refine Cls.region_cls (S := Cls.Kept _) (by kernel_rfl) (by kernel_rfl) (Below.refl _ _) ?_
        iterate 12 (go_big_quiet_step (first | (go_at_call 31; with_reducible refine Cls.calls_kept (HCL.out _)) | fail))
        refine wpQuiet_nil ?_
        intro w3 hw3
        have k3 : Below g w w3 := hkx ⟨w3, hw3⟩
        have B3 := Lib.hid (HBK.out.drew.below hw3)
        clear q1 q2 ch ca hkx HCL HBK hw3 k1
        go_wp2
        go_roundw
        case rel => exact ⟨h + 1, j, by go_num, rfl, by omega, by omega, by omega, HN, B3.out, k3⟩
        case measure => simp [intOf]; omega
    · obtain rfl : i = j := by omega
      have hlt' : ¬ (i : Int) < (i : Int) := by omega
      have hia : i < z ∧ i ≤ m := by omega
      have HST : Go.RowKit.Hid (Rot l l m m (m + 1)) := Lib.hid (rot_nil _ _ _ _ (.inl ⟨rfl, by omega⟩))
      go_wp2_with fail
      go_loopw [17] (fun vk wr => ∃ (k : Nat) (d : List Nat), vk = .int .i64 k ∧ i ≤ k ∧ k ≤ m ∧ d.length = z ∧ Hid (Rot l d k m (m + 1)) ∧ Blk.Is wr g (nats .i64 d) t ∧ Below g w wr) (fun k _ => (intOf k).toNat)
      case atStart => exact ⟨m, l, rfl, by omega, by omega, HZ.out, HST, hblk, k1⟩
      case round =>
        clear hblk k1 HST
        obtain ⟨k, d, rfl, hik, hkm, hd, HRT, hblk, k1⟩ := hrel
        by_cases hlt : i < k
        · have hlt2 : (i : Int) < (k : Int) := by omega
          obtain ⟨x, hx⟩ : ∃ x, x = k - 1 := ⟨_, rfl⟩
          have hxk : k = x + 1 := by omega
          have ex : (k : Int) - 1 = (x : Int) := by omega
          have hwx : IntKind.i64.wrap (x : Int) = (x : Int) := by rw [IntKind.wrap_i64]; omega
          have hkz : (k : Int) < (z : Int) := by omega
          have hxz : (x : Int) < (z : Int) := by omega
          have cx := hblk.nat k (by omega)
          have cy := hblk.nat x (by omega)
          have fx := hblk.frozen k
          have fy := hblk.frozen x
          have B2 : Go.RowKit.Hid (Blk.Is ((wr.drew.setCell ⟨g, k, none⟩ (.int .i64 (d.getD x 0 : Nat))).setCell ⟨g, x, none⟩ (.int .i64 (d.getD k 0 : Nat))) g (nats .i64 (swp d k x)) t) := Lib.hid ((hblk.drew.setNat k _).setNat x _)
          have k2 : Go.RowKit.Hid (Below g w ((wr.drew.setCell ⟨g, k, none⟩ (.int .i64 (d.getD x 0 : Nat))).setCell ⟨g, x, none⟩ (.int .i64 (d.getD k 0 : Nat)))) := Lib.hid (below_put (below_put k1.drew _ _) _ _)
          have HSW : Go.RowKit.Hid (Rot l (swp d k x) x m (m + 1)) := Lib.hid (by rw [hxk]; exact rot_down (by rw [← hxk]; exact HRT.out) (by omega) (by rw [HZ.out]; omega))
          have HL : Go.RowKit.Hid ((swp d k x).length = z) := Lib.hid ((swp_length _ _ _).trans hd)
          have bx : i ≤ x ∧ x ≤ m ∧ x < k := by omega
          generalize d.getD k 0 = u at *
          generalize d.getD x 0 = v at *
          have cx2 : wr.drew.cell? ⟨g, k, none⟩ = some (.int .i64 (u : Int)) := cx
          have cy2 : wr.drew.cell? ⟨g, x, none⟩ = some (.int .i64 (v : Int)) := cy
          have fx2 : wr.drew.frozen? ⟨g, k, none⟩ = false := fx
          have fy2 : wr.drew.frozen? ⟨g, x, none⟩ = false := fy
          clear hblk k1 hx hxk
          go_upto_region 23 with (fail)
          go_region
          all_goals clear cx cy fx fy cx2 cy2 fx2 fy2
          all_goals go_wp2
          clear ex
          go_roundw
          case rel => exact ⟨x, swp d k x, by go_num, bx.1, bx.2.1, HL.out, HSW, B2.out, k2.out⟩
          case measure => simp [intOf]; omega
        · have hlt2 : decide ((k : Int) > (i : Int)) = false := decide_eq_false (by omega)
          obtain rfl : k = i := by omega
          have HF : Go.RowKit.Hid (Sor K d a b ∧ Mix a b l d) := Lib.hid (by
            have hr := HRT.out
            have he := HE.out
            rw [HM.out]
            exact ⟨one_right hmi hjm HR.out he.1 he.2 hr, (hr.mix (by omega) (by omega)).mono (by omega) (by omega)⟩)
          go_wp2
          exact ⟨rfl, _, results_none rfl _ _ _, rfl, d, HF.out.1, HF.out.2, hblk, k1⟩
end Go.Proofs.Ytagjgofnaplefaa.Wei
