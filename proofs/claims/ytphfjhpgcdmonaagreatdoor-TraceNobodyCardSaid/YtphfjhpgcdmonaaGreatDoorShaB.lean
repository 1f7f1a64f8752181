/- The words of a block in the program are those of the plain function. Conditions: the block has 64 bytes. -/
import Derived.Test.YtphfjhpgcdmonaaGreatDoorShaA
namespace Go.Proofs.YtphfjhpgcdmonaaGreatDoor.Sha
open Go.RowKit
open Blk (nats)
theorem schA_length (b : List Nat) (k : Nat) : (schA b k).length = 64 := by
  induction k with
  | zero => simp [schA]
  | succ k ih => rw [schA, List.length_set, ih]
theorem schA_step (b : List Nat) (k : Nat) : schA b (k + 1) = (schA b k).set k (b.getD (4 * k) 0 * 16777216 + b.getD (4 * k + 1) 0 * 65536 + b.getD (4 * k + 2) 0 * 256 + b.getD (4 * k + 3) 0) := rfl
theorem schB_length (b : List Nat) (k : Nat) : (schB b k).length = 64 := by
  induction k with
  | zero => exact schA_length b 16
  | succ k ih => rw [schB, schStep, List.length_set, ih]
theorem at_set (l : List Nat) (i j v : Nat) : at_ (l.set i v) j = if i = j ∧ j < l.length then v else at_ l j := by
  unfold at_
  simp only [List.getD_eq_getElem?_getD, List.getElem?_set]
  by_cases h : i = j
  · subst h
    by_cases h2 : i < l.length <;> simp [h2]
  · simp [h]
theorem schA_lt (b : List Nat) (hB : ∀ i, at_ b i < 256) (k j : Nat) : at_ (schA b k) j < 4294967296 := by
  induction k with
  | zero =>
    unfold schA at_
    rw [List.getD_eq_getElem?_getD, List.getElem?_replicate]
    split <;> simp
  | succ k ih =>
    rw [schA, at_set]
    have := hB (4 * k)
    have := hB (4 * k + 1)
    have := hB (4 * k + 2)
    have := hB (4 * k + 3)
    split <;> omega
theorem schB_lt (b : List Nat) (hB : ∀ i, at_ b i < 256) (k j : Nat) : at_ (schB b k) j < 4294967296 := by
  induction k with
  | zero => exact schA_lt b hB 16 j
  | succ k ih =>
    rw [schB, schStep, at_set]
    split
    · exact Nat.mod_lt _ (by decide)
    · exact ih
theorem schB_step (b : List Nat) (j i : Nat) (h : i = 16 + j) : schB b (j + 1) = (schB b j).set i (((schB b j).getD (i - 16) 0 + low ((schB b j).getD (i - 15) 0) + (schB b j).getD (i - 7) 0 + high ((schB b j).getD (i - 2) 0)) % 4294967296) := by
  subst h
  rfl
theorem rotr_lt (x n : Nat) : rotr x n < 4294967296 := Nat.mod_lt _ (by decide)
theorem lowE (x : Nat) (hx : x < 4294967296) : bits .xor .u32 (bits .xor .u32 ((rotr x 7 : Nat) : Int) ((rotr x 18 : Nat) : Int)) ((x : Int) / 8) = ((low x : Nat) : Int) := by
  have e : (x : Int) / (8 : Int) = ((x >>> 3 : Nat) : Int) := by rw [Nat.shiftRight_eq_div_pow]; omega
  rw [xor32 _ _ (rotr_lt _ _) (rotr_lt _ _), e, xor32 _ _ (Nat.xor_lt_two_pow (n := 32) (rotr_lt _ _) (rotr_lt _ _)) (by rw [Nat.shiftRight_eq_div_pow]; omega)]
  rfl
theorem highE (x : Nat) (hx : x < 4294967296) : bits .xor .u32 (bits .xor .u32 ((rotr x 17 : Nat) : Int) ((rotr x 19 : Nat) : Int)) ((x : Int) / 1024) = ((high x : Nat) : Int) := by
  have e : (x : Int) / (1024 : Int) = ((x >>> 10 : Nat) : Int) := by rw [Nat.shiftRight_eq_div_pow]; omega
  rw [xor32 _ _ (rotr_lt _ _) (rotr_lt _ _), e, xor32 _ _ (Nat.xor_lt_two_pow (n := 32) (rotr_lt _ _) (rotr_lt _ _)) (by rw [Nat.shiftRight_eq_div_pow]; omega)]
  rfl
theorem or4 {a b c d : Nat} (ha : a < 256) (hb : b < 256) (hc : c < 256) (hd : d < 256) :
    bits .or .u32 (bits .or .u32 (bits .or .u32 ((a : Int) * 16777216) ((b : Int) * 65536)) ((c : Int) * 256)) (d : Int) = ((a * 16777216 + b * 65536 + c * 256 + d : Nat) : Int) := by
  have e1 : ((a : Int) * 16777216) = ((a * 16777216 : Nat) : Int) := by omega
  have e2 : ((b : Int) * 65536) = ((b * 65536 : Nat) : Int) := by omega
  have e3 : ((c : Int) * 256) = ((c * 256 : Nat) : Int) := by omega
  have o1 : a * 16777216 ||| b * 65536 = a * 16777216 + b * 65536 := by
    have := Nat.two_pow_add_eq_or_of_lt (i := 24) (b := b * 65536) (by omega) a
    rw [show a * 16777216 = 2 ^ 24 * a by omega]; exact this.symm
  have o2 : (a * 16777216 + b * 65536) ||| c * 256 = a * 16777216 + b * 65536 + c * 256 := by
    have := Nat.two_pow_add_eq_or_of_lt (i := 16) (b := c * 256) (by omega) (a * 256 + b)
    rw [show a * 16777216 + b * 65536 = 2 ^ 16 * (a * 256 + b) by omega]; exact this.symm
  have o3 : (a * 16777216 + b * 65536 + c * 256) ||| d = a * 16777216 + b * 65536 + c * 256 + d := by
    have := Nat.two_pow_add_eq_or_of_lt (i := 8) (b := d) (by omega) (a * 65536 + b * 256 + c)
    rw [show a * 16777216 + b * 65536 + c * 256 = 2 ^ 8 * (a * 65536 + b * 256 + c) by omega]; exact this.symm
  rw [e1, e2, e3, or32 _ _ (by omega) (by omega), o1, or32 _ _ (by omega) (by omega), o2, or32 _ _ (by omega) (by omega), o3]
theorem schA_zero (b : List Nat) : schA b 0 = List.replicate 64 0 := rfl
theorem sched_is (b : List Nat) : sched b = schB b 48 := rfl
theorem schB_zero (b : List Nat) : schB b 0 = schA b 16 := rfl
attribute [local irreducible] schA schB sched
set_option maxHeartbeats 4000000 in
set_option maxRecDepth 100000 in
theorem sched_any (b : List Nat) (w : World) (hb : b.length = 64) (hB : ∀ i, at_ b i < 256) :
    Calls Tryz.prog 271 #[.agg (nats .u8 b).toArray] w fun e w' => e = .returned (.agg (nats .u32 (sched b)).toArray) ∧ Below w.heap.size w w' := by
  have HB := Lib.hid hB
  have HL := Lib.hid hb
  clear hB hb
  go_enter Tryz.func271, Tryz.ntmps271
  go_wp2
  go_loopw [4, 10] (fun _ i wr => ∃ k : Nat, k ≤ 16 ∧ i = .int .i64 k ∧ Blk.Is wr w.heap.size (nats .u8 b) 383 ∧ (∃ cs, cs.length = 64 ∧ Blk.Is wr (w.heap.size + 1) cs 407) ∧ Blk.Is wr (w.heap.size + 1 + 1) (nats .u32 (schA b k)) 407 ∧ Below w.heap.size w wr)
    (fun _ i _ => 16 - (intOf i).toNat)
  case atStart =>
    refine ⟨0, by omega, rfl, ((Blk.new w (nats .u8 b) 383).alloc _).alloc _, ⟨nats .u32 (List.replicate 64 0), rfl, ?_⟩, ?_, (((Below.refl _ _).alloc (Nat.le_refl _) _).alloc (by simp) _).alloc (by simp; omega) _⟩
    · exact (Blk.new' _ (nats .u32 (List.replicate 64 0)) 407 _ (by simp)).alloc _
    · rw [schA_zero]
      exact Blk.new' _ (nats .u32 (List.replicate 64 0)) 407 _ (by simp)
  case round =>
    obtain ⟨k, hk, rfl, b0, ⟨cs, hcs, b1⟩, b2, k0⟩ := hrel
    by_cases hlt : k < 16
    · have h0 := b0.nat (4 * k) (by rw [HL.out]; omega)
      have h1 := b0.nat (4 * k + 1) (by rw [HL.out]; omega)
      have h2 := b0.nat (4 * k + 2) (by rw [HL.out]; omega)
      have h3 := b0.nat (4 * k + 3) (by rw [HL.out]; omega)
      have c0 := HB.out (4 * k)
      have c1 := HB.out (4 * k + 1)
      have c2 := HB.out (4 * k + 2)
      have c3 := HB.out (4 * k + 3)
      have f2 := b2.frozen k
      have B0 := Lib.hid b0
      have B1 := Lib.hid b1
      have B2 := Lib.hid b2
      clear b0 b1 b2
      have HSA := Lib.hid (schA_step b k)
      unfold at_ at c0 c1 c2 c3
      generalize b.getD (4 * k) 0 = y0 at *
      generalize b.getD (4 * k + 1) 0 = y1 at *
      generalize b.getD (4 * k + 2) 0 = y2 at *
      generalize b.getD (4 * k + 3) 0 = y3 at *
      have q0 := Cls.Wd.cell (w0 := wr.drew) h0
      have q1 := Cls.Wd.cell (w0 := wr.drew) h1
      have q2 := Cls.Wd.cell (w0 := wr.drew) h2
      have q3 := Cls.Wd.cell (w0 := wr.drew) h3
      clear h0 h1 h2 h3
      go_wp2
      refine Cls.region_tail (S := Cls.Kept _) 31 (by kernel_rfl) (by kernel_rfl) (Below.refl _ _) ?_
      simp only [List.take_succ_cons, List.take_zero, List.drop_succ_cons, List.drop_zero]
      repeat (go_big_quiet_step (fail))
      refine wpQuiet_nil ?_
      intro w1 hw1
      have b0 := Blk.Is.below (w := wr.drew) B0.out hw1
      have b1 := Blk.Is.below (w := wr.drew) B1.out hw1
      have b2 := Blk.Is.below (w := wr.drew) B2.out hw1
      have k1 := k0.drew.trans (hw1.mono k0.size)
      have f2 := b2.frozen k
      have h2 := b2.nat k (by rw [schA_length]; omega)
      have E := or4 c0 c1 c2 c3
      generalize bits .or .u32 (bits .or .u32 (bits .or .u32 (↑y0 * 16777216) (↑y1 * 65536)) (↑y2 * 256)) ↑y3 = v at E ⊢
      have HE := Lib.hid E
      have B0 := Lib.hid b0
      have B1 := Lib.hid b1
      have B2 := Lib.hid b2
      clear E q0 q1 q2 q3 b0 b1 b2 hw1 k0
      go_wp2
      go_roundw
      case rel => exact ⟨k + 1, by omega, by go_num, B0.out.other (by simp <;> omega) _, ⟨cs, hcs, B1.out.other (by simp) _⟩, by rw [HE.out, HSA.out]; exact B2.out.setNat k _, k1.setCell (by simp; omega) _⟩
      case measure => simp [intOf]; omega
    · have hd : decide ((k : Int) < 16) = false := decide_eq_false (by omega)
      have hk16 : k = 16 := by omega
      have b2 : Blk.Is wr (w.heap.size + 1 + 1) (nats .u32 (schB b 0)) 407 := by rw [hk16] at b2; rw [schB_zero]; exact b2
      clear hk16
      go_wp2
      go_loopw [5, 6, 7, 8, 9] (fun i _ _ _ _ wr => ∃ j : Nat, j ≤ 48 ∧ i = .int .i64 ((16 + j : Nat) : Int) ∧ Blk.Is wr w.heap.size (nats .u8 b) 383 ∧ (∃ cs, cs.length = 64 ∧ Blk.Is wr (w.heap.size + 1) cs 407) ∧ Blk.Is wr (w.heap.size + 1 + 1) (nats .u32 (schB b j)) 407 ∧ Below w.heap.size w wr)
        (fun i _ _ _ _ _ => 64 - (intOf i).toNat)
      case atStart => exact ⟨0, by omega, rfl, b0, ⟨cs, hcs, b1⟩, b2, k0⟩
      case round =>
        clear b0 b1 b2 k0
        obtain ⟨j, hj, rfl, b0, ⟨cs, hcs, b1⟩, b2, k0⟩ := hrel
        obtain ⟨i, hi⟩ : ∃ i, i = 16 + j := ⟨_, rfl⟩
        rw [← hi]
        have hi0 : 16 ≤ i := by omega
        by_cases hlt : i < 64
        · have hl := schB_length b j
          have h0 := b2.nat (i - 16) (by omega)
          have h1 := b2.nat (i - 15) (by omega)
          have h2 := b2.nat (i - 7) (by omega)
          have h3 := b2.nat (i - 2) (by omega)
          have c0 := schB_lt b HB.out j (i - 16)
          have c1 := schB_lt b HB.out j (i - 15)
          have c2 := schB_lt b HB.out j (i - 7)
          have c3 := schB_lt b HB.out j (i - 2)
          have HS := Lib.hid (schB_step b j i hi)
          have HI := Lib.hid hi
          have B0 := Lib.hid b0
          have B1 := Lib.hid b1
          have B2 := Lib.hid b2
          have HLn := Lib.hid hl
          clear hi b0 b1 b2 hl
          unfold at_ at c0 c1 c2 c3
          generalize hy0 : (schB b j).getD (i - 16) 0 = y0 at *
          generalize (schB b j).getD (i - 15) 0 = y1 at *
          generalize hy2 : (schB b j).getD (i - 7) 0 = y2 at *
          have HY0 := Lib.hid hy0
          have HY2 := Lib.hid hy2
          clear hy0 hy2
          generalize (schB b j).getD (i - 2) 0 = y3 at *
          have q1 := Cls.Wd.cell (w0 := wr.drew) h1
          have q3 := Cls.Wd.cell (w0 := wr.drew) h3
          clear h0 h1 h2 h3
          go_wp2
          refine Cls.region_cls (S := Cls.Kept _) (by kernel_rfl) (by kernel_rfl) (Below.refl _ _) ?_
          repeat (go_big_quiet_step (fail))
          refine wpQuiet_nil ?_
          intro w1 hw1
          have b0 := Blk.Is.below (w := wr.drew) B0.out hw1
          have b1 := Blk.Is.below (w := wr.drew) B1.out hw1
          have b2 := Blk.Is.below (w := wr.drew) B2.out hw1
          have k1 := k0.drew.trans (hw1.mono k0.size)
          have B0 := Lib.hid b0
          have B1 := Lib.hid b1
          have B2 := Lib.hid b2
          clear q1 q3 b0 b1 b2 hw1 k0
          have El := lowE y1 c1
          have Eh := highE y3 c3
          have HEl := Lib.hid El
          have HEh := Lib.hid Eh
          clear El Eh
          go_wp2_with fail
          refine (turned_any y1 7 _ c1 (by decide) (by decide)).mono ?_
          rintro e w' ⟨rfl, rfl⟩
          go_wp2_with fail
          refine (turned_any y1 18 _ c1 (by decide) (by decide)).mono ?_
          rintro e w' ⟨rfl, rfl⟩
          go_wp2_with fail
          refine (turned_any y3 17 _ c3 (by decide) (by decide)).mono ?_
          rintro e w' ⟨rfl, rfl⟩
          go_wp2_with fail
          refine (turned_any y3 19 _ c3 (by decide) (by decide)).mono ?_
          rintro e w' ⟨rfl, rfl⟩
          go_wp2_with fail
          rw [HEl.out, HEh.out]
          have b0 := B0.out
          have b1 := B1.out
          have b2 := B2.out
          have h0 := b2.nat (i - 16) (by rw [HLn.out]; omega)
          have h2 := b2.nat (i - 7) (by rw [HLn.out]; omega)
          rw [HY0.out] at h0
          rw [HY2.out] at h2
          have q0 := Cls.Wd.cell (w0 := w1.drew) h0
          have q2 := Cls.Wd.cell (w0 := w1.drew) h2
          clear b0 b1 b2 h0 h2
          refine Cls.region_tail (S := Cls.Kept _) 15 (by kernel_rfl) (by kernel_rfl) (Below.refl _ _) ?_
          simp only [List.take_succ_cons, List.take_zero, List.drop_succ_cons, List.drop_zero]
          repeat (go_big_quiet_step (fail))
          refine wpQuiet_nil ?_
          intro w2 hw2
          have b0 := Blk.Is.below (w := w1.drew) B0.out hw2
          have b1 := Blk.Is.below (w := w1.drew) B1.out hw2
          have b2 := Blk.Is.below (w := w1.drew) B2.out hw2
          have k2 := k1.drew.trans (hw2.mono k1.size)
          have f2 := b2.frozen i
          have h2 := b2.nat i (by rw [HLn.out]; omega)
          have B0 := Lib.hid b0
          have B1 := Lib.hid b1
          have B2 := Lib.hid b2
          clear b0 b1 b2 q0 q2 k1 hw2
          go_wp2
          go_roundw
          case rel =>
            refine ⟨j + 1, by have := HI.out; omega, by have := HI.out; go_num, B0.out.other (by simp <;> omega) _, ⟨cs, hcs, B1.out.other (by simp) _⟩, ?_, k2.setCell (by simp; omega) _⟩
            rw [HS.out]
            have e : (((y0 : Int) + ((low y1 : Nat) : Int) + (y2 : Int) + ((high y3 : Nat) : Int)) % 4294967296) = (((y0 + low y1 + y2 + high y3) % 4294967296 : Nat) : Int) := by omega
            rw [e]
            exact B2.out.setNat i _
          case measure => simp [intOf]; omega
        · have hj48 : j = 48 := by omega
          have b2 : Blk.Is wr (w.heap.size + 1 + 1) (nats .u32 (sched b)) 407 := by rw [hj48] at b2; rw [sched_is]; exact b2
          have hs : (sched b).length = 64 := by rw [sched_is]; exact schB_length b 48
          have HS := Lib.hid hs
          clear hj48 hs
          go_wp2_with (first | (refine Blk.load_row 407 (.tmp 3) rfl (by rfl) (w.heap.size + 1 + 1) rfl 407 (nats .u32 (sched b)) _ b2 Tryz.underlying407 rfl (by rw [Blk.nats_length, HS.out]; kernel_rfl) ?_) | (refine Blk.store_row 407 (.tmp 2) (.tmp 88) rfl rfl (w.heap.size + 1) 0 (nats .u32 (sched b)) rfl rfl b1 (by rw [Blk.nats_length, HS.out, hcs]; decide) (by rw [Blk.nats_length, HS.out]; kernel_rfl) (Blk.nats_one _ _) ?_))
          have b3 := Blk.Is.setCells (nats .u32 (sched b)) b1 0 (by rw [Blk.nats_length, HS.out, hcs]; decide)
          rw [Blk.put_all _ _ (by rw [Blk.nats_length, HS.out, hcs])] at b3
          refine bodyPost_ret (results_cell_row rfl _ _ (w.heap.size + 1) 407 _ (0, 0) _ rfl b3 Tryz.underlying407 rfl (by simp only [List.size_toArray, Blk.nats_length, HS.out]; kernel_rfl)) rfl ?_
          exact ⟨rfl, Blk.below_setCells _ k0 (by omega) _⟩
end Go.Proofs.YtphfjhpgcdmonaaGreatDoor.Sha
