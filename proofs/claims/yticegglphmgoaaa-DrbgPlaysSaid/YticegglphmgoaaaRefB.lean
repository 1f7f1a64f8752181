/- The document's words of a block. Conditions: sixty-four bytes lie there. -/
import Derived.Test.YticegglphmgoaaaRefA
namespace Go.Proofs.Yticegglphmgoaaa.Sha
open Go.RowKit
open Blk (nats)
/-- What the walk of the document's words of a block knows of the world. -/
structure RS (w : World) (g o : Nat) (b cs : List Nat) (wr : World) : Prop where
  res : Blk.Is wr w.heap.size (nats .i64 (List.replicate 64 0)) 100
  arr : Blk.Is wr (w.heap.size + 1) (nats .i64 cs) 100
  src : wr.rangeAt g o (nats .u8 b)
  below : Below w.heap.size w wr
theorem RS.step {w : World} {g o : Nat} {b cs : List Nat} {wr w' : World} (h : RS w g o b cs wr) (hg : g < w.heap.size) (hb : Below wr.heap.size wr w') : RS w g o b cs w' :=
  ⟨h.res.below hb, h.arr.below hb, range_keep h.src (hb.block g (by have := h.below.size; omega)), h.below.trans (hb.mono h.below.size)⟩
theorem RS.drew {w : World} {g o : Nat} {b cs : List Nat} {wr : World} (h : RS w g o b cs wr) : RS w g o b cs wr.drew := ⟨h.res, h.arr, h.src, h.below.drew⟩
theorem RS.put {w : World} {g o : Nat} {b cs : List Nat} {wr : World} (h : RS w g o b cs wr) (hg : g < w.heap.size) (k v : Nat) : RS w g o b (cs.set k v) (wr.setCell ⟨w.heap.size + 1, k, none⟩ (.int .i64 (v : Int))) :=
  ⟨h.res.other (show w.heap.size ≠ w.heap.size + 1 by omega) _, h.arr.setNat k v, range_keep h.src (Below.heap_setCell _ _ _ _ (show g ≠ w.heap.size + 1 by omega)), h.below.setCell (show w.heap.size ≤ w.heap.size + 1 by omega) _⟩
theorem or4R {a b c d : Nat} (ha : a < 256) (hb : b < 256) (hc : c < 256) (hd : d < 256) :
    bits .or .i64 (bits .or .i64 (bits .or .i64 ((a : Int) * 16777216) ((b : Int) * 65536)) ((c : Int) * 256)) (d : Int) = ((a * 16777216 + b * 65536 + c * 256 + d : Nat) : Int) := by
  have e1 : ((a : Int) * 16777216) = ((a * 16777216 : Nat) : Int) := by omega
  have e2 : ((b : Int) * 65536) = ((b * 65536 : Nat) : Int) := by omega
  have e3 : ((c : Int) * 256) = ((c * 256 : Nat) : Int) := by omega
  have o1 : a * 16777216 ||| b * 65536 = a * 16777216 + b * 65536 := by
    have := Nat.two_pow_add_eq_or_of_lt (i := 24) (b := b * 65536) (by omega) a
    rw [show a * 16777216 = 2 ^ 24 * a by omega]; exact this.symm
  have o2 : (a * 16777216 + b * 65536) ||| c * 256 = a * 16777216 + b * 65536 + c * 256 := by
    have := Nat.two_pow_add_eq_or_of_lt (i := 16) (b := c * 256) (by omega) (a * 256 + b)
    rw [show a * 16777216 + b * 65536 = 2 ^ 16 * (a * 256 + b) by omega]; exact this.symm
  have o3 : (a * 16777216 + b * 65536 + c * 256) ||| d = a * 16777216 + b * 65536 + c * 256 + d := by
    have := Nat.two_pow_add_eq_or_of_lt (i := 8) (b := d) (by omega) (a * 65536 + b * 256 + c)
    rw [show a * 16777216 + b * 65536 + c * 256 = 2 ^ 8 * (a * 65536 + b * 256 + c) by omega]; exact this.symm
  rw [e1, e2, e3, or63 _ _ (by omega) (by omega), o1, or63 _ _ (by omega) (by omega), o2, or63 _ _ (by omega) (by omega), o3]
theorem lowR (x : Nat) (hx : x < 4294967296) : bits .xor .i64 (bits .xor .i64 ((rotr x 7 : Nat) : Int) ((rotr x 18 : Nat) : Int)) ((x : Int) / 8) = ((low x : Nat) : Int) := by
  have h7 := rotr_lt x 7
  have h18 := rotr_lt x 18
  rw [show ((x : Int) / 8) = ((x / 8 : Nat) : Int) by omega, xor63 _ _ (by omega) (by omega), xor63 _ _ (Nat.lt_of_lt_of_le (Nat.xor_lt_two_pow (n := 32) h7 h18) (by decide)) (by omega)]
  unfold low
  rw [Nat.shiftRight_eq_div_pow]
theorem highR (x : Nat) (hx : x < 4294967296) : bits .xor .i64 (bits .xor .i64 ((rotr x 17 : Nat) : Int) ((rotr x 19 : Nat) : Int)) ((x : Int) / 1024) = ((high x : Nat) : Int) := by
  have h7 := rotr_lt x 17
  have h18 := rotr_lt x 19
  rw [show ((x : Int) / 1024) = ((x / 1024 : Nat) : Int) by omega, xor63 _ _ (by omega) (by omega), xor63 _ _ (Nat.lt_of_lt_of_le (Nat.xor_lt_two_pow (n := 32) h7 h18) (by decide)) (by omega)]
  unfold high
  rw [Nat.shiftRight_eq_div_pow]
theorem low_lt (x : Nat) (hx : x < 4294967296) : low x < 4294967296 := by
  unfold low
  exact Nat.xor_lt_two_pow (n := 32) (Nat.xor_lt_two_pow (n := 32) (rotr_lt _ _) (rotr_lt _ _)) (Nat.lt_of_le_of_lt (by rw [Nat.shiftRight_eq_div_pow]; exact Nat.div_le_self _ _) hx)
theorem high_lt (x : Nat) (hx : x < 4294967296) : high x < 4294967296 := by
  unfold high
  exact Nat.xor_lt_two_pow (n := 32) (Nat.xor_lt_two_pow (n := 32) (rotr_lt _ _) (rotr_lt _ _)) (Nat.lt_of_le_of_lt (by rw [Nat.shiftRight_eq_div_pow]; exact Nat.div_le_self _ _) hx)
theorem and_all (x : Nat) (hx : x < 9223372036854775808) : bits .and .i64 (x : Int) 4294967295 = ((x % 4294967296 : Nat) : Int) := by
  rw [show (4294967295 : Int) = ((4294967295 : Nat) : Int) from rfl, and63 _ _ hx (by decide), show (4294967295 : Nat) = 2 ^ 32 - 1 from rfl, Nat.and_two_pow_sub_one_eq_mod]
attribute [local irreducible] schA schB sched low high rotr
set_option maxHeartbeats 4000000 in
set_option maxRecDepth 100000 in
theorem rsched_any (b : List Nat) (g o cap : Nat) (w : World) (hb : b.length = 64) (hB : ∀ x ∈ b, x < 256) (hg : g < w.heap.size) (hr : w.rangeAt g o (nats .u8 b)) :
    Calls Try.prog 70 #[.slice (some ⟨g, o, none⟩) 64 cap] w fun e w' => e = .returned (.agg (nats .i64 (sched b)).toArray) ∧ Below w.heap.size w w' := by
  have HB := Lib.hid (fun i => at_lt_of_all hB (by decide) i)
  have HL := Lib.hid hb
  have HR := Lib.hid hr
  clear hB hb hr
  go_enter Try.func70, Try.ntmps70
  go_wp2_with (first | (refine Blk.build_val 100 _ rfl rfl (nats .i64 (List.replicate 64 0)).toArray (by kernel_rfl) ?_) | (refine Blk.store_row 100 (.tmp 3) (.tmp 10) rfl rfl (w.heap.size + 1) 0 (nats .i64 (List.replicate 64 0)) rfl rfl (Blk.new' (w.alloc (.cells (nats .i64 (List.replicate 64 0)).toArray 100)) (nats .i64 (List.replicate 64 0)) 100 _ (by simp)) (by simp [Blk.nats_length]) (by kernel_rfl) (Blk.nats_one _ _) ?_))
  have z64 : (nats .i64 (List.replicate 64 0)).length = 64 := by simp [Blk.nats_length]
  have r0 : RS w g o b (schA b 0) (((w.alloc (.cells (nats .i64 (List.replicate 64 0)).toArray 100)).alloc (.cells (nats .i64 (List.replicate 64 0)).toArray 100)).setCells (w.heap.size + 1) 0 (nats .i64 (List.replicate 64 0))) := by
    refine ⟨Blk.Is.setCellsOther _ ((Blk.new w _ _).alloc _) (by omega) 0, ?_, ?_, Blk.below_setCells _ (((Below.refl _ _).alloc (Nat.le_refl _) _).alloc (by simp) _) (by omega) 0⟩
    · have h := Blk.Is.setCells (nats .i64 (List.replicate 64 0)) (Blk.new' (w.alloc (.cells (nats .i64 (List.replicate 64 0)).toArray 100)) (nats .i64 (List.replicate 64 0)) 100 (w.heap.size + 1) (by simp)) 0 (by rw [z64]; decide)
      rw [Blk.put_all _ _ rfl] at h
      rw [schA_zero]
      exact h
    · refine range_keep HR.out ?_
      have hB := Blk.below_setCells (nats .i64 (List.replicate 64 0)) (((Below.refl w.heap.size w).alloc (Nat.le_refl _) (.cells (nats .i64 (List.replicate 64 0)).toArray 100)).alloc (by simp) (.cells (nats .i64 (List.replicate 64 0)).toArray 100)) (c := w.heap.size + 1) (by omega) 0
      exact hB.block g hg
  clear z64
  go_loopw [4] (fun i wr => ∃ k : Nat, k ≤ 16 ∧ i = .int .i64 k ∧ RS w g o b (schA b k) wr)
    (fun i _ => 16 - (intOf i).toNat)
  case atStart => exact ⟨0, by omega, rfl, r0⟩
  case round =>
    clear r0
    obtain ⟨k, hk, rfl, r0⟩ := hrel
    by_cases hlt : k < 16
    · have h0 := r0.src (4 * k) _ (Blk.nats_at _ b (4 * k) (by rw [HL.out]; omega))
      have h1 := r0.src (4 * k + 1) _ (Blk.nats_at _ b (4 * k + 1) (by rw [HL.out]; omega))
      have h2 := r0.src (4 * k + 2) _ (Blk.nats_at _ b (4 * k + 2) (by rw [HL.out]; omega))
      have h3 := r0.src (4 * k + 3) _ (Blk.nats_at _ b (4 * k + 3) (by rw [HL.out]; omega))
      have c0 := HB.out (4 * k)
      have c1 := HB.out (4 * k + 1)
      have c2 := HB.out (4 * k + 2)
      have c3 := HB.out (4 * k + 3)
      have HSA := Lib.hid (schA_step b k)
      unfold at_ at c0 c1 c2 c3
      generalize b.getD (4 * k) 0 = y0 at *
      generalize b.getD (4 * k + 1) 0 = y1 at *
      generalize b.getD (4 * k + 2) 0 = y2 at *
      generalize b.getD (4 * k + 3) 0 = y3 at *
      have q0 := Cls.Wd.cell (w0 := wr.drew) h0
      have q1 := Cls.Wd.cell (w0 := wr.drew) h1
      have q2 := Cls.Wd.cell (w0 := wr.drew) h2
      have q3 := Cls.Wd.cell (w0 := wr.drew) h3
      have R0 := Lib.hid r0
      clear h0 h1 h2 h3 r0
      go_wp2
      refine Cls.region_tail (S := Cls.Kept _) 34 (by kernel_rfl) (by kernel_rfl) (Below.refl _ _) ?_
      simp only [List.take_succ_cons, List.take_zero, List.drop_succ_cons, List.drop_zero]
      repeat (go_big_quiet_step (fail))
      refine wpQuiet_nil ?_
      intro w1 hw1
      have r1 := R0.out.drew.step hg hw1
      have f2 := r1.arr.frozen k
      have h2 := r1.arr.nat k (by rw [schA_length]; omega)
      rw [or4R c0 c1 c2 c3]
      have R1 := Lib.hid r1
      clear q0 q1 q2 q3 hw1 r1
      go_wp2
      go_roundw
      case rel => exact ⟨k + 1, by omega, by go_num, by rw [HSA.out]; exact R1.out.put hg k _⟩
      case measure => simp [intOf]; omega
    · have hd : decide ((k : Int) < 16) = false := decide_eq_false (by omega)
      have hk16 : k = 16 := by omega
      have r1 : RS w g o b (schB b 0) wr := by rw [hk16] at r0; rw [schB_zero]; exact r0
      have R1 := Lib.hid r1
      clear hk16 r0 r1
      go_wp2
      go_loopw [5] (fun i wr => ∃ j : Nat, j ≤ 48 ∧ i = .int .i64 ((16 + j : Nat) : Int) ∧ RS w g o b (schB b j) wr)
        (fun i _ => 64 - (intOf i).toNat)
      case atStart => exact ⟨0, by omega, rfl, R1.out⟩
      case round =>
        clear R1
        obtain ⟨j, hj, rfl, r0⟩ := hrel
        obtain ⟨i, hi⟩ : ∃ i, i = 16 + j := ⟨_, rfl⟩
        rw [← hi]
        have hi0 : 16 ≤ i := by omega
        by_cases hlt : i < 64
        · have hl := schB_length b j
          have h1 := r0.arr.nat (i - 15) (by omega)
          have h3 := r0.arr.nat (i - 2) (by omega)
          have c0 := schB_lt b HB.out j (i - 16)
          have c1 := schB_lt b HB.out j (i - 15)
          have c2 := schB_lt b HB.out j (i - 7)
          have c3 := schB_lt b HB.out j (i - 2)
          have HS := Lib.hid (schB_step b j i hi)
          have HI := Lib.hid hi
          have HLn := Lib.hid hl
          clear hi hl
          unfold at_ at c0 c1 c2 c3
          generalize hy0 : (schB b j).getD (i - 16) 0 = y0 at *
          generalize (schB b j).getD (i - 15) 0 = y1 at *
          generalize hy2 : (schB b j).getD (i - 7) 0 = y2 at *
          have HY0 := Lib.hid hy0
          have HY2 := Lib.hid hy2
          clear hy0 hy2
          generalize (schB b j).getD (i - 2) 0 = y3 at *
          have q1 := Cls.Wd.cell (w0 := wr.drew) h1
          have q3 := Cls.Wd.cell (w0 := wr.drew) h3
          have R0 := Lib.hid r0
          clear h1 h3 r0
          go_wp2
          refine Cls.region_cls (S := Cls.Kept _) (by kernel_rfl) (by kernel_rfl) (Below.refl _ _) ?_
          repeat (go_big_quiet_step (fail))
          refine wpQuiet_nil ?_
          intro w1 hw1
          have r1 := R0.out.drew.step hg hw1
          have R1 := Lib.hid r1
          clear q1 q3 hw1 r1 R0
          have El := lowR y1 c1
          have Eh := highR y3 c3
          have ll := low_lt y1 c1
          have lh := high_lt y3 c3
          have HEl := Lib.hid El
          have HEh := Lib.hid Eh
          clear El Eh
          go_wp2_with fail
          refine (rrotr_any y1 7 _ c1 (by decide) (by decide)).mono ?_
          rintro e w2 ⟨rfl, b2⟩
          have R2 := Lib.hid (R1.out.step hg b2)
          clear R1 b2
          go_wp2_with fail
          refine (rrotr_any y1 18 _ c1 (by decide) (by decide)).mono ?_
          rintro e w3 ⟨rfl, b3⟩
          have R3 := Lib.hid (R2.out.step hg b3)
          clear R2 b3
          go_wp2_with fail
          refine (rrotr_any y3 17 _ c3 (by decide) (by decide)).mono ?_
          rintro e w4 ⟨rfl, b4⟩
          have R4 := Lib.hid (R3.out.step hg b4)
          clear R3 b4
          go_wp2_with fail
          refine (rrotr_any y3 19 _ c3 (by decide) (by decide)).mono ?_
          rintro e w5 ⟨rfl, b5⟩
          have R5 := Lib.hid (R4.out.step hg b5)
          clear R4 b5
          go_wp2_with fail
          rw [HEl.out, HEh.out]
          have h0 := R5.out.arr.nat (i - 16) (by rw [HLn.out]; omega)
          have h2 := R5.out.arr.nat (i - 7) (by rw [HLn.out]; omega)
          rw [HY0.out] at h0
          rw [HY2.out] at h2
          have q0 := Cls.Wd.cell (w0 := w5.drew) h0
          have q2 := Cls.Wd.cell (w0 := w5.drew) h2
          clear h0 h2
          refine Cls.region_tail (S := Cls.Kept _) 15 (by kernel_rfl) (by kernel_rfl) (Below.refl _ _) ?_
          simp only [List.take_succ_cons, List.take_zero, List.drop_succ_cons, List.drop_zero]
          repeat (go_big_quiet_step (fail))
          refine wpQuiet_nil ?_
          intro w6 hw6
          have r6 := R5.out.drew.step hg hw6
          have f2 := r6.arr.frozen i
          have h2 := r6.arr.nat i (by rw [HLn.out]; omega)
          have R6 := Lib.hid r6
          clear q0 q2 hw6 r6 R5
          have e : bits .and .i64 (((high y3 : Nat) : Int) + (y2 : Int) + ((low y1 : Nat) : Int) + (y0 : Int)) 4294967295 = (((y0 + low y1 + y2 + high y3) % 4294967296 : Nat) : Int) := by
            rw [show (((high y3 : Nat) : Int) + (y2 : Int) + ((low y1 : Nat) : Int) + (y0 : Int)) = ((y0 + low y1 + y2 + high y3 : Nat) : Int) by omega]
            exact and_all _ (by omega)
          rw [e]
          have E := Lib.hid e
          clear e
          go_wp2
          go_roundw
          case rel => exact ⟨j + 1, by have := HI.out; omega, by have := HI.out; go_num, by rw [HS.out]; exact R6.out.put hg i _⟩
          case measure => simp [intOf]; omega
        · have hj48 : j = 48 := by omega
          have hd : decide ((i : Int) < 64) = false := decide_eq_false (by omega)
          have r1 : RS w g o b (sched b) wr := by rw [hj48] at r0; rw [sched_is]; exact r0
          have hs : (sched b).length = 64 := sched_length b
          have HS := Lib.hid hs
          clear hj48 hs hi r0
          go_wp2_with (first | (refine Blk.load_row 100 (.tmp 3) rfl (by rfl) (w.heap.size + 1) rfl 100 (nats .i64 (sched b)) _ r1.arr Try.underlying100 rfl (by rw [Blk.nats_length, HS.out]; kernel_rfl) ?_) | (refine Blk.store_row 100 (.tmp 2) (.tmp 94) rfl rfl w.heap.size 0 (nats .i64 (sched b)) rfl rfl r1.res (by rw [Blk.nats_length, Blk.nats_length, HS.out]; decide) (by rw [Blk.nats_length, HS.out]; kernel_rfl) (Blk.nats_one _ _) ?_))
          have b3 := Blk.Is.setCells (nats .i64 (sched b)) r1.res 0 (by rw [Blk.nats_length, Blk.nats_length, HS.out]; decide)
          rw [Blk.put_all _ _ (by rw [Blk.nats_length, Blk.nats_length, HS.out]; rfl)] at b3
          refine bodyPost_ret (results_cell_row rfl _ _ w.heap.size 100 _ (0, 0) _ rfl b3 Try.underlying100 rfl (by simp only [List.size_toArray, Blk.nats_length, HS.out]; kernel_rfl)) rfl ?_
          exact ⟨rfl, Blk.below_setCells _ r1.below (Nat.le_refl _) _⟩
end Go.Proofs.Yticegglphmgoaaa.Sha
