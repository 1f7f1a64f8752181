/- The statement StampSound's function returns true whatever servers hold and liars tell, and changes nothing that was there. Conditions: the two arrays have seven numbers. -/
import Derived.Test.YtkkbpjkplnepiaaVouchesW
import Derived.Test.YtkkbpjkplnepiaaSoundQ
namespace Go.Proofs.Ytkkbpjkplnepiaa.Vou
open Go.RowKit Go.Proofs.YtkkbpjkplnepiaaW.PrintWords Go.Proofs.YtkkbpjkplnepiaaW.PrintLast Go.Proofs.YtkkbpjkplnepiaaW.PrintMore

theorem num_step (p : Nat → Bool) (k : Nat) : num p (k + 1) = num p k + (if p k = true then 1 else 0) := rfl

set_option maxHeartbeats 1000000 in
theorem lied_walk (L : List Int) (k f : Nat) (w : World) (hl : L.length = 7) (hk : k < 7) :
    Calls Try.prog 16 #[.agg (L.map (Value.int .i64)).toArray, .int .i64 k, .int .i64 f] w fun e w' => e = .returned (.bool (liar (zb L) f k)) ∧ Below w.heap.size w w' := by
  have hcell : ∀ i, i < 7 → (w.alloc (.cells (L.map (Value.int .i64)).toArray 35)).cell? ⟨w.heap.size, i, none⟩ = some (.int .i64 (L.getD i 0)) := fun i hi => by
    rw [World.cell?_alloc_at _ _ _ _ rfl]
    simp [List.getD_eq_getElem?_getD, List.getElem?_eq_getElem (show i < L.length by omega)]
  have HC := Lib.hid hcell
  have HL := Lib.hid hl
  clear hcell hl
  go_enter Try.func16, Try.ntmps16
  go_wp2
  go_loop [7, 8] (fun n i => ∃ j : Nat, j ≤ k ∧ i = .int .i64 j ∧ n = .int .i64 (num (zb L) j : Nat)) (fun _ i => k - (intOf i).toNat)
  case atStart => exact ⟨0, Nat.zero_le _, rfl, rfl⟩
  case round =>
    obtain ⟨j, hj, rfl, rfl⟩ := hrel
    have hm := num_le (zb L) j
    by_cases hlt : j < k
    · have h1 := HC.out j (by omega)
      have h2 : j < 7 := by omega
      have HN := Lib.hid (num_step (zb L) j)
      have hz : zb L j = (bits .and .i64 (L.getD j 0) 7 == 0) := rfl
      generalize L.getD j 0 = x at h1 hz
      have HZ := Lib.hid hz
      clear hz
      go_wp2
      · go_round
        case rel => exact ⟨j + 1, by omega, by go_num, by rw [HN.out, if_pos (by rw [HZ.out]; assumption)]; go_num⟩
        case measure => simp [intOf]; omega
      · go_round
        case rel => exact ⟨j + 1, by omega, by go_num, by rw [HN.out, if_neg (by rw [HZ.out]; simp [*])]; go_num⟩
        case measure => simp [intOf]; omega
    · obtain rfl : j = k := by omega
      have h1 := HC.out j (by omega)
      have hz : liar (zb L) f j = ((bits .and .i64 (L.getD j 0) 7 == 0) && decide (num (zb L) j < f)) := liar_is (zb L) f j
      generalize L.getD j 0 = x at h1 hz
      have HZ := Lib.hid hz
      clear hz
      go_wp2
      all_goals
        go_ret
        refine ⟨by rw [HZ.out]; simp [*], (Below.refl _ _).alloc (Nat.le_refl _) _⟩

-- THE WALK

set_option maxHeartbeats 2000000 in
set_option maxRecDepth 100000 in
theorem sound_walk1 (t : Int) (H L : List Int) (w : World) (hh : H.length = 7) (hl : L.length = 7) (ht : bits .and .i64 t 1 = 0) :
    Calls Try.prog 5 #[.int .i64 t, .agg (H.map (Value.int .i64)).toArray, .agg (L.map (Value.int .i64)).toArray] w fun e w' => e = .returned (.bool true) ∧ Below w.heap.size w w' := by
  have hmk : ∀ W : World, (Instr.makeSlice 31 (.int .i64 4) (.int .i64 4)).run Try.prog W = .ok (.slice (some ⟨W.heap.size, 0, none⟩) 4 4) (W.alloc (.cells (madeCells #[.int .i64 0] 4) 3)) := fun W => by
    have := print_make (P := Try.prog) 31 3 .i64 8 Try.underlying31 PStampVouches.info3 (by decide) 4 (by decide) W
    simpa using this
  have HH := Lib.hid hh
  have HL := Lib.hid hl
  clear hh hl
  have b0 : Blk.Is ((w.alloc (.cells (H.map (Value.int .i64)).toArray 35)).alloc (.cells (L.map (Value.int .i64)).toArray 35)) w.heap.size (Blk.ints .i64 H) 35 := (Blk.new w _ _).alloc _
  have b1 : Blk.Is ((w.alloc (.cells (H.map (Value.int .i64)).toArray 35)).alloc (.cells (L.map (Value.int .i64)).toArray 35)) (w.heap.size + 1) (Blk.ints .i64 L) 35 := by
    have := Blk.new (w.alloc (.cells (H.map (Value.int .i64)).toArray 35)) (L.map (Value.int .i64)) 35
    simpa [Blk.ints] using this
  have k0 : Below w.heap.size w ((w.alloc (.cells (H.map (Value.int .i64)).toArray 35)).alloc (.cells (L.map (Value.int .i64)).toArray 35)) := ((Below.refl _ _).alloc (Nat.le_refl _) _).alloc (by simp) _
  have B0 := Lib.hid b0
  have B1 := Lib.hid b1
  clear b0 b1
  go_enter Try.func5, Try.ntmps5
  go_wp2
  go_loopw [10, 11, 12] (fun mo li i wr => ∃ (k : Nat) (T : List Int), k ≤ 4 ∧ i = .int .i64 k ∧ mo = .int .i64 (most (hvs H) (svs L) (qs H) (zb L) 1 k) ∧ li = .int .i64 (lc (zb L) 1 k : Nat) ∧ T.length = 4 ∧ Hid (∀ j, j < k → T.getD j 0 = tells (hvs H) (svs L) (qs H) (zb L) 1 j) ∧
      Blk.Is wr (w.heap.size + 1 + 1) (Blk.ints .i64 T) 3 ∧ Blk.Is wr w.heap.size (Blk.ints .i64 H) 35 ∧ Blk.Is wr (w.heap.size + 1) (Blk.ints .i64 L) 35 ∧ Below w.heap.size w wr)
    (fun _ _ i _ => 4 - (intOf i).toNat)
  case atStart =>
    refine ⟨0, List.replicate 4 0, Nat.zero_le _, rfl, rfl, rfl, by simp, Lib.hid (fun j hj => absurd hj (by omega)), ?_, B0.out.alloc _, B1.out.alloc _, k0.alloc (by simp; omega) _⟩
    have := Blk.new ((w.alloc (Obj.cells (List.map (Value.int IntKind.i64) H).toArray 35)).alloc (Obj.cells (List.map (Value.int IntKind.i64) L).toArray 35)) (Blk.ints .i64 (List.replicate 4 0)) 3
    have e := Blk.made_ints .i64 4
    rw [e]
    simpa using this
  case round =>
    obtain ⟨k, T, hk, rfl, rfl, rfl, hT, HT, hB, b0, b1, hnx⟩ := hrel
    have hlc := lc_le (zb L) 1 k
    by_cases hlt : k < 4
    · have h1 := b0.int k (by have := HH.out; omega)
      have h2 := b1.int k (by have := HL.out; omega)
      have f3 := hB.frozen k
      have h3 := hB.int k (by omega)
      have hp := and20_nonneg (H.getD k 0)
      have HZ := Lib.hid (show zb L k = (bits .and .i64 (L.getD k 0) 7 == 0) from rfl)
      have HQ := Lib.hid (show qs H k = (bits .and .i64 (H.getD k 0 / 1048576) 3 == 0) from rfl)
      have HV := Lib.hid (show hvs H k = bits .and .i64 (H.getD k 0) 1048575 from rfl)
      have HS := Lib.hid (show svs L k = L.getD k 0 / 8 from rfl)
      generalize H.getD k 0 = x at h1 hp HQ HV
      generalize L.getD k 0 = y at h2 HZ HS
      have HTl := Lib.hid hT
      have HB := Lib.hid hB
      have Hb0 := Lib.hid b0
      have Hb1 := Lib.hid b1
      have hkT : k < T.length := by omega
      clear hT hB b0 b1
      generalize hmo : most (hvs H) (svs L) (qs H) (zb L) 1 k = mo
      have HM := Lib.hid hmo
      clear hmo
      go_wp2
      · have hq : (bits BinOp.and IntKind.i64 (x / 1048576) 3 == 0) = true := by assumption
        have hz : bits BinOp.and IntKind.i64 y 7 = 0 := by assumption
        have hg : ((lc (zb L) 1 k : Nat) : Int) < 1 := by assumption
        obtain ⟨e1, e2, e3⟩ := step_liar (hv := hvs H) (s := svs L) (q := qs H) (z := zb L) (f := 1) (k := k) (by rw [HZ.out, hz]; rfl) (by omega)
        go_roundw
        case rel => exact ⟨k + 1, _, by omega, by go_num, by rw [e3, HM.out], by rw [e1]; go_num, by rw [(upd_again (upd_again (upd_set _ hkT) _ hkT) _ hkT).1]; exact HTl.out, Lib.hid (told_on HT.out (upd_again (upd_again (upd_set _ hkT) _ hkT) _ hkT) (e2.trans HS.out)), (((HB.out.setInt k _).setInt k _).setInt k _), (((Hb0.out.other (by simp <;> omega) _).other (by simp <;> omega) _).other (by simp <;> omega) _), (((Hb1.out.other (by simp <;> omega) _).other (by simp <;> omega) _).other (by simp <;> omega) _), (((hnx.setCell (by simp; omega) _).setCell (by simp; omega) _).setCell (by simp; omega) _)⟩
        case measure => simp [intOf]; omega
      · have hq : (bits BinOp.and IntKind.i64 (x / 1048576) 3 == 0) = true := by assumption
        have hg : (1 : Int) ≤ ((lc (zb L) 1 k : Nat) : Int) := by assumption
        have hn : ¬ (zb L k = true ∧ lc (zb L) 1 k < 1) := fun hh => by omega
        obtain ⟨e1, e2, e3⟩ := step_still (hv := hvs H) (s := svs L) (q := qs H) hn (by rw [HQ.out]; exact hq)
        go_roundw
        case rel => exact ⟨k + 1, _, by omega, by go_num, by rw [e3, HM.out], by rw [e1], by rw [(upd_again (upd_set _ hkT) _ hkT).1]; exact HTl.out, Lib.hid (told_on HT.out (upd_again (upd_set _ hkT) _ hkT) (e2)), ((HB.out.setInt k _).setInt k _), ((Hb0.out.other (by simp <;> omega) _).other (by simp <;> omega) _), ((Hb1.out.other (by simp <;> omega) _).other (by simp <;> omega) _), ((hnx.setCell (by simp; omega) _).setCell (by simp; omega) _)⟩
        case measure => simp [intOf]; omega
      · have hq : (bits BinOp.and IntKind.i64 (x / 1048576) 3 == 0) = true := by assumption
        have hz : ¬ bits BinOp.and IntKind.i64 y 7 = 0 := by assumption
        have hn : ¬ (zb L k = true ∧ lc (zb L) 1 k < 1) := fun hh => by have := hh.1; rw [HZ.out] at this; exact hz (by simpa using this)
        obtain ⟨e1, e2, e3⟩ := step_still (hv := hvs H) (s := svs L) (q := qs H) hn (by rw [HQ.out]; exact hq)
        go_roundw
        case rel => exact ⟨k + 1, _, by omega, by go_num, by rw [e3, HM.out], by rw [e1], by rw [(upd_again (upd_set _ hkT) _ hkT).1]; exact HTl.out, Lib.hid (told_on HT.out (upd_again (upd_set _ hkT) _ hkT) (e2)), ((HB.out.setInt k _).setInt k _), ((Hb0.out.other (by simp <;> omega) _).other (by simp <;> omega) _), ((Hb1.out.other (by simp <;> omega) _).other (by simp <;> omega) _), ((hnx.setCell (by simp; omega) _).setCell (by simp; omega) _)⟩
        case measure => simp [intOf]; omega
      · have hq : (bits BinOp.and IntKind.i64 (x / 1048576) 3 == 0) = false := by assumption
        have hz : bits BinOp.and IntKind.i64 y 7 = 0 := by assumption
        have hg : ((lc (zb L) 1 k : Nat) : Int) < 1 := by assumption
        obtain ⟨e1, e2, e3⟩ := step_liar (hv := hvs H) (s := svs L) (q := qs H) (z := zb L) (f := 1) (k := k) (by rw [HZ.out, hz]; rfl) (by omega)
        go_roundw
        case rel => exact ⟨k + 1, _, by omega, by go_num, by rw [e3, HM.out], by rw [e1]; go_num, by rw [(upd_again (upd_set _ hkT) _ hkT).1]; exact HTl.out, Lib.hid (told_on HT.out (upd_again (upd_set _ hkT) _ hkT) (e2.trans HS.out)), ((HB.out.setInt k _).setInt k _), ((Hb0.out.other (by simp <;> omega) _).other (by simp <;> omega) _), ((Hb1.out.other (by simp <;> omega) _).other (by simp <;> omega) _), ((hnx.setCell (by simp; omega) _).setCell (by simp; omega) _)⟩
        case measure => simp [intOf]; omega
      · have hq : (bits BinOp.and IntKind.i64 (x / 1048576) 3 == 0) = false := by assumption
        have hg : (1 : Int) ≤ ((lc (zb L) 1 k : Nat) : Int) := by assumption
        have hn : ¬ (zb L k = true ∧ lc (zb L) 1 k < 1) := fun hh => by omega
        obtain ⟨e1, e2, e3⟩ := step_hold (hv := hvs H) (s := svs L) (q := qs H) hn (by rw [HQ.out]; exact hq) (hvs_nonneg H k)
        go_roundw
        case rel => exact ⟨k + 1, _, by omega, by go_num, by rw [e3, HM.out, HV.out, max_if], by rw [e1], by rw [(upd_set _ hkT).1]; exact HTl.out, Lib.hid (told_on HT.out (upd_set _ hkT) (e2.trans HV.out)), (HB.out.setInt k _), (Hb0.out.other (by simp <;> omega) _), (Hb1.out.other (by simp <;> omega) _), (hnx.setCell (by simp; omega) _)⟩
        case measure => simp [intOf]; omega
      · have hq : (bits BinOp.and IntKind.i64 (x / 1048576) 3 == 0) = false := by assumption
        have hz : ¬ bits BinOp.and IntKind.i64 y 7 = 0 := by assumption
        have hn : ¬ (zb L k = true ∧ lc (zb L) 1 k < 1) := fun hh => by have := hh.1; rw [HZ.out] at this; exact hz (by simpa using this)
        obtain ⟨e1, e2, e3⟩ := step_hold (hv := hvs H) (s := svs L) (q := qs H) hn (by rw [HQ.out]; exact hq) (hvs_nonneg H k)
        go_roundw
        case rel => exact ⟨k + 1, _, by omega, by go_num, by rw [e3, HM.out, HV.out, max_if], by rw [e1], by rw [(upd_set _ hkT).1]; exact HTl.out, Lib.hid (told_on HT.out (upd_set _ hkT) (e2.trans HV.out)), (HB.out.setInt k _), (Hb0.out.other (by simp <;> omega) _), (Hb1.out.other (by simp <;> omega) _), (hnx.setCell (by simp; omega) _)⟩
        case measure => simp [intOf]; omega
    · obtain rfl : k = 4 := by omega
      have HTT := Lib.hid (told_all hT HT.out)
      have hr1 : ReadsInt wr .i64 (some ⟨w.heap.size + 1 + 1, 0, none⟩) T.length T := ⟨rfl, by omega, fun _ => ⟨_, rfl, fun j hj => by rw [add_plain]; exact hB.int j hj⟩⟩
      have HR := Lib.hid hr1
      obtain ⟨⟨v, ok⟩, hp⟩ : ∃ p, vouched 1 T = p := ⟨_, rfl⟩
      have HP := Lib.hid hp
      have HT' := Lib.hid hT
      have HB := Lib.hid hB
      clear hr1 hp hT hB
      go_wp2_with fail
      have hcall := vouched_any 1 (some ⟨w.heap.size + 1 + 1, 0, none⟩) 4 T wr HR.out
      rw [HT'.out] at hcall
      refine hcall.mono ?_
      rintro e w1 ⟨rfl, hb1⟩
      rw [HP.out]
      have k1 := hnx.trans (hb1.mono hnx.size)
      have b0 := b0.below hb1
      have b1 := b1.below hb1
      clear hb1 hcall
      cases ok with
      | false =>
        obtain rfl : v = 0 := vouched_false _ _ _ HP.out
        go_wp2_with fail
        refine (awake_any _).mono ?_
        rintro e w2 ⟨rfl, hb2⟩
        go_wp2
        go_ret
        exact ⟨rfl, k1.trans (hb2.mono k1.size)⟩
      | true =>
        have hv := sound_up (hvs H) (svs L) (qs H) (zb L) 1 v (by have := HP.out; rw [HTT.out] at this; exact this)
        have hmv : v ≤ most (hvs H) (svs L) (qs H) (zb L) 1 4 := hv.2
        have hv0 := hv.1
        generalize most (hvs H) (svs L) (qs H) (zb L) 1 4 = mo at hmv
        clear hv
        have hd1 : decide (mo < v) = false := decide_eq_false (by omega)
        have hd2 : decide (v < 0) = false := decide_eq_false (by omega)
        go_wp2
        go_loopw [16] (fun i wr => ∃ k : Nat, k ≤ 4 ∧ i = .int .i64 k ∧ Blk.Is wr w.heap.size (Blk.ints .i64 H) 35 ∧ Blk.Is wr (w.heap.size + 1) (Blk.ints .i64 L) 35 ∧ Below w.heap.size w wr) (fun i _ => 4 - (intOf i).toNat)
        case atStart => exact ⟨0, Nat.zero_le _, rfl, b0, b1, k1⟩
        case round =>
          clear b0 b1 k1
          obtain ⟨k, hk, rfl, b0, b1, k1⟩ := hrel
          by_cases hlt : k < 4
          · have hd3 : decide ((k : Int) < 4) = true := decide_eq_true (by omega)
            have h1 := b0.int k (by have := HH.out; omega)
            have HW := Lib.hid (show hvs H k = bits .and .i64 (H.getD k 0) 1048575 from rfl)
            generalize H.getD k 0 = x at h1 HW
            go_wp2
            generalize bits BinOp.and IntKind.i64 x 1048575 = ww at HW ⊢
            obtain ⟨wo, rfl⟩ : ∃ wo : World, wo = wr := ⟨_, rfl⟩
            go_loopw [18, 19, 20] (fun rc sc jj wi => ∃ j m : Nat, j ≤ 4 ∧ m ≤ j ∧ jj = .int .i64 j ∧ rc = .int .i64 (reached (hvs H) (zb L) 1 ww j : Nat) ∧ sc = .int .i64 m ∧ Blk.Is wi w.heap.size (Blk.ints .i64 H) 35 ∧ Blk.Is wi (w.heap.size + 1) (L.map (Value.int .i64)) 35 ∧ Below w.heap.size w wi) (fun _ _ jj _ => 4 - (intOf jj).toNat)
            case atStart => exact ⟨0, 0, Nat.zero_le _, Nat.zero_le _, rfl, rfl, rfl, b0, b1, k1⟩
            case round =>
              clear b0 b1 k1 h1
              obtain ⟨j, m, hj, hm, rfl, rfl, rfl, b0, b1, k1⟩ := hrel
              have hrb : reached (hvs H) (zb L) 1 ww j ≤ j := num_le _ _
              by_cases hltj : j < 4
              · have hj7 : j < 7 := by omega
                have h1 := b0.int j (by have := HH.out; omega)
                have h2 := Blk.Is.int b1 j (by have := HL.out; omega)
                have HR1 := Lib.hid (show reached (hvs H) (zb L) 1 ww (j + 1) = reached (hvs H) (zb L) 1 ww j + (if (!liar (zb L) 1 j && decide (ww ≤ hvs H j)) = true then 1 else 0) from rfl)
                have HZ := Lib.hid (show zb L j = (bits .and .i64 (L.getD j 0) 7 == 0) from rfl)
                have HV := Lib.hid (show hvs H j = bits .and .i64 (H.getD j 0) 1048575 from rfl)
                generalize H.getD j 0 = x' at h1 HV
                generalize L.getD j 0 = y' at h2 HZ
                generalize reached (hvs H) (zb L) 1 ww j = rc at *
                by_cases hz : bits BinOp.and IntKind.i64 y' 7 = 0
                · have hz' : (bits BinOp.and IntKind.i64 y' 7 == 0) = true := by rw [hz]; rfl
                  go_wp2_with (refine Blk.load_row 35 (.tmp 5) rfl (by rfl) (w.heap.size + 1) rfl 35 (L.map (Value.int .i64)) _ b1 Try.underlying35 rfl (by rw [List.length_map, HL.out]; kernel_rfl) ?_)
                  refine (lied_walk L j 1 wr HL.out hj7).mono ?_
                  rintro e w2 ⟨rfl, hb2⟩
                  obtain ⟨lr, hlr⟩ : ∃ lr, liar (zb L) 1 j = lr := ⟨_, rfl⟩
                  have HLR := Lib.hid hlr
                  rw [hlr]
                  clear hlr
                  have k2 := k1.trans (hb2.mono k1.size)
                  have b0 := Blk.Is.below b0 hb2
                  have b1 := Blk.Is.below b1 hb2
                  have h1 := Blk.cell_below hb2 h1
                  have h2 := Blk.cell_below hb2 h2
                  clear k1 hb2
                  cases lr with
                  | true =>
                    have hrn : reached (hvs H) (zb L) 1 ww (j + 1) = rc := by rw [HR1.out, HLR.out]; rfl
                    have HRN := Lib.hid hrn
                    clear hrn
                    go_wp2_with (refine Blk.load_row 35 (.tmp 5) rfl (by rfl) (w.heap.size + 1) rfl 35 (L.map (Value.int .i64)) _ b1 Try.underlying35 rfl (by rw [List.length_map, HL.out]; kernel_rfl) ?_)
                    refine (lied_walk L j 1 w2 HL.out hj7).mono ?_
                    rintro e w3 ⟨rfl, hb3⟩
                    rw [HLR.out]
                    have k3 := k2.trans (hb3.mono k2.size)
                    have b0 := Blk.Is.below b0 hb3
                    have b1 := Blk.Is.below b1 hb3
                    go_wp2
                    go_roundw
                    case rel => exact ⟨j + 1, m + 1, by omega, by omega, by go_num, by rw [HRN.out], by go_num, b0, b1, k3⟩
                    case measure => simp [intOf]; omega
                  | false =>
                    by_cases hw : ww ≤ bits BinOp.and IntKind.i64 x' 1048575
                    · have hrn : reached (hvs H) (zb L) 1 ww (j + 1) = rc + 1 := by rw [HR1.out, HLR.out, HV.out]; simp [hw]
                      have HRN := Lib.hid hrn
                      clear hrn
                      go_wp2_with (refine Blk.load_row 35 (.tmp 5) rfl (by rfl) (w.heap.size + 1) rfl 35 (L.map (Value.int .i64)) _ b1 Try.underlying35 rfl (by rw [List.length_map, HL.out]; kernel_rfl) ?_)
                      refine (lied_walk L j 1 w2 HL.out hj7).mono ?_
                      rintro e w3 ⟨rfl, hb3⟩
                      rw [HLR.out]
                      have k3 := k2.trans (hb3.mono k2.size)
                      have b0 := Blk.Is.below b0 hb3
                      have b1 := Blk.Is.below b1 hb3
                      go_wp2
                      go_roundw
                      case rel => exact ⟨j + 1, m, by omega, by omega, by go_num, by rw [HRN.out]; go_num, by go_num, b0, b1, k3⟩
                      case measure => simp [intOf]; omega
                    · have hrn : reached (hvs H) (zb L) 1 ww (j + 1) = rc := by rw [HR1.out, HLR.out, HV.out]; simp [hw]
                      have HRN := Lib.hid hrn
                      clear hrn
                      go_wp2_with (refine Blk.load_row 35 (.tmp 5) rfl (by rfl) (w.heap.size + 1) rfl 35 (L.map (Value.int .i64)) _ b1 Try.underlying35 rfl (by rw [List.length_map, HL.out]; kernel_rfl) ?_)
                      refine (lied_walk L j 1 w2 HL.out hj7).mono ?_
                      rintro e w3 ⟨rfl, hb3⟩
                      rw [HLR.out]
                      have k3 := k2.trans (hb3.mono k2.size)
                      have b0 := Blk.Is.below b0 hb3
                      have b1 := Blk.Is.below b1 hb3
                      go_wp2
                      go_roundw
                      case rel => exact ⟨j + 1, m, by omega, by omega, by go_num, by rw [HRN.out], by go_num, b0, b1, k3⟩
                      case measure => simp [intOf]; omega
                · have hz' : (bits BinOp.and IntKind.i64 y' 7 == 0) = false := beq_eq_false_iff_ne.2 hz
                  have hlr : liar (zb L) 1 j = false := by rw [liar, HZ.out, hz']; rfl
                  have HLR := Lib.hid hlr
                  clear hlr
                  by_cases hw : ww ≤ bits BinOp.and IntKind.i64 x' 1048575
                  · have hrn : reached (hvs H) (zb L) 1 ww (j + 1) = rc + 1 := by rw [HR1.out, HLR.out, HV.out]; simp [hw]
                    have HRN := Lib.hid hrn
                    clear hrn
                    go_wp2
                    go_roundw
                    case rel => exact ⟨j + 1, m, by omega, by omega, by go_num, by rw [HRN.out]; go_num, by go_num, b0, b1, k1⟩
                    case measure => simp [intOf]; omega
                  · have hrn : reached (hvs H) (zb L) 1 ww (j + 1) = rc := by rw [HR1.out, HLR.out, HV.out]; simp [hw]
                    have HRN := Lib.hid hrn
                    clear hrn
                    go_wp2
                    go_roundw
                    case rel => exact ⟨j + 1, m, by omega, by omega, by go_num, by rw [HRN.out], by go_num, b0, b1, k1⟩
                    case measure => simp [intOf]; omega
              · obtain rfl : j = 4 := by omega
                have hdn := sound_down (hvs H) (svs L) (qs H) (zb L) 1 v ww (by have := HP.out; rw [HTT.out] at this; exact this)
                have hdn' : 1 + 1 ≤ reached (hvs H) (zb L) 1 ww 4 → ww ≤ v := hdn
                clear hdn
                generalize reached (hvs H) (zb L) 1 ww 4 = rc at *
                by_cases hr1 : 1 + 1 ≤ rc
                · have hle := hdn' hr1
                  clear hdn'
                  by_cases hm1 : m ≤ 1
                  all_goals
                    go_wp2
                    go_roundw
                    case rel => exact ⟨k + 1, by omega, by go_num, b0, b1, k1⟩
                    case measure => simp [intOf]; omega
                · clear hdn'
                  go_wp2
                  go_roundw
                  case rel => exact ⟨k + 1, by omega, by go_num, b0, b1, k1⟩
                  case measure => simp [intOf]; omega
          · go_wp2_with fail
            refine (awake_any _).mono ?_
            rintro e w2 ⟨rfl, hb2⟩
            go_wp2
            go_ret
            exact ⟨rfl, k1.trans (hb2.mono k1.size)⟩

set_option maxHeartbeats 2000000 in
set_option maxRecDepth 100000 in
theorem sound_walk2 (t : Int) (H L : List Int) (w : World) (hh : H.length = 7) (hl : L.length = 7) (ht : bits .and .i64 t 1 = 1) :
    Calls Try.prog 5 #[.int .i64 t, .agg (H.map (Value.int .i64)).toArray, .agg (L.map (Value.int .i64)).toArray] w fun e w' => e = .returned (.bool true) ∧ Below w.heap.size w w' := by
  have hmk : ∀ W : World, (Instr.makeSlice 31 (.int .i64 7) (.int .i64 7)).run Try.prog W = .ok (.slice (some ⟨W.heap.size, 0, none⟩) 7 7) (W.alloc (.cells (madeCells #[.int .i64 0] 7) 3)) := fun W => by
    have := print_make (P := Try.prog) 31 3 .i64 8 Try.underlying31 PStampVouches.info3 (by decide) 7 (by decide) W
    simpa using this
  have HH := Lib.hid hh
  have HL := Lib.hid hl
  clear hh hl
  have b0 : Blk.Is ((w.alloc (.cells (H.map (Value.int .i64)).toArray 35)).alloc (.cells (L.map (Value.int .i64)).toArray 35)) w.heap.size (Blk.ints .i64 H) 35 := (Blk.new w _ _).alloc _
  have b1 : Blk.Is ((w.alloc (.cells (H.map (Value.int .i64)).toArray 35)).alloc (.cells (L.map (Value.int .i64)).toArray 35)) (w.heap.size + 1) (Blk.ints .i64 L) 35 := by
    have := Blk.new (w.alloc (.cells (H.map (Value.int .i64)).toArray 35)) (L.map (Value.int .i64)) 35
    simpa [Blk.ints] using this
  have k0 : Below w.heap.size w ((w.alloc (.cells (H.map (Value.int .i64)).toArray 35)).alloc (.cells (L.map (Value.int .i64)).toArray 35)) := ((Below.refl _ _).alloc (Nat.le_refl _) _).alloc (by simp) _
  have B0 := Lib.hid b0
  have B1 := Lib.hid b1
  clear b0 b1
  go_enter Try.func5, Try.ntmps5
  go_wp2
  go_loopw [10, 11, 12] (fun mo li i wr => ∃ (k : Nat) (T : List Int), k ≤ 7 ∧ i = .int .i64 k ∧ mo = .int .i64 (most (hvs H) (svs L) (qs H) (zb L) 2 k) ∧ li = .int .i64 (lc (zb L) 2 k : Nat) ∧ T.length = 7 ∧ Hid (∀ j, j < k → T.getD j 0 = tells (hvs H) (svs L) (qs H) (zb L) 2 j) ∧
      Blk.Is wr (w.heap.size + 1 + 1) (Blk.ints .i64 T) 3 ∧ Blk.Is wr w.heap.size (Blk.ints .i64 H) 35 ∧ Blk.Is wr (w.heap.size + 1) (Blk.ints .i64 L) 35 ∧ Below w.heap.size w wr)
    (fun _ _ i _ => 7 - (intOf i).toNat)
  case atStart =>
    refine ⟨0, List.replicate 7 0, Nat.zero_le _, rfl, rfl, rfl, by simp, Lib.hid (fun j hj => absurd hj (by omega)), ?_, B0.out.alloc _, B1.out.alloc _, k0.alloc (by simp; omega) _⟩
    have := Blk.new ((w.alloc (Obj.cells (List.map (Value.int IntKind.i64) H).toArray 35)).alloc (Obj.cells (List.map (Value.int IntKind.i64) L).toArray 35)) (Blk.ints .i64 (List.replicate 7 0)) 3
    have e := Blk.made_ints .i64 7
    rw [e]
    simpa using this
  case round =>
    obtain ⟨k, T, hk, rfl, rfl, rfl, hT, HT, hB, b0, b1, hnx⟩ := hrel
    have hlc := lc_le (zb L) 2 k
    by_cases hlt : k < 7
    · have h1 := b0.int k (by have := HH.out; omega)
      have h2 := b1.int k (by have := HL.out; omega)
      have f3 := hB.frozen k
      have h3 := hB.int k (by omega)
      have hp := and20_nonneg (H.getD k 0)
      have HZ := Lib.hid (show zb L k = (bits .and .i64 (L.getD k 0) 7 == 0) from rfl)
      have HQ := Lib.hid (show qs H k = (bits .and .i64 (H.getD k 0 / 1048576) 3 == 0) from rfl)
      have HV := Lib.hid (show hvs H k = bits .and .i64 (H.getD k 0) 1048575 from rfl)
      have HS := Lib.hid (show svs L k = L.getD k 0 / 8 from rfl)
      generalize H.getD k 0 = x at h1 hp HQ HV
      generalize L.getD k 0 = y at h2 HZ HS
      have HTl := Lib.hid hT
      have HB := Lib.hid hB
      have Hb0 := Lib.hid b0
      have Hb1 := Lib.hid b1
      have hkT : k < T.length := by omega
      clear hT hB b0 b1
      generalize hmo : most (hvs H) (svs L) (qs H) (zb L) 2 k = mo
      have HM := Lib.hid hmo
      clear hmo
      go_wp2
      · have hq : (bits BinOp.and IntKind.i64 (x / 1048576) 3 == 0) = true := by assumption
        have hz : bits BinOp.and IntKind.i64 y 7 = 0 := by assumption
        have hg : ((lc (zb L) 2 k : Nat) : Int) < 2 := by assumption
        obtain ⟨e1, e2, e3⟩ := step_liar (hv := hvs H) (s := svs L) (q := qs H) (z := zb L) (f := 2) (k := k) (by rw [HZ.out, hz]; rfl) (by omega)
        go_roundw
        case rel => exact ⟨k + 1, _, by omega, by go_num, by rw [e3, HM.out], by rw [e1]; go_num, by rw [(upd_again (upd_again (upd_set _ hkT) _ hkT) _ hkT).1]; exact HTl.out, Lib.hid (told_on HT.out (upd_again (upd_again (upd_set _ hkT) _ hkT) _ hkT) (e2.trans HS.out)), (((HB.out.setInt k _).setInt k _).setInt k _), (((Hb0.out.other (by simp <;> omega) _).other (by simp <;> omega) _).other (by simp <;> omega) _), (((Hb1.out.other (by simp <;> omega) _).other (by simp <;> omega) _).other (by simp <;> omega) _), (((hnx.setCell (by simp; omega) _).setCell (by simp; omega) _).setCell (by simp; omega) _)⟩
        case measure => simp [intOf]; omega
      · have hq : (bits BinOp.and IntKind.i64 (x / 1048576) 3 == 0) = true := by assumption
        have hg : (2 : Int) ≤ ((lc (zb L) 2 k : Nat) : Int) := by assumption
        have hn : ¬ (zb L k = true ∧ lc (zb L) 2 k < 2) := fun hh => by omega
        obtain ⟨e1, e2, e3⟩ := step_still (hv := hvs H) (s := svs L) (q := qs H) hn (by rw [HQ.out]; exact hq)
        go_roundw
        case rel => exact ⟨k + 1, _, by omega, by go_num, by rw [e3, HM.out], by rw [e1], by rw [(upd_again (upd_set _ hkT) _ hkT).1]; exact HTl.out, Lib.hid (told_on HT.out (upd_again (upd_set _ hkT) _ hkT) (e2)), ((HB.out.setInt k _).setInt k _), ((Hb0.out.other (by simp <;> omega) _).other (by simp <;> omega) _), ((Hb1.out.other (by simp <;> omega) _).other (by simp <;> omega) _), ((hnx.setCell (by simp; omega) _).setCell (by simp; omega) _)⟩
        case measure => simp [intOf]; omega
      · have hq : (bits BinOp.and IntKind.i64 (x / 1048576) 3 == 0) = true := by assumption
        have hz : ¬ bits BinOp.and IntKind.i64 y 7 = 0 := by assumption
        have hn : ¬ (zb L k = true ∧ lc (zb L) 2 k < 2) := fun hh => by have := hh.1; rw [HZ.out] at this; exact hz (by simpa using this)
        obtain ⟨e1, e2, e3⟩ := step_still (hv := hvs H) (s := svs L) (q := qs H) hn (by rw [HQ.out]; exact hq)
        go_roundw
        case rel => exact ⟨k + 1, _, by omega, by go_num, by rw [e3, HM.out], by rw [e1], by rw [(upd_again (upd_set _ hkT) _ hkT).1]; exact HTl.out, Lib.hid (told_on HT.out (upd_again (upd_set _ hkT) _ hkT) (e2)), ((HB.out.setInt k _).setInt k _), ((Hb0.out.other (by simp <;> omega) _).other (by simp <;> omega) _), ((Hb1.out.other (by simp <;> omega) _).other (by simp <;> omega) _), ((hnx.setCell (by simp; omega) _).setCell (by simp; omega) _)⟩
        case measure => simp [intOf]; omega
      · have hq : (bits BinOp.and IntKind.i64 (x / 1048576) 3 == 0) = false := by assumption
        have hz : bits BinOp.and IntKind.i64 y 7 = 0 := by assumption
        have hg : ((lc (zb L) 2 k : Nat) : Int) < 2 := by assumption
        obtain ⟨e1, e2, e3⟩ := step_liar (hv := hvs H) (s := svs L) (q := qs H) (z := zb L) (f := 2) (k := k) (by rw [HZ.out, hz]; rfl) (by omega)
        go_roundw
        case rel => exact ⟨k + 1, _, by omega, by go_num, by rw [e3, HM.out], by rw [e1]; go_num, by rw [(upd_again (upd_set _ hkT) _ hkT).1]; exact HTl.out, Lib.hid (told_on HT.out (upd_again (upd_set _ hkT) _ hkT) (e2.trans HS.out)), ((HB.out.setInt k _).setInt k _), ((Hb0.out.other (by simp <;> omega) _).other (by simp <;> omega) _), ((Hb1.out.other (by simp <;> omega) _).other (by simp <;> omega) _), ((hnx.setCell (by simp; omega) _).setCell (by simp; omega) _)⟩
        case measure => simp [intOf]; omega
      · have hq : (bits BinOp.and IntKind.i64 (x / 1048576) 3 == 0) = false := by assumption
        have hg : (2 : Int) ≤ ((lc (zb L) 2 k : Nat) : Int) := by assumption
        have hn : ¬ (zb L k = true ∧ lc (zb L) 2 k < 2) := fun hh => by omega
        obtain ⟨e1, e2, e3⟩ := step_hold (hv := hvs H) (s := svs L) (q := qs H) hn (by rw [HQ.out]; exact hq) (hvs_nonneg H k)
        go_roundw
        case rel => exact ⟨k + 1, _, by omega, by go_num, by rw [e3, HM.out, HV.out, max_if], by rw [e1], by rw [(upd_set _ hkT).1]; exact HTl.out, Lib.hid (told_on HT.out (upd_set _ hkT) (e2.trans HV.out)), (HB.out.setInt k _), (Hb0.out.other (by simp <;> omega) _), (Hb1.out.other (by simp <;> omega) _), (hnx.setCell (by simp; omega) _)⟩
        case measure => simp [intOf]; omega
      · have hq : (bits BinOp.and IntKind.i64 (x / 1048576) 3 == 0) = false := by assumption
        have hz : ¬ bits BinOp.and IntKind.i64 y 7 = 0 := by assumption
        have hn : ¬ (zb L k = true ∧ lc (zb L) 2 k < 2) := fun hh => by have := hh.1; rw [HZ.out] at this; exact hz (by simpa using this)
        obtain ⟨e1, e2, e3⟩ := step_hold (hv := hvs H) (s := svs L) (q := qs H) hn (by rw [HQ.out]; exact hq) (hvs_nonneg H k)
        go_roundw
        case rel => exact ⟨k + 1, _, by omega, by go_num, by rw [e3, HM.out, HV.out, max_if], by rw [e1], by rw [(upd_set _ hkT).1]; exact HTl.out, Lib.hid (told_on HT.out (upd_set _ hkT) (e2.trans HV.out)), (HB.out.setInt k _), (Hb0.out.other (by simp <;> omega) _), (Hb1.out.other (by simp <;> omega) _), (hnx.setCell (by simp; omega) _)⟩
        case measure => simp [intOf]; omega
    · obtain rfl : k = 7 := by omega
      have HTT := Lib.hid (told_all hT HT.out)
      have hr1 : ReadsInt wr .i64 (some ⟨w.heap.size + 1 + 1, 0, none⟩) T.length T := ⟨rfl, by omega, fun _ => ⟨_, rfl, fun j hj => by rw [add_plain]; exact hB.int j hj⟩⟩
      have HR := Lib.hid hr1
      obtain ⟨⟨v, ok⟩, hp⟩ : ∃ p, vouched 2 T = p := ⟨_, rfl⟩
      have HP := Lib.hid hp
      have HT' := Lib.hid hT
      have HB := Lib.hid hB
      clear hr1 hp hT hB
      go_wp2_with fail
      have hcall := vouched_any 2 (some ⟨w.heap.size + 1 + 1, 0, none⟩) 7 T wr HR.out
      rw [HT'.out] at hcall
      refine hcall.mono ?_
      rintro e w1 ⟨rfl, hb1⟩
      rw [HP.out]
      have k1 := hnx.trans (hb1.mono hnx.size)
      have b0 := b0.below hb1
      have b1 := b1.below hb1
      clear hb1 hcall
      cases ok with
      | false =>
        obtain rfl : v = 0 := vouched_false _ _ _ HP.out
        go_wp2_with fail
        refine (awake_any _).mono ?_
        rintro e w2 ⟨rfl, hb2⟩
        go_wp2
        go_ret
        exact ⟨rfl, k1.trans (hb2.mono k1.size)⟩
      | true =>
        have hv := sound_up (hvs H) (svs L) (qs H) (zb L) 2 v (by have := HP.out; rw [HTT.out] at this; exact this)
        have hmv : v ≤ most (hvs H) (svs L) (qs H) (zb L) 2 7 := hv.2
        have hv0 := hv.1
        generalize most (hvs H) (svs L) (qs H) (zb L) 2 7 = mo at hmv
        clear hv
        have hd1 : decide (mo < v) = false := decide_eq_false (by omega)
        have hd2 : decide (v < 0) = false := decide_eq_false (by omega)
        go_wp2
        go_loopw [16] (fun i wr => ∃ k : Nat, k ≤ 7 ∧ i = .int .i64 k ∧ Blk.Is wr w.heap.size (Blk.ints .i64 H) 35 ∧ Blk.Is wr (w.heap.size + 1) (Blk.ints .i64 L) 35 ∧ Below w.heap.size w wr) (fun i _ => 7 - (intOf i).toNat)
        case atStart => exact ⟨0, Nat.zero_le _, rfl, b0, b1, k1⟩
        case round =>
          clear b0 b1 k1
          obtain ⟨k, hk, rfl, b0, b1, k1⟩ := hrel
          by_cases hlt : k < 7
          · have hd3 : decide ((k : Int) < 7) = true := decide_eq_true (by omega)
            have h1 := b0.int k (by have := HH.out; omega)
            have HW := Lib.hid (show hvs H k = bits .and .i64 (H.getD k 0) 1048575 from rfl)
            generalize H.getD k 0 = x at h1 HW
            go_wp2
            generalize bits BinOp.and IntKind.i64 x 1048575 = ww at HW ⊢
            obtain ⟨wo, rfl⟩ : ∃ wo : World, wo = wr := ⟨_, rfl⟩
            go_loopw [18, 19, 20] (fun rc sc jj wi => ∃ j m : Nat, j ≤ 7 ∧ m ≤ j ∧ jj = .int .i64 j ∧ rc = .int .i64 (reached (hvs H) (zb L) 2 ww j : Nat) ∧ sc = .int .i64 m ∧ Blk.Is wi w.heap.size (Blk.ints .i64 H) 35 ∧ Blk.Is wi (w.heap.size + 1) (L.map (Value.int .i64)) 35 ∧ Below w.heap.size w wi) (fun _ _ jj _ => 7 - (intOf jj).toNat)
            case atStart => exact ⟨0, 0, Nat.zero_le _, Nat.zero_le _, rfl, rfl, rfl, b0, b1, k1⟩
            case round =>
              clear b0 b1 k1 h1
              obtain ⟨j, m, hj, hm, rfl, rfl, rfl, b0, b1, k1⟩ := hrel
              have hrb : reached (hvs H) (zb L) 2 ww j ≤ j := num_le _ _
              by_cases hltj : j < 7
              · have hj7 : j < 7 := by omega
                have h1 := b0.int j (by have := HH.out; omega)
                have h2 := Blk.Is.int b1 j (by have := HL.out; omega)
                have HR1 := Lib.hid (show reached (hvs H) (zb L) 2 ww (j + 1) = reached (hvs H) (zb L) 2 ww j + (if (!liar (zb L) 2 j && decide (ww ≤ hvs H j)) = true then 1 else 0) from rfl)
                have HZ := Lib.hid (show zb L j = (bits .and .i64 (L.getD j 0) 7 == 0) from rfl)
                have HV := Lib.hid (show hvs H j = bits .and .i64 (H.getD j 0) 1048575 from rfl)
                generalize H.getD j 0 = x' at h1 HV
                generalize L.getD j 0 = y' at h2 HZ
                generalize reached (hvs H) (zb L) 2 ww j = rc at *
                by_cases hz : bits BinOp.and IntKind.i64 y' 7 = 0
                · have hz' : (bits BinOp.and IntKind.i64 y' 7 == 0) = true := by rw [hz]; rfl
                  go_wp2_with (refine Blk.load_row 35 (.tmp 5) rfl (by rfl) (w.heap.size + 1) rfl 35 (L.map (Value.int .i64)) _ b1 Try.underlying35 rfl (by rw [List.length_map, HL.out]; kernel_rfl) ?_)
                  refine (lied_walk L j 2 wr HL.out hj7).mono ?_
                  rintro e w2 ⟨rfl, hb2⟩
                  obtain ⟨lr, hlr⟩ : ∃ lr, liar (zb L) 2 j = lr := ⟨_, rfl⟩
                  have HLR := Lib.hid hlr
                  rw [hlr]
                  clear hlr
                  have k2 := k1.trans (hb2.mono k1.size)
                  have b0 := Blk.Is.below b0 hb2
                  have b1 := Blk.Is.below b1 hb2
                  have h1 := Blk.cell_below hb2 h1
                  have h2 := Blk.cell_below hb2 h2
                  clear k1 hb2
                  cases lr with
                  | true =>
                    have hrn : reached (hvs H) (zb L) 2 ww (j + 1) = rc := by rw [HR1.out, HLR.out]; rfl
                    have HRN := Lib.hid hrn
                    clear hrn
                    go_wp2_with (refine Blk.load_row 35 (.tmp 5) rfl (by rfl) (w.heap.size + 1) rfl 35 (L.map (Value.int .i64)) _ b1 Try.underlying35 rfl (by rw [List.length_map, HL.out]; kernel_rfl) ?_)
                    refine (lied_walk L j 2 w2 HL.out hj7).mono ?_
                    rintro e w3 ⟨rfl, hb3⟩
                    rw [HLR.out]
                    have k3 := k2.trans (hb3.mono k2.size)
                    have b0 := Blk.Is.below b0 hb3
                    have b1 := Blk.Is.below b1 hb3
                    go_wp2
                    go_roundw
                    case rel => exact ⟨j + 1, m + 1, by omega, by omega, by go_num, by rw [HRN.out], by go_num, b0, b1, k3⟩
                    case measure => simp [intOf]; omega
                  | false =>
                    by_cases hw : ww ≤ bits BinOp.and IntKind.i64 x' 1048575
                    · have hrn : reached (hvs H) (zb L) 2 ww (j + 1) = rc + 1 := by rw [HR1.out, HLR.out, HV.out]; simp [hw]
                      have HRN := Lib.hid hrn
                      clear hrn
                      go_wp2_with (refine Blk.load_row 35 (.tmp 5) rfl (by rfl) (w.heap.size + 1) rfl 35 (L.map (Value.int .i64)) _ b1 Try.underlying35 rfl (by rw [List.length_map, HL.out]; kernel_rfl) ?_)
                      refine (lied_walk L j 2 w2 HL.out hj7).mono ?_
                      rintro e w3 ⟨rfl, hb3⟩
                      rw [HLR.out]
                      have k3 := k2.trans (hb3.mono k2.size)
                      have b0 := Blk.Is.below b0 hb3
                      have b1 := Blk.Is.below b1 hb3
                      go_wp2
                      go_roundw
                      case rel => exact ⟨j + 1, m, by omega, by omega, by go_num, by rw [HRN.out]; go_num, by go_num, b0, b1, k3⟩
                      case measure => simp [intOf]; omega
                    · have hrn : reached (hvs H) (zb L) 2 ww (j + 1) = rc := by rw [HR1.out, HLR.out, HV.out]; simp [hw]
                      have HRN := Lib.hid hrn
                      clear hrn
                      go_wp2_with (refine Blk.load_row 35 (.tmp 5) rfl (by rfl) (w.heap.size + 1) rfl 35 (L.map (Value.int .i64)) _ b1 Try.underlying35 rfl (by rw [List.length_map, HL.out]; kernel_rfl) ?_)
                      refine (lied_walk L j 2 w2 HL.out hj7).mono ?_
                      rintro e w3 ⟨rfl, hb3⟩
                      rw [HLR.out]
                      have k3 := k2.trans (hb3.mono k2.size)
                      have b0 := Blk.Is.below b0 hb3
                      have b1 := Blk.Is.below b1 hb3
                      go_wp2
                      go_roundw
                      case rel => exact ⟨j + 1, m, by omega, by omega, by go_num, by rw [HRN.out], by go_num, b0, b1, k3⟩
                      case measure => simp [intOf]; omega
                · have hz' : (bits BinOp.and IntKind.i64 y' 7 == 0) = false := beq_eq_false_iff_ne.2 hz
                  have hlr : liar (zb L) 2 j = false := by rw [liar, HZ.out, hz']; rfl
                  have HLR := Lib.hid hlr
                  clear hlr
                  by_cases hw : ww ≤ bits BinOp.and IntKind.i64 x' 1048575
                  · have hrn : reached (hvs H) (zb L) 2 ww (j + 1) = rc + 1 := by rw [HR1.out, HLR.out, HV.out]; simp [hw]
                    have HRN := Lib.hid hrn
                    clear hrn
                    go_wp2
                    go_roundw
                    case rel => exact ⟨j + 1, m, by omega, by omega, by go_num, by rw [HRN.out]; go_num, by go_num, b0, b1, k1⟩
                    case measure => simp [intOf]; omega
                  · have hrn : reached (hvs H) (zb L) 2 ww (j + 1) = rc := by rw [HR1.out, HLR.out, HV.out]; simp [hw]
                    have HRN := Lib.hid hrn
                    clear hrn
                    go_wp2
                    go_roundw
                    case rel => exact ⟨j + 1, m, by omega, by omega, by go_num, by rw [HRN.out], by go_num, b0, b1, k1⟩
                    case measure => simp [intOf]; omega
              · obtain rfl : j = 7 := by omega
                have hdn := sound_down (hvs H) (svs L) (qs H) (zb L) 2 v ww (by have := HP.out; rw [HTT.out] at this; exact this)
                have hdn' : 2 + 1 ≤ reached (hvs H) (zb L) 2 ww 7 → ww ≤ v := hdn
                clear hdn
                generalize reached (hvs H) (zb L) 2 ww 7 = rc at *
                by_cases hr1 : 2 + 1 ≤ rc
                · have hle := hdn' hr1
                  clear hdn'
                  by_cases hm1 : m ≤ 2
                  all_goals
                    go_wp2
                    go_roundw
                    case rel => exact ⟨k + 1, by omega, by go_num, b0, b1, k1⟩
                    case measure => simp [intOf]; omega
                · clear hdn'
                  go_wp2
                  go_roundw
                  case rel => exact ⟨k + 1, by omega, by go_num, b0, b1, k1⟩
                  case measure => simp [intOf]; omega
          · go_wp2_with fail
            refine (awake_any _).mono ?_
            rintro e w2 ⟨rfl, hb2⟩
            go_wp2
            go_ret
            exact ⟨rfl, k1.trans (hb2.mono k1.size)⟩
end Go.Proofs.Ytkkbpjkplnepiaa.Vou
