/- Audits: what is held last, walked. Conditions: those that are named. -/
import Derived.Test.YthkibccfdpbojaaAuB
namespace Go.Proofs.Ythkibccfdpbojaa.Au
open Go.RowKit
/-- What is held, as cells. -/
abbrev gcs (s c : Int) (d : List UInt8) : List Value := [.int .i64 s, .int .i64 c, .string ⟨d.toArray⟩, nilS, nilS, .int .i64 0]
theorem gcs_one (s c : Int) (d : List UInt8) : (gcs s c d).toArray.all (·.oneCell') = true := by simp [Value.oneCell']
set_option maxHeartbeats 4000000 in
set_option maxRecDepth 100000 in
theorem last1_any (n : Int) (u r ck cl : Nat) (k d d0 : List UInt8) (s c s0 c0 : Int) (w : World) (hk : Blk.Is w ck [.string ⟨k.toArray⟩] 9) (hl : Blk.Is w cl (gcs s0 c0 d0) 62) :
    Calls Try.prog 15 #[.agg (ims n u r).toArray, .agg (rcs k s c d).toArray, .pointer (some ⟨ck, 0, none⟩), .pointer (some ⟨cl, 0, none⟩)] w fun e w' =>
      e = .returned (.tuple #[]) ∧ Blk.Is w' cl (if 0 < cmpS s c s0 c0 then gcs s c d else gcs s0 c0 d0) 62 ∧ But [cl] w w' := by
  obtain ⟨R, hR⟩ : ∃ R, R = if 0 < cmpS s c s0 c0 then gcs s c d else gcs s0 c0 d0 := ⟨_, rfl⟩
  rw [← hR]
  have HR := Lib.hid hR
  clear hR
  have kw : Below w.heap.size w ((w.alloc (.cells (ims n u r).toArray 51)).alloc (.cells (rcs k s c d).toArray 66)) := ((Below.refl _ _).alloc (Nat.le_refl _) _).alloc (by simp) _
  have RB := Lib.hid (Blk.new' (w.alloc (.cells (ims n u r).toArray 51)) (rcs k s c d) 66 (w.heap.size + 1) (by simp))
  have HK := Lib.hid (hk.below kw)
  have HL := Lib.hid (hl.below kw)
  have hck := hk.lt
  have hcl := hl.lt
  have KW := Lib.hid (But.of (S := [cl]) kw)
  clear hk hl kw
  go_enter Try.func15, Try.ntmps15
  go_upto_region 1 with (fail)
  obtain ⟨W, hW⟩ : ∃ W, W = (w.alloc (.cells (ims n u r).toArray 51)).alloc (.cells (rcs k s c d).toArray 66) := ⟨_, rfl⟩
  obtain ⟨p, hp⟩ : ∃ p, p = w.heap.size + 1 := ⟨_, rfl⟩
  rw [← hW] at RB HK HL KW ⊢
  rw [← hp] at RB ⊢
  have hcp : cl < p := by omega
  clear hW hp
  have a := fun i => RB.out.cell i
  have a0 := a 0; have a1 := a 1; have a2 := a 2
  have b0 := HK.out.cell 0
  have c0' := HL.out.cell 0; have c1' := HL.out.cell 1
  simp only [List.getElem?_cons_zero, List.getElem?_cons_succ] at a0 a1 a2 b0 c0' c1'
  clear a
  go_wp2_with fail
  refine (compare_any s c s0 c0 _).mono ?_
  rintro e w1 ⟨rfl, k1⟩
  have RB1 := Lib.hid (RB.out.below k1)
  have HL1 := Lib.hid (HL.out.below k1)
  have KW1 := Lib.hid (KW.out.trans (But.of k1))
  clear a0 a1 a2 b0 c0' c1' k1 RB HL KW HK
  generalize cmpS s c s0 c0 = z at HR
  by_cases hz : 0 < z
  · have d1 : decide (0 < z) = true := decide_eq_true hz
    have HRR : Hid (R = gcs s c d) := Lib.hid (by rw [HR.out, if_pos hz])
    have a := fun i => RB1.out.cell i
    have a1 := a 1; have a2 := a 2; have a3 := a 3; have a4 := a 4; have a5 := a 5; have a6 := a 6
    simp only [List.getElem?_cons_zero, List.getElem?_cons_succ] at a1 a2 a3 a4 a5 a6
    have HL2 : Hid (Blk.Is (w1.setCells cl 0 (gcs s c d)) cl (gcs s c d) 62) := Lib.hid (by
      have := HL1.out.setCells (gcs s c d) 0 (by exact Nat.le_refl 6)
      rwa [Blk.put_all _ _ (by rfl)] at this)
    have KW2 := Lib.hid (KW1.out.setCells (gcs s c d) (c := cl) (by simp) 0)
    clear a
    go_wp2_with (first | (refine Blk.store_row 62 (.tmp 3) (.tmp 20) rfl rfl cl 0 (gcs s c d) rfl rfl HL1.out (by exact Nat.le_refl 6) (by kernel_rfl) (gcs_one _ _ _) ?_; generalize w1.setCells cl 0 (gcs s c d) = w9 at HL2 KW2 ⊢; clear a1 a2 a3 a4 a5 a6) | fail)
    exact ⟨rfl, _, results_none rfl _ _ _, rfl, by rw [HRR.out]; exact HL2.out, KW2.out⟩
  · have d1 : decide (0 < z) = false := decide_eq_false hz
    have HRR : Hid (R = gcs s0 c0 d0) := Lib.hid (by rw [HR.out, if_neg hz])
    go_wp2
    exact ⟨rfl, _, results_none rfl _ _ _, rfl, by rw [HRR.out]; exact HL1.out, KW1.out⟩
end Go.Proofs.Ythkibccfdpbojaa.Au
