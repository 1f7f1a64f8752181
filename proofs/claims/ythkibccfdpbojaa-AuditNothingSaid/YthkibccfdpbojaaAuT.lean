/- Audits: what must come, whatever the arguments are, walked. Conditions: none. -/
import Derived.Test.YthkibccfdpbojaaAuS
namespace Go.Proofs.Ythkibccfdpbojaa.Au
open Go Go.RowKit
/-- The two states and what they lead to. -/
structure Base (w0 w : World) (u r1 a b r2 : Nat) : Prop where
  hu : Blk.Is w u [.int .i64 0, .int .i64 0, .int .i64 0, .int .i64 0, .int .i64 1] 3
  h1 : Blk.Is w r1 (rcs [107] 1 1 [100]) 66
  ha : Blk.Is w a (ims 1 u r1) 51
  hb : Blk.Is w b (ims 2 u r2) 51
  h2 : Blk.Is w r2 (rcs [107] 1 1 [101]) 66
  hk : Below w0.heap.size w0 w
theorem Base.below {w0 w w' : World} {u r1 a b r2 : Nat} (h : Base w0 w u r1 a b r2) (hb : Below w.heap.size w w') : Base w0 w' u r1 a b r2 :=
  ⟨h.hu.below hb, h.h1.below hb, h.ha.below hb, h.hb.below hb, h.h2.below hb, h.hk.trans (hb.mono h.hk.size)⟩
set_option maxHeartbeats 8000000 in
set_option maxRecDepth 100000 in
theorem awake_any (w : World) : Calls Try.prog 4 #[] w fun e w' => e = .returned (.bool true) ∧ Below w.heap.size w w' := by
  obtain ⟨V, hV⟩ : ∃ V, V = (((((w.alloc (.cells #[.int .i64 0, .int .i64 0, .int .i64 0, .int .i64 0, .int .i64 1] 3)).alloc (.cells (rcs [107] 1 1 [100]).toArray 66)).alloc (.cells (ims 1 w.heap.size (w.heap.size + 1)).toArray 51)).alloc (.cells (ims 2 w.heap.size (w.heap.size + 1 + 1 + 1 + 1)).toArray 51)).alloc (.cells (rcs [107] 1 1 [101]).toArray 66)) := ⟨_, rfl⟩
  have hbase : Base w V (w.heap.size) (w.heap.size + 1) (w.heap.size + 1 + 1) (w.heap.size + 1 + 1 + 1) (w.heap.size + 1 + 1 + 1 + 1) := by
    rw [hV]
    exact ⟨((((Blk.new' w [.int .i64 0, .int .i64 0, .int .i64 0, .int .i64 0, .int .i64 1] 3 (w.heap.size) (by simp)).alloc _).alloc _).alloc _).alloc _,
      (((Blk.new' (w.alloc (.cells #[.int .i64 0, .int .i64 0, .int .i64 0, .int .i64 0, .int .i64 1] 3)) (rcs [107] 1 1 [100]) 66 (w.heap.size + 1) (by simp)).alloc _).alloc _).alloc _,
      ((Blk.new' ((w.alloc (.cells #[.int .i64 0, .int .i64 0, .int .i64 0, .int .i64 0, .int .i64 1] 3)).alloc (.cells (rcs [107] 1 1 [100]).toArray 66)) (ims 1 w.heap.size (w.heap.size + 1)) 51 (w.heap.size + 1 + 1) (by simp)).alloc _).alloc _,
      (Blk.new' (((w.alloc (.cells #[.int .i64 0, .int .i64 0, .int .i64 0, .int .i64 0, .int .i64 1] 3)).alloc (.cells (rcs [107] 1 1 [100]).toArray 66)).alloc (.cells (ims 1 w.heap.size (w.heap.size + 1)).toArray 51)) (ims 2 w.heap.size (w.heap.size + 1 + 1 + 1 + 1)) 51 (w.heap.size + 1 + 1 + 1) (by simp)).alloc _,
      Blk.new' ((((w.alloc (.cells #[.int .i64 0, .int .i64 0, .int .i64 0, .int .i64 0, .int .i64 1] 3)).alloc (.cells (rcs [107] 1 1 [100]).toArray 66)).alloc (.cells (ims 1 w.heap.size (w.heap.size + 1)).toArray 51)).alloc (.cells (ims 2 w.heap.size (w.heap.size + 1 + 1 + 1 + 1)).toArray 51)) (rcs [107] 1 1 [101]) 66 (w.heap.size + 1 + 1 + 1 + 1) (by simp),
      (((((Below.refl _ _).alloc (Nat.le_refl _) _).alloc (by simp) _).alloc (by simp; omega) _).alloc (by simp; omega) _).alloc (by simp; omega) _⟩
  have HV := Lib.hid hV
  clear hV
  go_enter Try.func4, Try.ntmps4
  go_upto_region 5 with (fail)
  rw [← HV.out]
  clear HV
  obtain ⟨r2, hr2⟩ : ∃ z, z = w.heap.size + 1 + 1 + 1 + 1 := ⟨_, rfl⟩
  obtain ⟨b, hb⟩ : ∃ z, z = w.heap.size + 1 + 1 + 1 := ⟨_, rfl⟩
  obtain ⟨a, ha⟩ : ∃ z, z = w.heap.size + 1 + 1 := ⟨_, rfl⟩
  obtain ⟨r1, hr1⟩ : ∃ z, z = w.heap.size + 1 := ⟨_, rfl⟩
  rw [← hr2] at hbase ⊢
  rw [← hb] at hbase ⊢
  rw [← ha] at hbase ⊢
  rw [← hr1] at hbase ⊢
  clear hr1 ha hb hr2
  have HB := Lib.hid hbase
  clear hbase
  have c := fun i => HB.out.ha.cell i
  have a0 := c 0; have a1 := c 1; have a2 := c 2; have a3 := c 3; have a4 := c 4
  simp only [List.getElem?_cons_zero, List.getElem?_cons_succ] at a0 a1 a2 a3 a4
  clear c
  have c := fun i => HB.out.hb.cell i
  have b0 := c 0; have b1 := c 1; have b2 := c 2; have b3 := c 3; have b4 := c 4
  simp only [List.getElem?_cons_zero, List.getElem?_cons_succ] at b0 b1 b2 b3 b4
  clear c
  have GB := Lib.hid (Blk.new V (ims 1 w.heap.size r1 ++ ims 2 w.heap.size r2) 51)
  have HN := Lib.hid (HB.out.below ((Below.refl V.heap.size V).alloc (Nat.le_refl _) (.cells (ims 1 w.heap.size r1 ++ ims 2 w.heap.size r2).toArray 51)))
  clear HB
  have HC := Lib.hid (last_two V.heap.size w.heap.size r1 w.heap.size r2 1 2 [107] [100] [101] _ GB.out HN.out.h1 HN.out.h2)
  go_wp2_with fail
  refine HC.out.mono ?_
  rintro e v1 ⟨rfl, k1⟩
  have HB := Lib.hid (HN.out.below k1)
  clear HN GB HC k1
  clear a0 a1 a2 a3 a4 b0 b1 b2 b3 b4
  have TB := Lib.hid (Blk.new v1 [.int .i64 1, .int .i64 1] 24)
  have HN := Lib.hid (HB.out.below ((Below.refl v1.heap.size v1).alloc (Nat.le_refl _) (.cells #[.int .i64 1, .int .i64 1] 24)))
  clear HB
  go_upto_region 6 with (fail)
  obtain ⟨W, hW⟩ : ∃ W, W = v1.alloc (.cells #[.int .i64 1, .int .i64 1] 24) := ⟨_, rfl⟩
  obtain ⟨t, ht⟩ : ∃ t, t = v1.heap.size := ⟨_, rfl⟩
  rw [← hW] at TB HN ⊢
  rw [← ht] at TB ⊢
  clear hW ht
  have HB := HN
  clear HN
  have c := fun i => HB.out.ha.cell i
  have a0 := c 0; have a1 := c 1; have a2 := c 2; have a3 := c 3; have a4 := c 4
  simp only [List.getElem?_cons_zero, List.getElem?_cons_succ] at a0 a1 a2 a3 a4
  clear c
  have GB := Lib.hid (Blk.new W (ims 1 w.heap.size r1 ++ ims 1 w.heap.size r1) 51)
  have HN := Lib.hid (HB.out.below ((Below.refl W.heap.size W).alloc (Nat.le_refl _) (.cells (ims 1 w.heap.size r1 ++ ims 1 w.heap.size r1).toArray 51)))
  have TN := Lib.hid (TB.out.below ((Below.refl W.heap.size W).alloc (Nat.le_refl _) (.cells (ims 1 w.heap.size r1 ++ ims 1 w.heap.size r1).toArray 51)))
  clear HB TB
  have HC := Lib.hid (agree_two W.heap.size w.heap.size r1 w.heap.size r1 1 1 [100] [100] true _ GB.out HN.out.h1 HN.out.h1 _ (fun W m hm => said_same m 1 0 [100] W hm))
  go_wp2_with fail
  refine HC.out.mono ?_
  rintro e v2 ⟨rfl, k1⟩
  have HB := Lib.hid (HN.out.below k1)
  have TB := Lib.hid (TN.out.below k1)
  clear HN TN GB HC k1
  clear a0 a1 a2 a3 a4
  have c := fun i => HB.out.ha.cell i
  have a0 := c 0; have a1 := c 1; have a2 := c 2; have a3 := c 3; have a4 := c 4
  simp only [List.getElem?_cons_zero, List.getElem?_cons_succ] at a0 a1 a2 a3 a4
  clear c
  have c := fun i => HB.out.hb.cell i
  have b0 := c 0; have b1 := c 1; have b2 := c 2; have b3 := c 3; have b4 := c 4
  simp only [List.getElem?_cons_zero, List.getElem?_cons_succ] at b0 b1 b2 b3 b4
  clear c
  have GB := Lib.hid (Blk.new v2 (ims 1 w.heap.size r1 ++ ims 2 w.heap.size r2) 51)
  have HN := Lib.hid (HB.out.below ((Below.refl v2.heap.size v2).alloc (Nat.le_refl _) (.cells (ims 1 w.heap.size r1 ++ ims 2 w.heap.size r2).toArray 51)))
  have TN := Lib.hid (TB.out.below ((Below.refl v2.heap.size v2).alloc (Nat.le_refl _) (.cells (ims 1 w.heap.size r1 ++ ims 2 w.heap.size r2).toArray 51)))
  clear HB TB
  have HC := Lib.hid (agree_two v2.heap.size w.heap.size r1 w.heap.size r2 1 2 [100] [101] false _ GB.out HN.out.h1 HN.out.h2 _ (fun W m hm => said_other m 1 0 W hm))
  go_wp2_with fail
  refine HC.out.mono ?_
  rintro e v3 ⟨rfl, k1⟩
  have HB := Lib.hid (HN.out.below k1)
  have TB := Lib.hid (TN.out.below k1)
  clear HN TN GB HC k1
  clear a0 a1 a2 a3 a4 b0 b1 b2 b3 b4
  have c := fun i => HB.out.ha.cell i
  have a0 := c 0; have a1 := c 1; have a2 := c 2; have a3 := c 3; have a4 := c 4
  simp only [List.getElem?_cons_zero, List.getElem?_cons_succ] at a0 a1 a2 a3 a4
  clear c
  have GB := Lib.hid (Blk.new v3 (ims 1 w.heap.size r1 ++ ims 1 w.heap.size r1) 51)
  have HN := Lib.hid (HB.out.below ((Below.refl v3.heap.size v3).alloc (Nat.le_refl _) (.cells (ims 1 w.heap.size r1 ++ ims 1 w.heap.size r1).toArray 51)))
  have TN := Lib.hid (TB.out.below ((Below.refl v3.heap.size v3).alloc (Nat.le_refl _) (.cells (ims 1 w.heap.size r1 ++ ims 1 w.heap.size r1).toArray 51)))
  clear HB TB
  have HC := Lib.hid (steps_two v3.heap.size w.heap.size r1 w.heap.size r1 1 1 [100] [100] _ GB.out HN.out.h1 HN.out.h1)
  go_wp2_with fail
  refine HC.out.mono ?_
  rintro e v4 ⟨rfl, k1⟩
  have HB := Lib.hid (HN.out.below k1)
  have TB := Lib.hid (TN.out.below k1)
  clear HN TN GB HC k1
  clear a0 a1 a2 a3 a4
  have c := fun i => HB.out.ha.cell i
  have a0 := c 0; have a1 := c 1; have a2 := c 2; have a3 := c 3; have a4 := c 4
  simp only [List.getElem?_cons_zero, List.getElem?_cons_succ] at a0 a1 a2 a3 a4
  clear c
  have GB := Lib.hid (Blk.new v4 (ims 1 w.heap.size r1) 51)
  have HN := Lib.hid (HB.out.below ((Below.refl v4.heap.size v4).alloc (Nat.le_refl _) (.cells (ims 1 w.heap.size r1).toArray 51)))
  have TN := Lib.hid (TB.out.below ((Below.refl v4.heap.size v4).alloc (Nat.le_refl _) (.cells (ims 1 w.heap.size r1).toArray 51)))
  clear HB TB
  have HC := Lib.hid (steps_one v4.heap.size w.heap.size r1 1 [100] _ GB.out HN.out.h1)
  go_wp2_with fail
  refine HC.out.mono ?_
  rintro e v5 ⟨rfl, k1⟩
  have HB := Lib.hid (HN.out.below k1)
  have TB := Lib.hid (TN.out.below k1)
  clear HN TN GB HC k1
  clear a0 a1 a2 a3 a4
  have c := fun i => HB.out.ha.cell i
  have a0 := c 0; have a1 := c 1; have a2 := c 2; have a3 := c 3; have a4 := c 4
  simp only [List.getElem?_cons_zero, List.getElem?_cons_succ] at a0 a1 a2 a3 a4
  clear c
  have GB := Lib.hid (Blk.new v5 (ims 1 w.heap.size r1 ++ ims 1 w.heap.size r1) 51)
  have HN := Lib.hid (HB.out.below ((Below.refl v5.heap.size v5).alloc (Nat.le_refl _) (.cells (ims 1 w.heap.size r1 ++ ims 1 w.heap.size r1).toArray 51)))
  have TN := Lib.hid (TB.out.below ((Below.refl v5.heap.size v5).alloc (Nat.le_refl _) (.cells (ims 1 w.heap.size r1 ++ ims 1 w.heap.size r1).toArray 51)))
  clear HB TB
  have HC := Lib.hid (shares_two v5.heap.size w.heap.size r1 w.heap.size r1 1 1 [100] _ GB.out HN.out.h1 HN.out.h1)
  go_wp2_with fail
  refine HC.out.mono ?_
  rintro e v6 ⟨rfl, k1⟩
  have HB := Lib.hid (HN.out.below k1)
  have TB := Lib.hid (TN.out.below k1)
  clear HN TN GB HC k1
  clear a0 a1 a2 a3 a4
  have c := fun i => HB.out.ha.cell i
  have a0 := c 0; have a1 := c 1; have a2 := c 2; have a3 := c 3; have a4 := c 4
  simp only [List.getElem?_cons_zero, List.getElem?_cons_succ] at a0 a1 a2 a3 a4
  clear c
  have GB := Lib.hid (Blk.new v6 (ims 1 w.heap.size r1) 51)
  have HN := Lib.hid (HB.out.below ((Below.refl v6.heap.size v6).alloc (Nat.le_refl _) (.cells (ims 1 w.heap.size r1).toArray 51)))
  have TN := Lib.hid (TB.out.below ((Below.refl v6.heap.size v6).alloc (Nat.le_refl _) (.cells (ims 1 w.heap.size r1).toArray 51)))
  clear HB TB
  have HC := Lib.hid (bounds_one v6.heap.size w.heap.size r1 1 1 [107] [100] false _ GB.out HN.out.hu HN.out.h1 (by decide))
  go_wp2_with fail
  refine HC.out.mono ?_
  rintro e v7 ⟨rfl, k1⟩
  have HB := Lib.hid (HN.out.below k1)
  have TB := Lib.hid (TN.out.below k1)
  clear HN TN GB HC k1
  clear a0 a1 a2 a3 a4
  have c := fun i => HB.out.ha.cell i
  have a0 := c 0; have a1 := c 1; have a2 := c 2; have a3 := c 3; have a4 := c 4
  simp only [List.getElem?_cons_zero, List.getElem?_cons_succ] at a0 a1 a2 a3 a4
  clear c
  have GB := Lib.hid (Blk.new v7 (ims 1 w.heap.size r1) 51)
  have HN := Lib.hid (HB.out.below ((Below.refl v7.heap.size v7).alloc (Nat.le_refl _) (.cells (ims 1 w.heap.size r1).toArray 51)))
  have TN := Lib.hid (TB.out.below ((Below.refl v7.heap.size v7).alloc (Nat.le_refl _) (.cells (ims 1 w.heap.size r1).toArray 51)))
  clear HB TB
  have HC := Lib.hid (bounds_one v7.heap.size w.heap.size r1 1 0 [107] [100] true _ GB.out HN.out.hu HN.out.h1 (by decide))
  go_wp2_with fail
  refine HC.out.mono ?_
  rintro e v8 ⟨rfl, k1⟩
  have HB := Lib.hid (HN.out.below k1)
  have TB := Lib.hid (TN.out.below k1)
  clear HN TN GB HC k1
  clear a0 a1 a2 a3 a4
  have c := fun i => HB.out.ha.cell i
  have a0 := c 0; have a1 := c 1; have a2 := c 2; have a3 := c 3; have a4 := c 4
  simp only [List.getElem?_cons_zero, List.getElem?_cons_succ] at a0 a1 a2 a3 a4
  clear c
  have c := fun i => HB.out.hb.cell i
  have b0 := c 0; have b1 := c 1; have b2 := c 2; have b3 := c 3; have b4 := c 4
  simp only [List.getElem?_cons_zero, List.getElem?_cons_succ] at b0 b1 b2 b3 b4
  clear c
  have GB := Lib.hid (Blk.new v8 (ims 1 w.heap.size r1 ++ ims 2 w.heap.size r2) 51)
  have HN := Lib.hid (HB.out.below ((Below.refl v8.heap.size v8).alloc (Nat.le_refl _) (.cells (ims 1 w.heap.size r1 ++ ims 2 w.heap.size r2).toArray 51)))
  have TN := Lib.hid (TB.out.below ((Below.refl v8.heap.size v8).alloc (Nat.le_refl _) (.cells (ims 1 w.heap.size r1 ++ ims 2 w.heap.size r2).toArray 51)))
  clear HB TB
  have HC := Lib.hid (keys_two v8.heap.size w.heap.size r1 w.heap.size r2 1 2 [100] [101] _ GB.out HN.out.h1 HN.out.h2)
  go_wp2_with fail
  refine HC.out.mono ?_
  rintro e v9 ⟨gk, ck, rfl, hx, k1⟩
  have HB := Lib.hid (HN.out.below k1)
  have TB := Lib.hid (TN.out.below k1)
  clear HN TN GB HC k1
  clear a0 a1 a2 a3 a4 b0 b1 b2 b3 b4
  have kk : Below v9.heap.size v9 (v9.alloc (.cells #[txt [107]] 9)) := (Below.refl _ _).alloc (Nat.le_refl _) _
  have HN := Lib.hid (HB.out.below kk)
  have TN := Lib.hid (TB.out.below kk)
  have HC := Lib.hid (same_keys gk v9.heap.size ck 1 [107] _ ((kk.cell (World.block_lt_of_cell? _ _ hx)).trans hx) ((Blk.new v9 [txt [107]] 9).cell 0))
  clear HB TB kk hx
  go_wp2_with fail
  refine HC.out.mono ?_
  rintro e v10 ⟨rfl, k1⟩
  have HB := Lib.hid (HN.out.below k1)
  have TB := Lib.hid (TN.out.below k1)
  have K := Lib.hid HB.out.hk
  clear HN TN HC k1 HB
  have t0 := TB.out.cell 0
  have t1 := TB.out.cell 1
  simp only [List.getElem?_cons_zero, List.getElem?_cons_succ] at t0 t1
  clear TB
  go_wp2
  exact bodyPost_ret (results_tmp rfl _ _ _) rfl ⟨rfl, K.out⟩
end Go.Proofs.Ythkibccfdpbojaa.Au
