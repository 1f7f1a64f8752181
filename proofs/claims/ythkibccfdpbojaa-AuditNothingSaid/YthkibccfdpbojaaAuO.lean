/- Audits: shares of what is held by states, walked. Conditions: those that are named. -/
import Derived.Test.YthkibccfdpbojaaAuN
import Derived.Laws.EntriesVeiled
namespace Go.Proofs.Ythkibccfdpbojaa.Au
open Go Go.RowKit
set_option maxHeartbeats 4000000 in
set_option maxRecDepth 100000 in
theorem has_any (d : List UInt8) (w : World) : Calls Try.prog 28 #[.agg (rcs [107] 1 1 d).toArray, .agg #[.int .i64 1, .int .i64 1], txt d] w fun e w' => e = .returned (.bool false) ∧ Below w.heap.size w w' := by
  obtain ⟨V, hV⟩ : ∃ V, V = (((w.alloc (.cells (rcs [107] 1 1 d).toArray 66)).alloc (.cells #[.int .i64 1, .int .i64 1] 24)).alloc (.cells #[txt d] 9)).alloc (.cells #[.func (.func 49) #[] #[.pointer (some ⟨w.heap.size + 1, 0, none⟩), .pointer (some ⟨w.heap.size + 1 + 1, 0, none⟩)]] 128) := ⟨_, rfl⟩
  have kw : Below w.heap.size w V := by
    rw [hV]
    exact ((((Below.refl _ _).alloc (Nat.le_refl _) _).alloc (by simp) _).alloc (by simp; omega) _).alloc (by simp; omega) _
  have b0 : Blk.Is V w.heap.size (rcs [107] 1 1 d) 66 := by
    rw [hV]
    exact (((Blk.new w (rcs [107] 1 1 d) 66).alloc _).alloc _).alloc _
  have b1 : Blk.Is V (w.heap.size + 1) [.int .i64 1, .int .i64 1] 24 := by
    rw [hV]
    exact ((Blk.new' (w.alloc (.cells (rcs [107] 1 1 d).toArray 66)) [.int .i64 1, .int .i64 1] 24 (w.heap.size + 1) (by simp)).alloc _).alloc _
  have b2 : Blk.Is V (w.heap.size + 1 + 1) [txt d] 9 := by
    rw [hV]
    exact (Blk.new' ((w.alloc (.cells (rcs [107] 1 1 d).toArray 66)).alloc (.cells #[.int .i64 1, .int .i64 1] 24)) [txt d] 9 (w.heap.size + 1 + 1) (by simp)).alloc _
  have b3 : Blk.Is V (w.heap.size + 1 + 1 + 1) [.func (.func 49) #[] #[.pointer (some ⟨w.heap.size + 1, 0, none⟩), .pointer (some ⟨w.heap.size + 1 + 1, 0, none⟩)]] 128 := by
    rw [hV]
    exact Blk.new' (((w.alloc (.cells (rcs [107] 1 1 d).toArray 66)).alloc (.cells #[.int .i64 1, .int .i64 1] 24)).alloc (.cells #[txt d] 9)) [.func (.func 49) #[] #[.pointer (some ⟨w.heap.size + 1, 0, none⟩), .pointer (some ⟨w.heap.size + 1 + 1, 0, none⟩)]] 128 _ (by simp)
  have HCL := Lib.hid (has1_any d (w.heap.size + 1) (w.heap.size + 1 + 1) V b1 b2)
  have KW := Lib.hid kw
  have HV := Lib.hid hV
  have B0 := Lib.hid b0
  have B3 := Lib.hid b3
  clear hV b0 b1 b2 b3 kw
  go_enter Try.func28, Try.ntmps28
  go_upto_region 2 with (fail)
  rw [← HV.out]
  clear HV
  have a := fun i => B0.out.cell i
  have a1 := a 1; have a2 := a 2; have a3 := a 3; have a4 := a 4; have a5 := a 5; have a6 := a 6
  have f0 := B3.out.cell 0
  simp only [List.getElem?_cons_zero, List.getElem?_cons_succ] at a1 a2 a3 a4 a5 a6 f0
  clear a B3
  go_wp2_with fail
  refine HCL.out.mono ?_
  rintro e w1 ⟨rfl, k1⟩
  have K1 : Below w.heap.size w w1 := KW.out.trans (k1.mono KW.out.size)
  have a9 := (B0.out.below k1).cell 9
  simp only [List.getElem?_cons_zero, List.getElem?_cons_succ] at a9
  clear a1 a2 a3 a4 a5 a6 f0 HCL KW k1 B0
  go_wp2_with fail
  refine (contains_told _ _).mono ?_
  rintro e w2 ⟨rfl, rfl⟩
  go_wp2
  exact bodyPost_ret (results_tmp rfl _ _ _) rfl ⟨rfl, K1⟩
set_option maxHeartbeats 4000000 in
set_option maxRecDepth 100000 in
theorem shares2_any (d : List UInt8) (cs cd : Nat) (w : World) (hs : Blk.Is w cs [.int .i64 1, .int .i64 1] 24) (hd : Blk.Is w cd [txt d] 9) :
    Calls Try.prog 27 #[.agg (rcs [107] 1 1 d).toArray, .pointer (some ⟨cs, 0, none⟩), .pointer (some ⟨cd, 0, none⟩)] w fun e w' => e = .returned (.bool false) ∧ Below w.heap.size w w' := by
  have kw : Below w.heap.size w (w.alloc (.cells (rcs [107] 1 1 d).toArray 66)) := (Below.refl _ _).alloc (Nat.le_refl _) _
  have GB := Lib.hid (Blk.new w (rcs [107] 1 1 d) 66)
  have HS := Lib.hid (hs.below kw)
  have HD := Lib.hid (hd.below kw)
  have KW := Lib.hid kw
  clear hs hd kw
  go_enter Try.func27, Try.ntmps27
  go_upto_region 1 with (fail)
  obtain ⟨W, hW⟩ : ∃ W, W = w.alloc (.cells (rcs [107] 1 1 d).toArray 66) := ⟨_, rfl⟩
  obtain ⟨p, hp⟩ : ∃ p, p = w.heap.size := ⟨_, rfl⟩
  rw [← hW] at GB HS HD KW ⊢
  rw [← hp] at GB ⊢
  clear hW hp
  have a := fun i => GB.out.cell i
  have a0 := a 0; have a1 := a 1; have a2 := a 2; have a3 := a 3; have a4 := a 4; have a5 := a 5; have a6 := a 6; have a7 := a 7; have a8 := a 8; have a9 := a 9
  have b0 := HS.out.cell 0; have b1 := HS.out.cell 1
  have c0 := HD.out.cell 0
  simp only [List.getElem?_cons_zero, List.getElem?_cons_succ] at a0 a1 a2 a3 a4 a5 a6 a7 a8 a9 b0 b1 c0
  clear a GB HS HD
  go_wp2_with fail
  refine (has_any d _).mono ?_
  rintro e w1 ⟨rfl, k1⟩
  have K1 : Below w.heap.size w w1 := KW.out.trans (k1.mono KW.out.size)
  clear a0 a1 a2 a3 a4 a5 a6 a7 a8 a9 b0 b1 c0 KW k1
  go_wp2
  exact bodyPost_ret (results_tmp rfl _ _ _) rfl ⟨rfl, K1⟩
theorem enter27 (args : Array Value) (w : World) : (callFunc 27 args).run Try.prog w = .ok (.enter 27 args) w := by kernel_rfl
set_option maxHeartbeats 4000000 in
set_option maxRecDepth 100000 in
theorem shares1_any (g u1 r1 u2 r2 : Nat) (n1 n2 : Int) (d : List UInt8) (cl ct : Nat) (w : World) (hg : Blk.Is w g (ims n1 u1 r1 ++ ims n2 u2 r2) 51) (h1 : Blk.Is w r1 (rcs [107] 1 1 d) 66) (h2 : Blk.Is w r2 (rcs [107] 1 1 d) 66)
    (hl : Blk.Is w cl [.slice (some ⟨g, 0, none⟩) 2 2] 67) (ht : Blk.Is w ct [.int .i64 1] 3) :
    Calls Try.prog 26 #[txt [107], .pointer (some ⟨cl, 0, none⟩), .pointer (some ⟨ct, 0, none⟩)] w fun e w' => e = .returned (.bool true) ∧ Below w.heap.size w w' := by
  have HG := Lib.hid hg
  have H1 := Lib.hid h1
  have H2 := Lib.hid h2
  have HL := Lib.hid hl
  have HT := Lib.hid ht
  have l0 := hl.cell 0
  simp only [List.getElem?_cons_zero] at l0
  clear hg h1 h2 hl ht
  go_enter Try.func26, Try.ntmps26
  go_wp2_with fail
  refine (last_two g u1 r1 u2 r2 n1 n2 [107] d d _ HG.out H1.out H2.out).mono ?_
  rintro e w1 ⟨rfl, k1⟩
  have k2 : Below w.heap.size w ((w1.alloc (.cells #[.int .i64 1, .int .i64 1] 24)).alloc (.cells #[txt d] 9)) := (k1.alloc k1.size _).alloc (by have := k1.size; simp; omega) _
  have S1 := Lib.hid ((Blk.new w1 [.int .i64 1, .int .i64 1] 24).alloc (.cells #[txt d] 9))
  have D1 := Lib.hid (Blk.new' (w1.alloc (.cells #[.int .i64 1, .int .i64 1] 24)) [txt d] 9 (w1.heap.size + 1) (by simp))
  clear l0 k1
  go_upto_region 2 with (fail)
  obtain ⟨W, hW⟩ : ∃ W, W = (w1.alloc (.cells #[.int .i64 1, .int .i64 1] 24)).alloc (.cells #[txt d] 9) := ⟨_, rfl⟩
  obtain ⟨q, hq⟩ : ∃ q, q = w1.heap.size + 1 := ⟨_, rfl⟩
  rw [← hW] at S1 D1 k2 ⊢
  rw [← hq] at D1 ⊢
  obtain ⟨p, hp⟩ : ∃ p, p = w1.heap.size := ⟨_, rfl⟩
  rw [← hp] at S1 ⊢
  clear hW hp hq
  have HK := Lib.hid k2
  clear k2
  have q0 : ∀ z : Cls.Wd (Cls.Kept W.drew), z.w.cell? ⟨p, 0, none⟩ = some (.int .i64 1) := Cls.Wd.cell (S1.out.drew.cell 0)
  have q1 : ∀ z : Cls.Wd (Cls.Kept W.drew), z.w.cell? ⟨p, 1, none⟩ = some (.int .i64 1) := Cls.Wd.cell (S1.out.drew.cell 1)
  have q2 : ∀ z : Cls.Wd (Cls.Kept W.drew), z.w.cell? ⟨cl, 0, none⟩ = some (.slice (some ⟨g, 0, none⟩) 2 2) := Cls.Wd.cell ((HL.out.below HK.out).drew.cell 0)
  have q3 : ∀ z : Cls.Wd (Cls.Kept W.drew), z.w.cell? ⟨ct, 0, none⟩ = some (.int .i64 1) := Cls.Wd.cell ((HT.out.below HK.out).drew.cell 0)
  have hcall := fun (z : Cls.Wd (Cls.Kept W.drew)) => count_two_false g u1 r1 u2 r2 n1 n2 d d 1 1 1 1 [107] 27 #[.pointer (some ⟨p, 0, none⟩), .pointer (some ⟨q, 0, none⟩)] enter27 z.w ((HG.out.below HK.out).drew.below z.ok) ((H1.out.below HK.out).drew.below z.ok) ((H2.out.below HK.out).drew.below z.ok)
    (fun w' hb => shares2_any d p q w' ((S1.out.drew.below z.ok).below hb) ((D1.out.drew.below z.ok).below hb)) (fun w' hb => shares2_any d p q w' ((S1.out.drew.below z.ok).below hb) ((D1.out.drew.below z.ok).below hb))
  have HCL := Lib.hid hcall
  clear hcall
  refine Cls.region_cls (S := Cls.Kept _) (by kernel_rfl) (by kernel_rfl) (Below.refl _ _) ?_
  iterate 7 (go_big_quiet_step (fail))
  go_big_quiet_step ((go_at_call 23; with_reducible refine Cls.calls_kept (HCL.out _)))
  iterate 4 (go_big_quiet_step (fail))
  refine wpQuiet_nil ?_
  intro w3 hw3
  have K3 : Below w.heap.size w w3 := HK.out.drew.trans (hw3.mono HK.out.size)
  clear q0 q1 q2 q3 hw3 HCL HG H1 H2 HL HT S1 D1 HK
  go_wp2
  exact bodyPost_ret (results_tmp rfl _ _ _) rfl ⟨rfl, K3⟩
end Go.Proofs.Ythkibccfdpbojaa.Au
