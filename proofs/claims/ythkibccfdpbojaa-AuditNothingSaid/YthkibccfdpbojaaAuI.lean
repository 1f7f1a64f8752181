/- Audits: whether no number is skipped, walked. Conditions: those that are named. -/
import Derived.Test.YthkibccfdpbojaaAuH
namespace Go.Proofs.Ythkibccfdpbojaa.Au
open Go Go.RowKit
set_option maxHeartbeats 4000000 in
set_option maxRecDepth 100000 in
theorem steps1_of (x : Int) (u r co cs ct : Nat) (d : List UInt8) (l : Value) (N t : Int) (β : Bool) (w : World) (ho : Blk.Is w co [.bool true] 4) (hs : Blk.Is w cs [l] 67) (ht : Blk.Is w ct [.int .i64 t] 3) (hβ : β = decide (t < N))
    (hcount : ∀ f W, Below w.heap.size w W → Calls Try.prog 23 #[l, txt [107], .bool true, f] W fun e w' => e = .returned (.int .i64 N) ∧ Below W.heap.size W w') :
    Calls Try.prog 22 #[.agg (ims x u r).toArray, .agg (rcs [107] 1 1 d).toArray, .pointer (some ⟨co, 0, none⟩), .pointer (some ⟨cs, 0, none⟩), .pointer (some ⟨ct, 0, none⟩)] w fun e w' =>
      e = .returned (.tuple #[]) ∧ Blk.Is w' co [.bool β] 4 ∧ But [co] w w' := by
  have kw : Below w.heap.size w (((w.alloc (.cells (ims x u r).toArray 51)).alloc (.cells (rcs [107] 1 1 d).toArray 66)).alloc (.cells #[.int .i64 1] 3)) := (((Below.refl _ _).alloc (Nat.le_refl _) _).alloc (by simp) _).alloc (by simp; omega) _
  have RB := Lib.hid ((Blk.new' (w.alloc (.cells (ims x u r).toArray 51)) (rcs [107] 1 1 d) 66 (w.heap.size + 1) (by simp)).alloc (.cells #[.int .i64 1] 3))
  have SB := Lib.hid (Blk.new' ((w.alloc (.cells (ims x u r).toArray 51)).alloc (.cells (rcs [107] 1 1 d).toArray 66)) [.int .i64 1] 3 (w.heap.size + 1 + 1) (by simp))
  have HO := Lib.hid (ho.below kw)
  have HS := Lib.hid (hs.below kw)
  have HT := Lib.hid (ht.below kw)
  have ho_lt := ho.lt
  have KW := Lib.hid kw
  have HC := Lib.hid hcount
  have HBE := Lib.hid hβ
  clear ho hs ht kw hcount hβ
  go_enter Try.func22, Try.ntmps22
  go_upto_region 2 with (fail)
  obtain ⟨W, hW⟩ : ∃ W, W = ((w.alloc (.cells (ims x u r).toArray 51)).alloc (.cells (rcs [107] 1 1 d).toArray 66)).alloc (.cells #[.int .i64 1] 3) := ⟨_, rfl⟩
  obtain ⟨p, hp⟩ : ∃ p, p = w.heap.size + 1 := ⟨_, rfl⟩
  obtain ⟨q, hq⟩ : ∃ q, q = w.heap.size + 1 + 1 := ⟨_, rfl⟩
  rw [← hW] at RB SB HO HS HT KW ⊢
  rw [← hq] at SB ⊢
  rw [← hp] at RB ⊢
  clear hW hp hq
  have s0 := SB.out.cell 0
  simp only [List.getElem?_cons_zero] at s0
  go_upto_region 3 with (fail)
  have q0 : ∀ z : Cls.Wd (Cls.Kept W.drew), z.w.cell? ⟨co, 0, none⟩ = some (.bool true) := Cls.Wd.cell (HO.out.drew.cell 0)
  have q1 : ∀ z : Cls.Wd (Cls.Kept W.drew), z.w.cell? ⟨cs, 0, none⟩ = some l := Cls.Wd.cell (HS.out.drew.cell 0)
  have q2 : ∀ z : Cls.Wd (Cls.Kept W.drew), z.w.cell? ⟨ct, 0, none⟩ = some (.int .i64 t) := Cls.Wd.cell (HT.out.drew.cell 0)
  have q3 : ∀ z : Cls.Wd (Cls.Kept W.drew), z.w.cell? ⟨p, 0, none⟩ = some (txt [107]) := Cls.Wd.cell (RB.out.drew.cell 0)
  have q4 : ∀ z : Cls.Wd (Cls.Kept W.drew), z.w.cell? ⟨q, 0, none⟩ = some (.int .i64 1) := Cls.Wd.cell (SB.out.drew.cell 0)
  have hcall := fun (z : Cls.Wd (Cls.Kept W.drew)) f => HC.out f z.w (KW.out.drew.trans (z.ok.mono KW.out.size))
  have HCL := Lib.hid hcall
  clear hcall
  refine Cls.region_tail (S := Cls.Kept _) 12 (by kernel_rfl) (by kernel_rfl) (Below.refl _ _) ?_
  simp only [List.take_succ_cons, List.take_zero, List.drop_succ_cons, List.drop_zero]
  iterate 7 (go_big_quiet_step (fail))
  go_big_quiet_step (fail)
  go_big_quiet_step ((go_at_call 23; with_reducible refine Cls.calls_kept (HCL.out _ _)))
  iterate 3 (go_big_quiet_step (fail))
  refine wpQuiet_nil ?_
  intro w3 hw3
  have HO3 := Lib.hid (HO.out.drew.below hw3)
  have K3 := Lib.hid (KW.out.drew.trans (hw3.mono KW.out.size))
  clear q0 q1 q2 q3 q4 s0 hw3 HCL HO HS HT RB SB KW
  have o0 := HO3.out.cell 0
  have of := HO3.out.frozen 0
  simp only [List.getElem?_cons_zero] at o0
  have HO4 : Hid (Blk.Is (w3.setCell ⟨co, 0, none⟩ (.bool β)) co [.bool β] 4) := Lib.hid (HO3.out.set 0 _)
  have K4 := Lib.hid ((But.of (S := [co]) K3.out).setCell (p := ⟨co, 0, none⟩) (by simp) (.bool β))
  rw [← HBE.out]
  clear HBE K3 HO3
  go_wp2
  exact ⟨rfl, _, results_none rfl _ _ _, rfl, HO4.out, K4.out⟩
end Go.Proofs.Ythkibccfdpbojaa.Au
