/- A source is stirred. Conditions: a key of at most 64 bytes, fewer than 2^38 bytes. -/
import Derived.Test.YticegglphmgoaaaDrA
namespace Go.Proofs.Yticegglphmgoaaa.Sha
open Go.RowKit
open Blk (nats)
theorem stir1_mk (c : UInt8) (k v x s k1 v1 : List UInt8) (hs : v ++ ([c] ++ x) = s) (hk : hmac k s = k1) (hv : hmac k1 v = v1) : stir1 c (k, v) x = (k1, v1) := by
  subst hs hk hv
  rfl
attribute [local irreducible] hmac stir1
set_option maxHeartbeats 4000000 in
set_option maxRecDepth 100000 in
theorem stirs_nil (k v : List UInt8) (n : Int) (b : Nat) (w : World) (hb : Blk.Is w b (sc k v n) 76) (hk : k.length ≤ 64) (hv : v.length ≤ 64) :
    Calls Try.prog 62 #[.pointer (some ⟨b, 0, none⟩), .string ⟨#[]⟩] w fun e w' => e = .returned (.tuple #[]) ∧ Blk.Is w' b (sc (stir (k, v) []).1 (stir (k, v) []).2 n) 76 ∧ Only b w w' := by
  have HB := Lib.hid hb
  obtain ⟨x, hxx⟩ : ∃ x : List UInt8, x = [] := ⟨_, rfl⟩
  obtain ⟨s0, hs0⟩ : ∃ s, v ++ ([0] ++ x) = s := ⟨_, rfl⟩
  have Hs0 := Lib.hid hs0
  have hl0 : s0.length ≤ v.length + 1 := by rw [← hs0, hxx]; simp
  have O0 := Only.refl b w
  have HXX := Lib.hid hxx
  have hxl : x.length ≤ 0 := by rw [hxx]; exact Nat.le_refl _
  rw [show (.string ⟨#[]⟩ : Value) = .string ⟨x.toArray⟩ by rw [hxx]]
  clear hb hs0 hxx
  go_enter Try.func62, Try.ntmps62
  go_wp2
  refine Dep.region_hang 15 10 [0, 1, 2, 3, 4, 5, 6, 7, 8, 9, 13, 14] [11, 12] 60 _ rfl (by kernel_rfl) (by kernel_rfl) (by kernel_rfl) (by decide) (by decide +kernel) (by decide +kernel) rfl (by kernel_rfl)
    (fun h : Nat => .slice (some ⟨h, 0, none⟩) 3 3) (fun w1 h => Blk.Is w1 h [.string ⟨(v).toArray⟩, .string ⟨([0] : List UInt8).toArray⟩, .string ⟨x.toArray⟩] 9) (fun z w1 w2 h hb => Blk.Is.below h hb) ?_
  simp only [Dep.sel, List.getElem?_cons_zero, List.getElem?_cons_succ]
  apply Exists.intro
  apply And.intro
  · intro w1 hw1
    have q0 : ∀ z : Cls.Wd (Cls.Kept w1), z.w.cell? ⟨b, 0, none⟩ = some (.string ⟨(k).toArray⟩) := Cls.Wd.cell ((hw1.cell (World.block_lt_of_cell? _ _ (HB.out.drew.cell 0))).trans (HB.out.drew.cell 0))
    have q1 : ∀ z : Cls.Wd (Cls.Kept w1), z.w.cell? ⟨b, 1, none⟩ = some (.string ⟨(v).toArray⟩) := Cls.Wd.cell ((hw1.cell (World.block_lt_of_cell? _ _ (HB.out.drew.cell 1))).trans (HB.out.drew.cell 1))
    iterate 12 (go_big_quiet_step (fail))
    exact wpQuiet_nil rfl
  refine ⟨fun w1 hw1 => ?_, ?_⟩
  · refine ⟨w1.heap.size, w1.alloc (.cells #[.string ⟨(v).toArray⟩, .string ⟨([0] : List UInt8).toArray⟩, .string ⟨x.toArray⟩] 9), ?_, (Below.refl _ _).alloc (Nat.le_refl _) _, Blk.new w1 [.string ⟨(v).toArray⟩, .string ⟨([0] : List UInt8).toArray⟩, .string ⟨x.toArray⟩] 9⟩
    go_simp
  apply Exists.intro
  apply And.intro
  · intro h w1 hw1 hm
    simp only [Act.put, List.setIfInBounds_toArray, List.set_cons_zero, List.set_cons_succ]
    have HMD := Lib.hid hm
    clear hm
    go_big_quiet_step ((go_at_call 79; with_reducible refine Cls.calls_kept (text_to (v) [0] x s0 h _ Hs0.out (by simp only [List.length_cons, List.length_nil]; omega) (HMD.out.below (Cls.Wd.ok _)))))
    go_big_quiet_step ((go_at_call 27; with_reducible refine Cls.calls_kept (hsum_any (k) s0 _ (by omega) (by omega))))
    exact wpQuiet_nil rfl
  intro h_a w1_a hw1 hm
  clear hm
  generalize hk1 : hmac k s0 = k1
  have Hk1 := Lib.hid hk1
  have hkl : k1.length = 32 := by rw [← hk1]; exact hmac_length _ _
  have hkle : k1.length ≤ 64 := by omega
  have i2 := Blk.Is.below (w := w.drew) HB.out hw1
  have f2 := i2.frozen 0
  have c2 : w1_a.cell? ⟨b, 0, none⟩ = some (.string ⟨(k).toArray⟩) := i2.cell 0
  have o2 : Only b w w1_a := (O0.drew).trans (Only.of hw1)
  have i3 := i2.set 0 (.string ⟨k1.toArray⟩)
  have o3 := o2.setCell (p := ⟨b, 0, none⟩) rfl (.string ⟨k1.toArray⟩)
  have I3 := Lib.hid i3
  clear hk1 hkl hw1 i2 o2 i3 HB O0
  simp only [List.drop_succ_cons, List.drop_zero]
  go_wp2_with fail
  clear f2 c2
  generalize w1_a.setCell ⟨b, 0, none⟩ (.string ⟨k1.toArray⟩) = w3_a at o3 I3 ⊢
  have q0 := Cls.Wd.cell (w0 := w3_a.drew) (p := ⟨b, 0, none⟩) (v := .string ⟨k1.toArray⟩) (I3.out.cell 0)
  have q1 := Cls.Wd.cell (w0 := w3_a.drew) (p := ⟨b, 1, none⟩) (v := .string ⟨(v).toArray⟩) (I3.out.cell 1)
  refine Cls.region_tail (S := Cls.Kept _) 12 (by kernel_rfl) (by kernel_rfl) (Below.refl _ _) ?_
  simp only [List.take_succ_cons, List.take_zero, List.drop_succ_cons, List.drop_zero]
  iterate 9 (go_big_quiet_step (fail))
  go_big_quiet_step ((go_at_call 27; with_reducible refine Cls.calls_kept (hsum_any k1 (v) _ (by omega) (by omega))))
  iterate 2 (go_big_quiet_step (fail))
  refine wpQuiet_nil ?_
  intro w4_a hw4
  generalize hv1 : hmac k1 v = v1
  have Hv1 := Lib.hid hv1
  have hvl : v1.length = 32 := by rw [← hv1]; exact hmac_length _ _
  have hvle : v1.length ≤ 64 := by omega
  have i4 := Blk.Is.below (w := w3_a.drew) I3.out hw4
  have f4 := i4.frozen 1
  have c4 : w4_a.cell? ⟨b, 1, none⟩ = some (.string ⟨(v).toArray⟩) := i4.cell 1
  have o4 : Only b w w4_a := (o3.drew).trans (Only.of hw4)
  have i5 := i4.set 1 (.string ⟨v1.toArray⟩)
  have O1 := o4.setCell (p := ⟨b, 1, none⟩) rfl (.string ⟨v1.toArray⟩)
  have I1 := Lib.hid i5
  clear hv1 hvl hw4 i4 o4 i5 o3 I3 q0 q1
  have hxe := HXX.out
  go_wp2_with fail
  refine ⟨rfl, _, results_none rfl _ _ _, rfl, ?_, O1⟩
  rw [stir_nil, ← HXX.out, stir1_mk 0 k v x s0 k1 v1 Hs0.out Hk1.out Hv1.out]
  exact I1.out
set_option maxHeartbeats 4000000 in
set_option maxRecDepth 100000 in
theorem stirs_cons (k v x : List UInt8) (n : Int) (b : Nat) (w : World) (hb : Blk.Is w b (sc k v n) 76) (hk : k.length ≤ 64) (hv : v.length ≤ 64) (hx : x.length < 274877906944) (hxn : x ≠ []) :
    Calls Try.prog 62 #[.pointer (some ⟨b, 0, none⟩), .string ⟨x.toArray⟩] w fun e w' => e = .returned (.tuple #[]) ∧ Blk.Is w' b (sc (stir (k, v) x).1 (stir (k, v) x).2 n) 76 ∧ Only b w w' := by
  have HB := Lib.hid hb
  obtain ⟨s0, hs0⟩ : ∃ s, v ++ ([0] ++ x) = s := ⟨_, rfl⟩
  have Hs0 := Lib.hid hs0
  have hl0 : s0.length ≤ v.length + 1 + x.length := by rw [← hs0]; simp; omega
  have O0 := Only.refl b w
  have hxe : (x == []) = false := by simpa using hxn
  have hxe2 : x.isEmpty = false := by simpa using hxn
  clear hb hs0
  go_enter Try.func62, Try.ntmps62
  go_wp2
  refine Dep.region_hang 15 10 [0, 1, 2, 3, 4, 5, 6, 7, 8, 9, 13, 14] [11, 12] 60 _ rfl (by kernel_rfl) (by kernel_rfl) (by kernel_rfl) (by decide) (by decide +kernel) (by decide +kernel) rfl (by kernel_rfl)
    (fun h : Nat => .slice (some ⟨h, 0, none⟩) 3 3) (fun w1 h => Blk.Is w1 h [.string ⟨(v).toArray⟩, .string ⟨([0] : List UInt8).toArray⟩, .string ⟨x.toArray⟩] 9) (fun z w1 w2 h hb => Blk.Is.below h hb) ?_
  simp only [Dep.sel, List.getElem?_cons_zero, List.getElem?_cons_succ]
  apply Exists.intro
  apply And.intro
  · intro w1 hw1
    have q0 : ∀ z : Cls.Wd (Cls.Kept w1), z.w.cell? ⟨b, 0, none⟩ = some (.string ⟨(k).toArray⟩) := Cls.Wd.cell ((hw1.cell (World.block_lt_of_cell? _ _ (HB.out.drew.cell 0))).trans (HB.out.drew.cell 0))
    have q1 : ∀ z : Cls.Wd (Cls.Kept w1), z.w.cell? ⟨b, 1, none⟩ = some (.string ⟨(v).toArray⟩) := Cls.Wd.cell ((hw1.cell (World.block_lt_of_cell? _ _ (HB.out.drew.cell 1))).trans (HB.out.drew.cell 1))
    iterate 12 (go_big_quiet_step (fail))
    exact wpQuiet_nil rfl
  refine ⟨fun w1 hw1 => ?_, ?_⟩
  · refine ⟨w1.heap.size, w1.alloc (.cells #[.string ⟨(v).toArray⟩, .string ⟨([0] : List UInt8).toArray⟩, .string ⟨x.toArray⟩] 9), ?_, (Below.refl _ _).alloc (Nat.le_refl _) _, Blk.new w1 [.string ⟨(v).toArray⟩, .string ⟨([0] : List UInt8).toArray⟩, .string ⟨x.toArray⟩] 9⟩
    go_simp
  apply Exists.intro
  apply And.intro
  · intro h w1 hw1 hm
    simp only [Act.put, List.setIfInBounds_toArray, List.set_cons_zero, List.set_cons_succ]
    have HMD := Lib.hid hm
    clear hm
    go_big_quiet_step ((go_at_call 79; with_reducible refine Cls.calls_kept (text_to (v) [0] x s0 h _ Hs0.out (by simp only [List.length_cons, List.length_nil]; omega) (HMD.out.below (Cls.Wd.ok _)))))
    go_big_quiet_step ((go_at_call 27; with_reducible refine Cls.calls_kept (hsum_any (k) s0 _ (by omega) (by omega))))
    exact wpQuiet_nil rfl
  intro h_a w1_a hw1 hm
  clear hm
  generalize hk1 : hmac k s0 = k1
  have Hk1 := Lib.hid hk1
  have hkl : k1.length = 32 := by rw [← hk1]; exact hmac_length _ _
  have hkle : k1.length ≤ 64 := by omega
  have i2 := Blk.Is.below (w := w.drew) HB.out hw1
  have f2 := i2.frozen 0
  have c2 : w1_a.cell? ⟨b, 0, none⟩ = some (.string ⟨(k).toArray⟩) := i2.cell 0
  have o2 : Only b w w1_a := (O0.drew).trans (Only.of hw1)
  have i3 := i2.set 0 (.string ⟨k1.toArray⟩)
  have o3 := o2.setCell (p := ⟨b, 0, none⟩) rfl (.string ⟨k1.toArray⟩)
  have I3 := Lib.hid i3
  clear hk1 hkl hw1 i2 o2 i3 HB O0
  simp only [List.drop_succ_cons, List.drop_zero]
  go_wp2_with fail
  clear f2 c2
  generalize w1_a.setCell ⟨b, 0, none⟩ (.string ⟨k1.toArray⟩) = w3_a at o3 I3 ⊢
  have q0 := Cls.Wd.cell (w0 := w3_a.drew) (p := ⟨b, 0, none⟩) (v := .string ⟨k1.toArray⟩) (I3.out.cell 0)
  have q1 := Cls.Wd.cell (w0 := w3_a.drew) (p := ⟨b, 1, none⟩) (v := .string ⟨(v).toArray⟩) (I3.out.cell 1)
  refine Cls.region_tail (S := Cls.Kept _) 12 (by kernel_rfl) (by kernel_rfl) (Below.refl _ _) ?_
  simp only [List.take_succ_cons, List.take_zero, List.drop_succ_cons, List.drop_zero]
  iterate 9 (go_big_quiet_step (fail))
  go_big_quiet_step ((go_at_call 27; with_reducible refine Cls.calls_kept (hsum_any k1 (v) _ (by omega) (by omega))))
  iterate 2 (go_big_quiet_step (fail))
  refine wpQuiet_nil ?_
  intro w4_a hw4
  generalize hv1 : hmac k1 v = v1
  have Hv1 := Lib.hid hv1
  have hvl : v1.length = 32 := by rw [← hv1]; exact hmac_length _ _
  have hvle : v1.length ≤ 64 := by omega
  have i4 := Blk.Is.below (w := w3_a.drew) I3.out hw4
  have f4 := i4.frozen 1
  have c4 : w4_a.cell? ⟨b, 1, none⟩ = some (.string ⟨(v).toArray⟩) := i4.cell 1
  have o4 : Only b w w4_a := (o3.drew).trans (Only.of hw4)
  have i5 := i4.set 1 (.string ⟨v1.toArray⟩)
  have O1 := o4.setCell (p := ⟨b, 1, none⟩) rfl (.string ⟨v1.toArray⟩)
  have I1 := Lib.hid i5
  clear hv1 hvl hw4 i4 o4 i5 o3 I3 q0 q1
  go_wp2_with fail
  clear f4 c4
  generalize w4_a.setCell ⟨b, 1, none⟩ (.string ⟨v1.toArray⟩) = W5 at O1 I1 ⊢
  obtain ⟨s1, hs1⟩ : ∃ s, v1 ++ ([1] ++ x) = s := ⟨_, rfl⟩
  have Hs1 := Lib.hid hs1
  have hl1 : s1.length ≤ v1.length + 1 + x.length := by rw [← hs1]; simp; omega
  clear hs1
  refine Dep.region_hang 15 10 [0, 1, 2, 3, 4, 5, 6, 7, 8, 9, 13, 14] [11, 12] 60 _ rfl (by kernel_rfl) (by kernel_rfl) (by kernel_rfl) (by decide) (by decide +kernel) (by decide +kernel) rfl (by kernel_rfl)
    (fun h : Nat => .slice (some ⟨h, 0, none⟩) 3 3) (fun w1 h => Blk.Is w1 h [.string ⟨(v1).toArray⟩, .string ⟨([1] : List UInt8).toArray⟩, .string ⟨x.toArray⟩] 9) (fun z w1 w2 h hb => Blk.Is.below h hb) ?_
  simp only [Dep.sel, List.getElem?_cons_zero, List.getElem?_cons_succ]
  apply Exists.intro
  apply And.intro
  · intro w1 hw1
    have q0 : ∀ z : Cls.Wd (Cls.Kept w1), z.w.cell? ⟨b, 0, none⟩ = some (.string ⟨(k1).toArray⟩) := Cls.Wd.cell ((hw1.cell (World.block_lt_of_cell? _ _ (I1.out.drew.cell 0))).trans (I1.out.drew.cell 0))
    have q1 : ∀ z : Cls.Wd (Cls.Kept w1), z.w.cell? ⟨b, 1, none⟩ = some (.string ⟨(v1).toArray⟩) := Cls.Wd.cell ((hw1.cell (World.block_lt_of_cell? _ _ (I1.out.drew.cell 1))).trans (I1.out.drew.cell 1))
    iterate 12 (go_big_quiet_step (fail))
    exact wpQuiet_nil rfl
  refine ⟨fun w1 hw1 => ?_, ?_⟩
  · refine ⟨w1.heap.size, w1.alloc (.cells #[.string ⟨(v1).toArray⟩, .string ⟨([1] : List UInt8).toArray⟩, .string ⟨x.toArray⟩] 9), ?_, (Below.refl _ _).alloc (Nat.le_refl _) _, Blk.new w1 [.string ⟨(v1).toArray⟩, .string ⟨([1] : List UInt8).toArray⟩, .string ⟨x.toArray⟩] 9⟩
    go_simp
  apply Exists.intro
  apply And.intro
  · intro h w1 hw1 hm
    simp only [Act.put, List.setIfInBounds_toArray, List.set_cons_zero, List.set_cons_succ]
    have HMD := Lib.hid hm
    clear hm
    go_big_quiet_step ((go_at_call 79; with_reducible refine Cls.calls_kept (text_to (v1) [1] x s1 h _ Hs1.out (by simp only [List.length_cons, List.length_nil]; omega) (HMD.out.below (Cls.Wd.ok _)))))
    go_big_quiet_step ((go_at_call 27; with_reducible refine Cls.calls_kept (hsum_any (k1) s1 _ (by omega) (by omega))))
    exact wpQuiet_nil rfl
  intro h_b w1_b hw1 hm
  clear hm
  generalize hk1 : hmac k1 s1 = k2
  have Hk2 := Lib.hid hk1
  have hkl : k2.length = 32 := by rw [← hk1]; exact hmac_length _ _
  have hkle : k2.length ≤ 64 := by omega
  have i2 := Blk.Is.below (w := W5.drew) I1.out hw1
  have f2 := i2.frozen 0
  have c2 : w1_b.cell? ⟨b, 0, none⟩ = some (.string ⟨(k1).toArray⟩) := i2.cell 0
  have o2 : Only b w w1_b := (O1.drew).trans (Only.of hw1)
  have i3 := i2.set 0 (.string ⟨k2.toArray⟩)
  have o3 := o2.setCell (p := ⟨b, 0, none⟩) rfl (.string ⟨k2.toArray⟩)
  have I3 := Lib.hid i3
  clear hk1 hkl hw1 i2 o2 i3 I1 O1
  simp only [List.drop_succ_cons, List.drop_zero]
  go_wp2_with fail
  clear f2 c2
  generalize w1_b.setCell ⟨b, 0, none⟩ (.string ⟨k2.toArray⟩) = w3_b at o3 I3 ⊢
  have q0 := Cls.Wd.cell (w0 := w3_b.drew) (p := ⟨b, 0, none⟩) (v := .string ⟨k2.toArray⟩) (I3.out.cell 0)
  have q1 := Cls.Wd.cell (w0 := w3_b.drew) (p := ⟨b, 1, none⟩) (v := .string ⟨(v1).toArray⟩) (I3.out.cell 1)
  refine Cls.region_tail (S := Cls.Kept _) 12 (by kernel_rfl) (by kernel_rfl) (Below.refl _ _) ?_
  simp only [List.take_succ_cons, List.take_zero, List.drop_succ_cons, List.drop_zero]
  iterate 9 (go_big_quiet_step (fail))
  go_big_quiet_step ((go_at_call 27; with_reducible refine Cls.calls_kept (hsum_any k2 (v1) _ (by omega) (by omega))))
  iterate 2 (go_big_quiet_step (fail))
  refine wpQuiet_nil ?_
  intro w4_b hw4
  generalize hv1 : hmac k2 v1 = v2
  have Hv2 := Lib.hid hv1
  have hvl : v2.length = 32 := by rw [← hv1]; exact hmac_length _ _
  have hvle : v2.length ≤ 64 := by omega
  have i4 := Blk.Is.below (w := w3_b.drew) I3.out hw4
  have f4 := i4.frozen 1
  have c4 : w4_b.cell? ⟨b, 1, none⟩ = some (.string ⟨(v1).toArray⟩) := i4.cell 1
  have o4 : Only b w w4_b := (o3.drew).trans (Only.of hw4)
  have i5 := i4.set 1 (.string ⟨v2.toArray⟩)
  have O2 := o4.setCell (p := ⟨b, 1, none⟩) rfl (.string ⟨v2.toArray⟩)
  have I2 := Lib.hid i5
  clear hv1 hvl hw4 i4 o4 i5 o3 I3 q0 q1
  go_wp2_with fail
  refine ⟨rfl, _, results_none rfl _ _ _, rfl, ?_, O2⟩
  rw [stir_cons _ _ hxn, stir1_mk 0 k v x s0 k1 v1 Hs0.out Hk1.out Hv1.out, stir1_mk 1 k1 v1 x s1 k2 v2 Hs1.out Hk2.out Hv2.out]
  exact I2.out
theorem stirs_any (k v x : List UInt8) (n : Int) (b : Nat) (w : World) (hb : Blk.Is w b (sc k v n) 76) (hk : k.length ≤ 64) (hv : v.length ≤ 64) (hx : x.length < 274877906944) :
    Calls Try.prog 62 #[.pointer (some ⟨b, 0, none⟩), .string ⟨x.toArray⟩] w fun e w' => e = .returned (.tuple #[]) ∧ Blk.Is w' b (sc (stir (k, v) x).1 (stir (k, v) x).2 n) 76 ∧ Only b w w' := by
  by_cases h : x = []
  · subst h
    exact stirs_nil k v n b w hb hk hv
  · exact stirs_cons k v x n b w hb hk hv hx h
end Go.Proofs.Yticegglphmgoaaa.Sha
