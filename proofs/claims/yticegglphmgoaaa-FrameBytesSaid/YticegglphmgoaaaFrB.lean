/- A frame's tag, by the document. Conditions: fewer than 2^38 bytes. -/
import Derived.Test.YticegglphmgoaaaFrA
namespace Go.Proofs.Yticegglphmgoaaa.Sha
open Go.RowKit
open Blk (nats)
/-- A frame's tag. -/
def tagOf (s : List UInt8) (f t : Int) (b : List UInt8) : List UInt8 := hmac (hkey s f t) (ends2 f t ++ b)
theorem tagOf_length (s : List UInt8) (f t : Int) (b : List UInt8) : (tagOf s f t b).length = 32 := hmac_length _ _
theorem ends2_le (f t : Int) : (ends2 f t).length ≤ 2 := Nat.le_refl _
/-- Two bytes as a text, in a quiet walk. -/
theorem quiet_two {P : Program} {T e S : TypeId} (K : Byt.Kit P T e S) {w0 : World} {op : Oper} {a : Act} {F : Act → Prop} (x : Operand) (ho : op.op = .convert T S x) (g cap : Nat) (u v : Int) (hx : a.eval x = .slice (some ⟨g, 0, none⟩) 2 cap)
    {y : TypeId} (hg : Blk.Is w0 g [.int .u8 u, .int .u8 v] y) (u0 : 0 ≤ u) (u1 : u < 256) (v0 : 0 ≤ v) (v1 : v < 256) (hk : F (a.put op.dst (.string ⟨(endsOf u.toNat v.toNat).toArray⟩))) : op.quiet P a (Cls.In (Cls.Kept w0)) F := by
  refine Byt.quiet_text K x ho g 0 2 cap hx [u.toNat, v.toNat] hg.lt (fun j z hj => ?_) rfl (fun y hy => ?_) hk
  · rw [Nat.zero_add, hg.cell]
    match j, hj with
    | 0, hj =>
      simp only [nats, List.map_cons, List.getElem?_cons_zero, Option.some.injEq] at hj
      rw [← hj, Int.toNat_of_nonneg u0]
      rfl
    | 1, hj =>
      simp only [nats, List.map_cons, List.getElem?_cons_zero, List.getElem?_cons_succ, Option.some.injEq] at hj
      rw [← hj, Int.toNat_of_nonneg v0]
      rfl
    | n + 2, hj => simp [nats] at hj
  · simp only [List.mem_cons, List.not_mem_nil, or_false] at hy
    rcases hy with rfl | rfl <;> omega
theorem ends2_is (f t : Int) : endsOf (f % 256).toNat (t % 256).toNat = ends2 f t := rfl
attribute [local irreducible] endsOf ends2 hmac hkey
set_option maxHeartbeats 4000000 in
set_option maxRecDepth 100000 in
theorem rtag_any (s : List UInt8) (f t : Int) (b : List UInt8) (w : World) (hs : s.length < 1099511627776) (hb : b.length < 274877906944) :
    Calls Try.prog 59 #[.string ⟨s.toArray⟩, .int .i64 f, .int .i64 t, .string ⟨b.toArray⟩] w fun e w' => e = .returned (.string ⟨(tagOf s f t b).toArray⟩) ∧ Below w.heap.size w w' := by
  have ef := and255 f
  have et := and255 t
  have hle := ends2_le f t
  have hkl := hkey_length s f t
  have HKL := Lib.hid hkl
  have HT := Lib.hid (show tagOf s f t b = hmac (hkey s f t) (ends2 f t ++ b) from rfl)
  have HCAT := Lib.hid (cat_bytes (ends2 f t) b)
  clear hkl
  go_enter Try.func59, Try.ntmps59
  go_wp2
  refine Dep.region_hang 15 10 [0, 1, 2, 3, 4, 5, 6, 7, 8, 9, 12] [11, 13, 14] 24 _ rfl (by kernel_rfl) (by kernel_rfl) (by kernel_rfl) (by decide) (by decide +kernel) (by decide +kernel) rfl (by kernel_rfl)
    (fun h : Nat => .slice (some ⟨h, 0, none⟩) 2 2) (fun w1 h => Blk.Is w1 h [.int .u8 (f % 256), .int .u8 (t % 256)] 5) (fun x w1 w2 h hb => Blk.Is.below h hb) ?_
  simp only [Dep.sel, List.getElem?_cons_zero, List.getElem?_cons_succ]
  apply Exists.intro
  apply And.intro
  · intro w1 hw1
    iterate 3 (go_big_quiet_step (fail))
    go_big_quiet_step ((go_at_call 30; with_reducible refine Cls.calls_kept (rkey_any s f t _ hs)))
    iterate 7 (go_big_quiet_step (fail))
    exact wpQuiet_nil rfl
  refine ⟨fun w1 hw1 => ?_, ?_⟩
  · refine ⟨w1.heap.size, w1.alloc (.cells #[.int .u8 (f % 256), .int .u8 (t % 256)] 5), ?_, (Below.refl _ _).alloc (Nat.le_refl _) _, Blk.new w1 [.int .u8 (f % 256), .int .u8 (t % 256)] 5⟩
    go_simp
  apply Exists.intro
  apply And.intro
  · intro h w1 hw1 hm
    simp only [Act.put, List.setIfInBounds_toArray, List.set_cons_zero, List.set_cons_succ]
    have HM := Lib.hid hm
    clear hm
    go_big_quiet_want
    refine quiet_two kit (.tmp 19) rfl h 2 (f % 256) (t % 256) rfl HM.out (by omega) (by omega) (by omega) (by omega) ?_
    rw [ends2_is]
    simp only [Act.put, List.setIfInBounds_toArray, List.set_cons_zero, List.set_cons_succ]
    go_big_quiet_on
    go_big_quiet_step (fail)
    rw [HCAT.out]
    go_big_quiet_step ((go_at_call 28; with_reducible refine Cls.calls_kept (rhsum_any (hkey s f t) (ends2 f t ++ b) _ (by rw [HKL.out]; decide) (by rw [List.length_append]; omega))))
    exact wpQuiet_nil rfl
  intro h w1 hw1 hm
  clear hm
  go_wp2
  exact bodyPost_ret (results_tmp rfl _ _ _) rfl ⟨by rw [HT.out]; rfl, (Below.refl _ _).drew.trans hw1⟩
end Go.Proofs.Yticegglphmgoaaa.Sha
