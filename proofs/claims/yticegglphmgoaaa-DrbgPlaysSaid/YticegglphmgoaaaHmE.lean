/- Whether two texts are the same, walked. Conditions: fewer than 2^62 bytes. -/
import Derived.Test.YticegglphmgoaaaHmD
namespace Go.Proofs.Yticegglphmgoaaa.Sha
open Go.RowKit
open Blk (nats)
theorem or8 (a b : Nat) (ha : a < 256) (hb : b < 256) : bits .or .u8 (a : Int) (b : Int) = ((a ||| b : Nat) : Int) := by
  show IntKind.u8.wrap ((BitVec.ofInt 8 (a : Int) ||| BitVec.ofInt 8 (b : Int)).toNat : Nat) = _
  rw [BitVec.toNat_or, ofInt_toNat 8 a ha, ofInt_toNat 8 b hb]
  have := Nat.or_lt_two_pow (n := 8) (x := a) (y := b) ha hb
  rw [IntKind.wrap_u8]
  omega
/-- So many first bytes of two texts are the same. -/
def alike (a b : List UInt8) (k : Nat) : Prop := a.length = b.length ∧ a.take k = b.take k
theorem alike_succ (a b : List UInt8) (k : Nat) (x y : UInt8) (hx : a[k]? = some x) (hy : b[k]? = some y) : alike a b (k + 1) ↔ alike a b k ∧ x = y := by
  unfold alike
  have h1 : a.take (k + 1) = a.take k ++ [x] := by rw [List.take_add_one, hx]; rfl
  have h2 : b.take (k + 1) = b.take k ++ [y] := by rw [List.take_add_one, hy]; rfl
  have h3 : (a.take k).length = (b.take k).length := by
    have := (List.getElem?_eq_some_iff.1 hx).1
    have := (List.getElem?_eq_some_iff.1 hy).1
    rw [List.length_take, List.length_take]; omega
  rw [h1, h2]
  constructor
  · rintro ⟨h, h4⟩
    have := List.append_inj h4 h3
    exact ⟨⟨h, this.1⟩, by simpa using this.2⟩
  · rintro ⟨⟨h, h4⟩, rfl⟩
    exact ⟨h, by rw [h4]⟩
theorem alike_all (a b : List UInt8) (k : Nat) (h : k = min a.length b.length) : alike a b k ↔ a = b := by
  unfold alike
  constructor
  · rintro ⟨h1, h2⟩
    rwa [List.take_of_length_le (by omega), List.take_of_length_le (by omega)] at h2
  · rintro rfl
    exact ⟨rfl, rfl⟩
theorem or_xor_zero (o x y : Nat) : (o ||| (x ^^^ y)) = 0 ↔ o = 0 ∧ x = y := by
  rw [Nat.or_eq_zero_iff]
  constructor
  · rintro ⟨h1, h2⟩
    refine ⟨h1, ?_⟩
    have h3 : (x ^^^ y) ^^^ y = 0 ^^^ y := by rw [h2]
    rwa [Nat.xor_assoc, Nat.xor_self, Nat.xor_zero, Nat.zero_xor] at h3
  · rintro ⟨h1, rfl⟩
    exact ⟨h1, Nat.xor_self x⟩
set_option maxHeartbeats 4000000 in
set_option maxRecDepth 100000 in
theorem same_any (a b : List UInt8) (w : World) (ha : a.length < 1099511627776) (hb : b.length < 1099511627776) :
    Calls Try.prog 31 #[.string ⟨a.toArray⟩, .string ⟨b.toArray⟩] w fun e w' => e = .returned (.bool (decide (a = b))) ∧ Below w.heap.size w w' := by
  rcases (show a.length = b.length ∨ a.length < b.length ∨ b.length < a.length by omega) with hl | hl | hl
  · have hne : ((a.length : Int) != (b.length : Int)) = false := by rw [hl]; simp
    have hle : (a.length : Int) ≤ (b.length : Int) := by omega
    have hge : ¬ (b.length : Int) < (a.length : Int) := by omega
    have HL := Lib.hid hl
    have hl1 : a.length ≤ b.length := by omega
    have hl2 : b.length ≤ a.length := by omega
    clear hl
    go_enter Try.func31, Try.ntmps31
    go_wp2_with fail
    go_loopw [5, 6, 17] (fun v _ i wr => ∃ k o : Nat, k ≤ a.length ∧ o < 256 ∧ i = .int .i64 k ∧ v = .int .u8 o ∧ Hid (o = 0 ↔ alike a b k) ∧ Below w.heap.size w wr)
      (fun _ _ i _ => a.length - (intOf i).toNat)
    case atStart => exact ⟨0, 0, by omega, by decide, rfl, rfl, Lib.hid (⟨fun _ => ⟨HL.out, rfl⟩, fun _ => rfl⟩), Below.refl _ _⟩
    case round =>
      obtain ⟨k, o, hk, ho, rfl, rfl, HA, k0⟩ := hrel
      by_cases hlt : k < a.length
      · have hka : k < a.length := by omega
        have hkb : k < b.length := by omega
        have hax : a[k]? = some a[k] := List.getElem?_eq_getElem hka
        have hbx : b[k]? = some b[k] := List.getElem?_eq_getElem hkb
        have hs := alike_succ a b k _ _ hax hbx
        generalize a[k] = x at hax hs
        generalize b[k] = y at hbx hs
        have hx := x.toNat_lt
        have hy := y.toNat_lt
        have hxy := Nat.xor_lt_two_pow (n := 8) (x := x.toNat) (y := y.toNat) hx hy
        have HXY := Lib.hid (xor8 x.toNat y.toNat hx hy)
        have HOX := Lib.hid (or8 o (x.toNat ^^^ y.toNat) ho hxy)
        have hol := Nat.or_lt_two_pow (n := 8) (x := o) (y := x.toNat ^^^ y.toNat) ho hxy
        have HAX := Lib.hid hax
        have HBX := Lib.hid hbx
        have HS : Hid ((o ||| (x.toNat ^^^ y.toNat)) = 0 ↔ alike a b (k + 1)) := by
          have : (o ||| (x.toNat ^^^ y.toNat)) = 0 ↔ alike a b (k + 1) := by
            rw [or_xor_zero, hs, HA.out, UInt8.toNat_inj]
          exact Lib.hid this
        clear hax hbx hs
        go_upto_region 7 with (fail)
        (try simp only [Act.put])
        refine Cls.region_tail (S := Cls.Kept _) 9 (by kernel_rfl) (by kernel_rfl) (Below.refl _ _) ?_
        simp only [List.take_succ_cons, List.take_zero, List.drop_succ_cons, List.drop_zero]
        iterate 3 (go_big_quiet_step (fail))
        go_big_quiet_want
        refine quiet_index 9 (.tmp 21) (.tmp 22) rfl a rfl .i64 k rfl (by kernel_rfl) x HAX.out ?_
        simp only [Act.put, List.setIfInBounds_toArray, List.set_cons_zero, List.set_cons_succ]
        go_big_quiet_on
        iterate 2 (go_big_quiet_step (fail))
        go_big_quiet_want
        refine quiet_index 9 (.tmp 24) (.tmp 25) rfl b rfl .i64 k rfl (by kernel_rfl) y HBX.out ?_
        simp only [Act.put, List.setIfInBounds_toArray, List.set_cons_zero, List.set_cons_succ]
        go_big_quiet_on
        go_big_quiet_step (fail)
        rw [HXY.out]
        go_big_quiet_step (fail)
        rw [HOX.out]
        refine wpQuiet_nil ?_
        intro w3 hw3
        have k3 := k0.drew.trans (hw3.mono k0.size)
        generalize (o ||| (x.toNat ^^^ y.toNat)) = q at hol HS ⊢
        clear HXY HOX hw3 k0 hxy
        go_wp2
        go_roundw
        case rel => exact ⟨k + 1, q, by omega, hol, by go_num, rfl, HS, k3⟩
        case measure => simp [intOf]; omega
      · have hk' : k = a.length := by omega
        have hall := alike_all a b k (by omega)
        have hend : decide (a = b) = ((o : Int) == 0) := by
          rw [Bool.eq_iff_iff, decide_eq_true_iff, ← hall, ← HA.out, beq_iff_eq]
          omega
        have HE := Lib.hid hend
        clear hall hend hk'
        go_wp2
        exact bodyPost_ret (results_tmp rfl _ _ _) rfl ⟨by rw [HE.out]; rfl, k0⟩
  · have hne : ((a.length : Int) != (b.length : Int)) = true := by rw [bne_iff_ne]; omega
    have hle : (a.length : Int) ≤ (b.length : Int) := by omega
    have hge : ¬ (b.length : Int) < (a.length : Int) := by omega
    have H0 : Hid ((1 : Nat) = 0 ↔ alike a b 0) := Lib.hid ⟨fun h => by omega, fun h => by have := h.1; omega⟩
    go_enter Try.func31, Try.ntmps31
    go_wp2_with fail
    go_loopw [5, 6, 17] (fun v _ i wr => ∃ k o : Nat, k ≤ a.length ∧ o < 256 ∧ i = .int .i64 k ∧ v = .int .u8 o ∧ Hid (o = 0 ↔ alike a b k) ∧ Below w.heap.size w wr)
      (fun _ _ i _ => a.length - (intOf i).toNat)
    case atStart => exact ⟨0, 1, by omega, by decide, rfl, rfl, Lib.hid (H0.out), Below.refl _ _⟩
    case round =>
      obtain ⟨k, o, hk, ho, rfl, rfl, HA, k0⟩ := hrel
      by_cases hlt : k < a.length
      · have hka : k < a.length := by omega
        have hkb : k < b.length := by omega
        have hax : a[k]? = some a[k] := List.getElem?_eq_getElem hka
        have hbx : b[k]? = some b[k] := List.getElem?_eq_getElem hkb
        have hs := alike_succ a b k _ _ hax hbx
        generalize a[k] = x at hax hs
        generalize b[k] = y at hbx hs
        have hx := x.toNat_lt
        have hy := y.toNat_lt
        have hxy := Nat.xor_lt_two_pow (n := 8) (x := x.toNat) (y := y.toNat) hx hy
        have HXY := Lib.hid (xor8 x.toNat y.toNat hx hy)
        have HOX := Lib.hid (or8 o (x.toNat ^^^ y.toNat) ho hxy)
        have hol := Nat.or_lt_two_pow (n := 8) (x := o) (y := x.toNat ^^^ y.toNat) ho hxy
        have HAX := Lib.hid hax
        have HBX := Lib.hid hbx
        have HS : Hid ((o ||| (x.toNat ^^^ y.toNat)) = 0 ↔ alike a b (k + 1)) := by
          have : (o ||| (x.toNat ^^^ y.toNat)) = 0 ↔ alike a b (k + 1) := by
            rw [or_xor_zero, hs, HA.out, UInt8.toNat_inj]
          exact Lib.hid this
        clear hax hbx hs
        go_upto_region 7 with (fail)
        (try simp only [Act.put])
        refine Cls.region_tail (S := Cls.Kept _) 9 (by kernel_rfl) (by kernel_rfl) (Below.refl _ _) ?_
        simp only [List.take_succ_cons, List.take_zero, List.drop_succ_cons, List.drop_zero]
        iterate 3 (go_big_quiet_step (fail))
        go_big_quiet_want
        refine quiet_index 9 (.tmp 21) (.tmp 22) rfl a rfl .i64 k rfl (by kernel_rfl) x HAX.out ?_
        simp only [Act.put, List.setIfInBounds_toArray, List.set_cons_zero, List.set_cons_succ]
        go_big_quiet_on
        iterate 2 (go_big_quiet_step (fail))
        go_big_quiet_want
        refine quiet_index 9 (.tmp 24) (.tmp 25) rfl b rfl .i64 k rfl (by kernel_rfl) y HBX.out ?_
        simp only [Act.put, List.setIfInBounds_toArray, List.set_cons_zero, List.set_cons_succ]
        go_big_quiet_on
        go_big_quiet_step (fail)
        rw [HXY.out]
        go_big_quiet_step (fail)
        rw [HOX.out]
        refine wpQuiet_nil ?_
        intro w3 hw3
        have k3 := k0.drew.trans (hw3.mono k0.size)
        generalize (o ||| (x.toNat ^^^ y.toNat)) = q at hol HS ⊢
        clear HXY HOX hw3 k0 hxy
        go_wp2
        go_roundw
        case rel => exact ⟨k + 1, q, by omega, hol, by go_num, rfl, HS, k3⟩
        case measure => simp [intOf]; omega
      · have hk' : k = a.length := by omega
        have hall := alike_all a b k (by omega)
        have hend : decide (a = b) = ((o : Int) == 0) := by
          rw [Bool.eq_iff_iff, decide_eq_true_iff, ← hall, ← HA.out, beq_iff_eq]
          omega
        have HE := Lib.hid hend
        clear hall hend hk'
        go_wp2
        exact bodyPost_ret (results_tmp rfl _ _ _) rfl ⟨by rw [HE.out]; rfl, k0⟩
  · have hne : ((a.length : Int) != (b.length : Int)) = true := by rw [bne_iff_ne]; omega
    have hle : ¬ (a.length : Int) ≤ (b.length : Int) := by omega
    have hge : (b.length : Int) < (a.length : Int) := by omega
    have H0 : Hid ((1 : Nat) = 0 ↔ alike a b 0) := Lib.hid ⟨fun h => by omega, fun h => by have := h.1; omega⟩
    go_enter Try.func31, Try.ntmps31
    go_wp2_with fail
    go_loopw [5, 6, 17] (fun v _ i wr => ∃ k o : Nat, k ≤ b.length ∧ o < 256 ∧ i = .int .i64 k ∧ v = .int .u8 o ∧ Hid (o = 0 ↔ alike a b k) ∧ Below w.heap.size w wr)
      (fun _ _ i _ => b.length - (intOf i).toNat)
    case atStart => exact ⟨0, 1, by omega, by decide, rfl, rfl, Lib.hid (H0.out), Below.refl _ _⟩
    case round =>
      obtain ⟨k, o, hk, ho, rfl, rfl, HA, k0⟩ := hrel
      by_cases hlt : k < b.length
      · have hka : k < a.length := by omega
        have hkb : k < b.length := by omega
        have hax : a[k]? = some a[k] := List.getElem?_eq_getElem hka
        have hbx : b[k]? = some b[k] := List.getElem?_eq_getElem hkb
        have hs := alike_succ a b k _ _ hax hbx
        generalize a[k] = x at hax hs
        generalize b[k] = y at hbx hs
        have hx := x.toNat_lt
        have hy := y.toNat_lt
        have hxy := Nat.xor_lt_two_pow (n := 8) (x := x.toNat) (y := y.toNat) hx hy
        have HXY := Lib.hid (xor8 x.toNat y.toNat hx hy)
        have HOX := Lib.hid (or8 o (x.toNat ^^^ y.toNat) ho hxy)
        have hol := Nat.or_lt_two_pow (n := 8) (x := o) (y := x.toNat ^^^ y.toNat) ho hxy
        have HAX := Lib.hid hax
        have HBX := Lib.hid hbx
        have HS : Hid ((o ||| (x.toNat ^^^ y.toNat)) = 0 ↔ alike a b (k + 1)) := by
          have : (o ||| (x.toNat ^^^ y.toNat)) = 0 ↔ alike a b (k + 1) := by
            rw [or_xor_zero, hs, HA.out, UInt8.toNat_inj]
          exact Lib.hid this
        clear hax hbx hs
        go_upto_region 7 with (fail)
        (try simp only [Act.put])
        refine Cls.region_tail (S := Cls.Kept _) 9 (by kernel_rfl) (by kernel_rfl) (Below.refl _ _) ?_
        simp only [List.take_succ_cons, List.take_zero, List.drop_succ_cons, List.drop_zero]
        iterate 3 (go_big_quiet_step (fail))
        go_big_quiet_want
        refine quiet_index 9 (.tmp 21) (.tmp 22) rfl a rfl .i64 k rfl (by kernel_rfl) x HAX.out ?_
        simp only [Act.put, List.setIfInBounds_toArray, List.set_cons_zero, List.set_cons_succ]
        go_big_quiet_on
        iterate 2 (go_big_quiet_step (fail))
        go_big_quiet_want
        refine quiet_index 9 (.tmp 24) (.tmp 25) rfl b rfl .i64 k rfl (by kernel_rfl) y HBX.out ?_
        simp only [Act.put, List.setIfInBounds_toArray, List.set_cons_zero, List.set_cons_succ]
        go_big_quiet_on
        go_big_quiet_step (fail)
        rw [HXY.out]
        go_big_quiet_step (fail)
        rw [HOX.out]
        refine wpQuiet_nil ?_
        intro w3 hw3
        have k3 := k0.drew.trans (hw3.mono k0.size)
        generalize (o ||| (x.toNat ^^^ y.toNat)) = q at hol HS ⊢
        clear HXY HOX hw3 k0 hxy
        go_wp2
        go_roundw
        case rel => exact ⟨k + 1, q, by omega, hol, by go_num, rfl, HS, k3⟩
        case measure => simp [intOf]; omega
      · have hk' : k = b.length := by omega
        have hall := alike_all a b k (by omega)
        have hend : decide (a = b) = ((o : Int) == 0) := by
          rw [Bool.eq_iff_iff, decide_eq_true_iff, ← hall, ← HA.out, beq_iff_eq]
          omega
        have HE := Lib.hid hend
        clear hall hend hk'
        go_wp2
        exact bodyPost_ret (results_tmp rfl _ _ _) rfl ⟨by rw [HE.out]; rfl, k0⟩
end Go.Proofs.Yticegglphmgoaaa.Sha
