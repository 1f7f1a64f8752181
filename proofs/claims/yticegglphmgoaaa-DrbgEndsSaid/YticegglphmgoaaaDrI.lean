/- Bytes may be asked for a thousand times; a source that nobody made; limits. No conditions. -/
import Derived.Test.YticegglphmgoaaaDrG
namespace Go.Proofs.Yticegglphmgoaaa.Sha
open Go.RowKit
open Blk (nats)
/-- A source that no bytes are asked of, so many times. -/
def spin (s : List UInt8 × List UInt8) : Nat → List UInt8 × List UInt8
  | 0 => s
  | j + 1 => served (spin s j) 0 []
theorem spin_length (s : List UInt8 × List UInt8) (h : s.1.length = 32 ∧ s.2.length = 32) (j : Nat) : (spin s j).1.length = 32 ∧ (spin s j).2.length = 32 := by
  cases j with
  | zero => exact h
  | succ j => exact served_length _ _ _
theorem told_none (k v : List UInt8) : told (k, v) 0 [] = [] := by unfold told; rw [List.take_zero]
/-- So many zero bytes. -/
def zz (n : Nat) : List UInt8 := List.replicate n 0
theorem zz_length (n : Nat) : (zz n).length = n := List.length_replicate
theorem zz_text (n : Nat) : Byt.text (Byt.zeros n) = .string ⟨(zz n).toArray⟩ := by unfold Byt.text Byt.zeros zz; rw [List.map_replicate]; rfl
theorem zz_range {w : World} {b n : Nat} {t : TypeId} (h : Blk.Is w b (nats .u8 (Byt.zeros n)) t) : w.rangeAt b 0 (nats .u8 (Byt.zeros n)) := h.range 0 _ (fun j v hj => by rw [Nat.zero_add]; exact hj)
theorem zz_lt (n : Nat) : ∀ y ∈ Byt.zeros n, y < 256 := Byt.replicate_lt (by decide)
attribute [local irreducible] hmac stir stir1 dbv dbo told served dba spin zz
set_option maxHeartbeats 8000000 in
set_option maxRecDepth 100000 in
theorem ends_lo (n : Int) (h : n < 0) (k v k4 v4 : List UInt8) (w : World) (h1 : stir (key0, val0) [115, 105, 120, 116, 101, 101, 110, 32, 98, 121, 116, 101, 115, 32, 111, 114] = (k, v)) (hl : k.length = 32 ∧ v.length = 32)
    (h2 : stir (spin (k, v) 1000) [115, 105, 120, 116, 101, 101, 110, 32, 98, 121, 116, 101, 115, 32, 111, 114] = (k4, v4)) (l4 : k4.length = 32 ∧ v4.length = 32) :
    Calls Try.prog 16 #[.int .i64 n] w fun e w' => e = .returned (.bool true) ∧ Below w.heap.size w w' := by
  have H1 := Lib.hid h1
  have H2 := Lib.hid h2
  have d1 : decide (n < 0) = true := decide_eq_true h
  have HNA : Hid (¬ asks n []) := Lib.hid (by unfold asks; omega)
  clear h
  clear h1 h2
  go_enter Try.func16, Try.ntmps16
  go_wp2_with fail
  refine (new_to [115, 105, 120, 116, 101, 101, 110, 32, 98, 121, 116, 101, 115, 32, 111, 114] k v H1.out _ (by decide)).mono ?_
  rintro e w1 ⟨g, rfl, hg1, hwg, k1'⟩
  have G1 := Lib.hid hg1
  clear hg1
  go_wp2_with fail
  go_loopw [5] (fun i wr => ∃ j : Nat, j ≤ 1000 ∧ i = .int .i64 j ∧ Hid (Blk.Is wr g (sc (spin (k, v) j).1 (spin (k, v) j).2 j) 76) ∧ Below w.heap.size w wr)
    (fun i _ => 1000 - (intOf i).toNat)
  case atStart => exact ⟨0, by omega, rfl, Lib.hid (by rw [spin]; exact G1.out), k1'⟩
  case round =>
  clear G1 k1'
  obtain ⟨j, hj, rfl, G2, k2'⟩ := hrel
  have sl := spin_length (k, v) hl j
  by_cases hlt : j < 1000
  · have d9 : decide ((j : Int) < 1000) = true := decide_eq_true (by omega)
    have HS : Hid (served ((spin (k, v) j).1, (spin (k, v) j).2) 0 [] = ((spin (k, v) (j + 1)).1, (spin (k, v) (j + 1)).2)) := Lib.hid (by rw [spin])
    have sl1 := spin_length (k, v) hl (j + 1)
    generalize (spin (k, v) j).1 = a at HS sl G2
    generalize (spin (k, v) j).2 = b at HS sl G2
    have HZ : Hid (∃ c d, (spin (k, v) (j + 1)).1 = c ∧ (spin (k, v) (j + 1)).2 = d) := Lib.hid ⟨_, _, rfl, rfl⟩
    obtain ⟨c, d, hc, hd⟩ := HZ.out
    rw [hc, hd] at HS sl1
    have HCD := Lib.hid (And.intro hc hd)
    clear hc hd HZ
    go_wp2_with fail
    refine (bytes_to a b [] [] c d j 0 j 0 (j + 1) rfl rfl rfl (told_none a b) HS.out g wr G2.out sl.1 sl.2 hlt (by decide) (by decide)).mono ?_
    rintro e w3 ⟨rfl, hg3, o3⟩
    have G3 := Lib.hid hg3
    have k3' := k2'.trans (o3.below hwg k2'.size)
    clear hg3 o3 G2 k2'
    go_wp2_with fail
    refine (left_to c d (j + 1) (j + 1) (999 - (j : Int)) rfl (by omega) g w3 G3.out sl1.1 (by omega)).mono ?_
    rintro e w4 ⟨rfl, rfl⟩
    go_wp2
    go_roundw
    case rel =>
      refine ⟨j + 1, by omega, by go_num, Lib.hid ?_, k3'⟩
      rw [HCD.out.1, HCD.out.2]
      exact G3.out
    case measure => simp [intOf]; omega
  obtain rfl : j = 1000 := by omega
  have HST : Hid (stir ((spin (k, v) 1000).1, (spin (k, v) 1000).2) [115, 105, 120, 116, 101, 101, 110, 32, 98, 121, 116, 101, 115, 32, 111, 114] = (k4, v4)) := H2
  generalize (spin (k, v) 1000).1 = k3 at HST sl G2
  generalize (spin (k, v) 1000).2 = v3 at HST sl G2
  go_wp2_with fail
  refine (bytes_end k3 v3 [] 1000 1 g wr G2.out sl.1 (by decide) (by decide)).mono ?_
  rintro e w3 ⟨rfl, rfl⟩
  go_wp2_with fail
  refine (reseed_no k3 v3 [120] 1000 g wr G2.out sl.1 (by decide)).mono ?_
  rintro e w3 ⟨rfl, rfl⟩
  go_wp2_with fail
  refine (reseed_to k3 v3 [115, 105, 120, 116, 101, 101, 110, 32, 98, 121, 116, 101, 115, 32, 111, 114] k4 v4 HST.out 1000 g wr G2.out sl.1 sl.2 (by decide)).mono ?_
  rintro e w5 ⟨rfl, hg5, o5⟩
  have G5 := Lib.hid hg5
  have k5' := k2'.trans (o5.below hwg k2'.size)
  clear hg5 o5 G2 k2' HST
  go_wp2_with fail
  refine (left_to k4 v4 0 0 1000 rfl rfl g w5 G5.out l4.1 (by decide)).mono ?_
  rintro e w6 ⟨rfl, rfl⟩
  go_wp2_with (first | (refine Byt.make_wp kit rfl (.const (.int .i64 1025)) (.const (.int .i64 1025)) rfl .i64 .i64 1025 1025 rfl rfl rfl (by decide) ?_) | fail)
  refine (bytes_no k4 v4 [] 0 n g w5 G5.out l4.1 HNA.out).mono ?_
  rintro e w6 ⟨rfl, rfl⟩
  go_wp2_with (first | (refine Byt.make_wp kit rfl (.const (.int .i64 1025)) (.const (.int .i64 1025)) rfl .i64 .i64 1025 1025 rfl rfl rfl (by decide) ?_) | fail)
  intro w7 i7 k7 z7
  clear z7
  have hzl : Hid (1025 = (Byt.zeros 1025).length) := Lib.hid (Byt.zeros_length _).symm
  have HZ := Lib.hid (zz_range i7)
  have HZL := Lib.hid (zz_lt 1025)
  have G7 := Lib.hid (G5.out.below k7)
  have k7 := k5'.trans (k7.mono k5'.size)
  have hz1 : (zz 1025).length = 1025 := zz_length _
  have HNA2 : Hid (¬ asks 1 (zz 1025)) := Lib.hid (by unfold asks; omega)
  have HNS2 : Hid (¬ seedy (zz 1025)) := Lib.hid (by unfold seedy; omega)
  clear i7 k5' hz1
  go_wp2_with (first | (refine Byt.text_at_wp kit rfl (.tmp 90) rfl w5.heap.size 0 1025 1025 rfl (Byt.zeros 1025) HZ.out hzl.out HZL.out ?_; rw [zz_text]) | fail)
  clear HZ
  refine (bytes_no k4 v4 (zz 1025) 0 1 g w7 G7.out l4.1 HNA2.out).mono ?_
  rintro e w8 ⟨rfl, rfl⟩
  clear G7 G5
  go_wp2_with (first | (refine Byt.make_wp kit rfl (.const (.int .i64 1025)) (.const (.int .i64 1025)) rfl .i64 .i64 1025 1025 rfl rfl rfl (by decide) ?_) | fail)
  intro w9 i9 k9 z9
  clear z9
  have HZ := Lib.hid (zz_range i9)
  have k9 := k7.trans (k9.mono k7.size)
  clear i9 k7
  go_wp2_with (first | (refine Byt.text_at_wp kit rfl (.tmp 96) rfl w7.heap.size 0 1025 1025 rfl (Byt.zeros 1025) HZ.out hzl.out HZL.out ?_; rw [zz_text]) | fail)
  clear HZ HZL hzl
  refine (new_no (zz 1025) w9 HNS2.out).mono ?_
  rintro e w10 ⟨rfl, rfl⟩
  go_upto_region 20 with (fail)
  obtain ⟨c, hc⟩ : ∃ c, c = w9.heap.size := ⟨_, rfl⟩
  obtain ⟨d, hd⟩ : ∃ d, d = w9.heap.size + 1 := ⟨_, rfl⟩
  have c10 : Blk.Is ((w9.alloc (.cells (sc [] [] 0).toArray 76)).alloc (.cells [.pointer none, .pointer (some ⟨c, 0, none⟩)].toArray 57)) c (sc [] [] 0) 76 := by
    rw [hc]
    exact (Blk.new w9 _ 76).alloc _
  have d10 : Blk.Is ((w9.alloc (.cells (sc [] [] 0).toArray 76)).alloc (.cells [.pointer none, .pointer (some ⟨c, 0, none⟩)].toArray 57)) d [.pointer none, .pointer (some ⟨c, 0, none⟩)] 57 := by
    rw [hd]
    exact Blk.new' _ _ 57 _ (by simp)
  have k10 : Below w.heap.size w ((w9.alloc (.cells (sc [] [] 0).toArray 76)).alloc (.cells [.pointer none, .pointer (some ⟨c, 0, none⟩)].toArray 57)) := (k9.alloc k9.size _).alloc (by have := k9.size; simp; omega) _
  rw [← hd, ← hc]
  generalize (w9.alloc (.cells (sc [] [] 0).toArray 76)).alloc (.cells [.pointer none, .pointer (some ⟨c, 0, none⟩)].toArray 57) = w11 at c10 d10 k10 ⊢
  have C11 := Lib.hid c10
  have D11 := Lib.hid d10
  clear hc hd c10 d10 k9
  go_wp2_with fail
  go_loopw [17] (fun i wr => ∃ j : Nat, j ≤ 2 ∧ i = .int .i64 j ∧ Hid (Blk.Is wr c (sc [] [] 0) 76) ∧ Hid (Blk.Is wr d [.pointer none, .pointer (some ⟨c, 0, none⟩)] 57) ∧ Below w.heap.size w wr)
    (fun i _ => 2 - (intOf i).toNat)
  case atStart => exact ⟨0, by omega, rfl, C11, D11, k10⟩
  case round =>
  clear C11 D11 k10
  obtain ⟨j, hj, rfl, C12, D12, k12⟩ := hrel
  by_cases hlt : j < 2
  · obtain ⟨p, hp, hoff⟩ : ∃ p, wr.cell? ⟨d, j, none⟩ = some (.pointer p) ∧ Off wr p := by
      match j, hlt with
      | 0, _ => exact ⟨none, D12.out.cell 0, Or.inl rfl⟩
      | 1, _ => exact ⟨_, D12.out.cell 1, Or.inr ⟨c, rfl, C12.out.cell 0⟩⟩
    have OF := Lib.hid hoff
    have d9 : decide ((j : Int) < 2) = true := decide_eq_true (by omega)
    have d9b : (j : Int) < 2 := by omega
    clear hoff
    go_wp2_with fail
    refine (bytes_off p 1 [] wr OF.out).mono ?_
    rintro e w12 ⟨rfl, rfl⟩
    go_wp2_with fail
    refine (reseed_off p [115, 105, 120, 116, 101, 101, 110, 32, 98, 121, 116, 101, 115, 32, 111, 114] wr OF.out).mono ?_
    rintro e w12 ⟨rfl, rfl⟩
    go_wp2_with fail
    refine (left_off p wr OF.out).mono ?_
    rintro e w12 ⟨rfl, rfl⟩
    go_wp2
    go_roundw
    case rel => exact ⟨j + 1, by omega, by go_num, C12, D12, k12⟩
    case measure => simp [intOf]; omega
  obtain rfl : j = 2 := by omega
  clear C12 D12
  go_wp2_with fail
  refine (dawake_any _).mono ?_
  rintro e w13 ⟨rfl, k13⟩
  have k13 := k12.trans (k13.mono k12.size)
  go_wp2
  exact bodyPost_ret (results_tmp rfl _ _ _) rfl ⟨rfl, k13⟩
set_option maxHeartbeats 8000000 in
set_option maxRecDepth 100000 in
theorem ends_hi (n : Int) (h0 : ¬ n < 0) (h : n > 8192) (k v k4 v4 : List UInt8) (w : World) (h1 : stir (key0, val0) [115, 105, 120, 116, 101, 101, 110, 32, 98, 121, 116, 101, 115, 32, 111, 114] = (k, v)) (hl : k.length = 32 ∧ v.length = 32)
    (h2 : stir (spin (k, v) 1000) [115, 105, 120, 116, 101, 101, 110, 32, 98, 121, 116, 101, 115, 32, 111, 114] = (k4, v4)) (l4 : k4.length = 32 ∧ v4.length = 32) :
    Calls Try.prog 16 #[.int .i64 n] w fun e w' => e = .returned (.bool true) ∧ Below w.heap.size w w' := by
  have H1 := Lib.hid h1
  have H2 := Lib.hid h2
  have d1 : decide (n < 0) = false := decide_eq_false h0
  have d2 : decide (n > 8192) = true := decide_eq_true h
  have HNA : Hid (¬ asks n []) := Lib.hid (by unfold asks; omega)
  clear h0 h
  clear h1 h2
  go_enter Try.func16, Try.ntmps16
  go_wp2_with fail
  refine (new_to [115, 105, 120, 116, 101, 101, 110, 32, 98, 121, 116, 101, 115, 32, 111, 114] k v H1.out _ (by decide)).mono ?_
  rintro e w1 ⟨g, rfl, hg1, hwg, k1'⟩
  have G1 := Lib.hid hg1
  clear hg1
  go_wp2_with fail
  go_loopw [5] (fun i wr => ∃ j : Nat, j ≤ 1000 ∧ i = .int .i64 j ∧ Hid (Blk.Is wr g (sc (spin (k, v) j).1 (spin (k, v) j).2 j) 76) ∧ Below w.heap.size w wr)
    (fun i _ => 1000 - (intOf i).toNat)
  case atStart => exact ⟨0, by omega, rfl, Lib.hid (by rw [spin]; exact G1.out), k1'⟩
  case round =>
  clear G1 k1'
  obtain ⟨j, hj, rfl, G2, k2'⟩ := hrel
  have sl := spin_length (k, v) hl j
  by_cases hlt : j < 1000
  · have d9 : decide ((j : Int) < 1000) = true := decide_eq_true (by omega)
    have HS : Hid (served ((spin (k, v) j).1, (spin (k, v) j).2) 0 [] = ((spin (k, v) (j + 1)).1, (spin (k, v) (j + 1)).2)) := Lib.hid (by rw [spin])
    have sl1 := spin_length (k, v) hl (j + 1)
    generalize (spin (k, v) j).1 = a at HS sl G2
    generalize (spin (k, v) j).2 = b at HS sl G2
    have HZ : Hid (∃ c d, (spin (k, v) (j + 1)).1 = c ∧ (spin (k, v) (j + 1)).2 = d) := Lib.hid ⟨_, _, rfl, rfl⟩
    obtain ⟨c, d, hc, hd⟩ := HZ.out
    rw [hc, hd] at HS sl1
    have HCD := Lib.hid (And.intro hc hd)
    clear hc hd HZ
    go_wp2_with fail
    refine (bytes_to a b [] [] c d j 0 j 0 (j + 1) rfl rfl rfl (told_none a b) HS.out g wr G2.out sl.1 sl.2 hlt (by decide) (by decide)).mono ?_
    rintro e w3 ⟨rfl, hg3, o3⟩
    have G3 := Lib.hid hg3
    have k3' := k2'.trans (o3.below hwg k2'.size)
    clear hg3 o3 G2 k2'
    go_wp2_with fail
    refine (left_to c d (j + 1) (j + 1) (999 - (j : Int)) rfl (by omega) g w3 G3.out sl1.1 (by omega)).mono ?_
    rintro e w4 ⟨rfl, rfl⟩
    go_wp2
    go_roundw
    case rel =>
      refine ⟨j + 1, by omega, by go_num, Lib.hid ?_, k3'⟩
      rw [HCD.out.1, HCD.out.2]
      exact G3.out
    case measure => simp [intOf]; omega
  obtain rfl : j = 1000 := by omega
  have HST : Hid (stir ((spin (k, v) 1000).1, (spin (k, v) 1000).2) [115, 105, 120, 116, 101, 101, 110, 32, 98, 121, 116, 101, 115, 32, 111, 114] = (k4, v4)) := H2
  generalize (spin (k, v) 1000).1 = k3 at HST sl G2
  generalize (spin (k, v) 1000).2 = v3 at HST sl G2
  go_wp2_with fail
  refine (bytes_end k3 v3 [] 1000 1 g wr G2.out sl.1 (by decide) (by decide)).mono ?_
  rintro e w3 ⟨rfl, rfl⟩
  go_wp2_with fail
  refine (reseed_no k3 v3 [120] 1000 g wr G2.out sl.1 (by decide)).mono ?_
  rintro e w3 ⟨rfl, rfl⟩
  go_wp2_with fail
  refine (reseed_to k3 v3 [115, 105, 120, 116, 101, 101, 110, 32, 98, 121, 116, 101, 115, 32, 111, 114] k4 v4 HST.out 1000 g wr G2.out sl.1 sl.2 (by decide)).mono ?_
  rintro e w5 ⟨rfl, hg5, o5⟩
  have G5 := Lib.hid hg5
  have k5' := k2'.trans (o5.below hwg k2'.size)
  clear hg5 o5 G2 k2' HST
  go_wp2_with fail
  refine (left_to k4 v4 0 0 1000 rfl rfl g w5 G5.out l4.1 (by decide)).mono ?_
  rintro e w6 ⟨rfl, rfl⟩
  go_wp2_with (first | (refine Byt.make_wp kit rfl (.const (.int .i64 1025)) (.const (.int .i64 1025)) rfl .i64 .i64 1025 1025 rfl rfl rfl (by decide) ?_) | fail)
  refine (bytes_no k4 v4 [] 0 n g w5 G5.out l4.1 HNA.out).mono ?_
  rintro e w6 ⟨rfl, rfl⟩
  go_wp2_with (first | (refine Byt.make_wp kit rfl (.const (.int .i64 1025)) (.const (.int .i64 1025)) rfl .i64 .i64 1025 1025 rfl rfl rfl (by decide) ?_) | fail)
  intro w7 i7 k7 z7
  clear z7
  have hzl : Hid (1025 = (Byt.zeros 1025).length) := Lib.hid (Byt.zeros_length _).symm
  have HZ := Lib.hid (zz_range i7)
  have HZL := Lib.hid (zz_lt 1025)
  have G7 := Lib.hid (G5.out.below k7)
  have k7 := k5'.trans (k7.mono k5'.size)
  have hz1 : (zz 1025).length = 1025 := zz_length _
  have HNA2 : Hid (¬ asks 1 (zz 1025)) := Lib.hid (by unfold asks; omega)
  have HNS2 : Hid (¬ seedy (zz 1025)) := Lib.hid (by unfold seedy; omega)
  clear i7 k5' hz1
  go_wp2_with (first | (refine Byt.text_at_wp kit rfl (.tmp 90) rfl w5.heap.size 0 1025 1025 rfl (Byt.zeros 1025) HZ.out hzl.out HZL.out ?_; rw [zz_text]) | fail)
  clear HZ
  refine (bytes_no k4 v4 (zz 1025) 0 1 g w7 G7.out l4.1 HNA2.out).mono ?_
  rintro e w8 ⟨rfl, rfl⟩
  clear G7 G5
  go_wp2_with (first | (refine Byt.make_wp kit rfl (.const (.int .i64 1025)) (.const (.int .i64 1025)) rfl .i64 .i64 1025 1025 rfl rfl rfl (by decide) ?_) | fail)
  intro w9 i9 k9 z9
  clear z9
  have HZ := Lib.hid (zz_range i9)
  have k9 := k7.trans (k9.mono k7.size)
  clear i9 k7
  go_wp2_with (first | (refine Byt.text_at_wp kit rfl (.tmp 96) rfl w7.heap.size 0 1025 1025 rfl (Byt.zeros 1025) HZ.out hzl.out HZL.out ?_; rw [zz_text]) | fail)
  clear HZ HZL hzl
  refine (new_no (zz 1025) w9 HNS2.out).mono ?_
  rintro e w10 ⟨rfl, rfl⟩
  go_upto_region 20 with (fail)
  obtain ⟨c, hc⟩ : ∃ c, c = w9.heap.size := ⟨_, rfl⟩
  obtain ⟨d, hd⟩ : ∃ d, d = w9.heap.size + 1 := ⟨_, rfl⟩
  have c10 : Blk.Is ((w9.alloc (.cells (sc [] [] 0).toArray 76)).alloc (.cells [.pointer none, .pointer (some ⟨c, 0, none⟩)].toArray 57)) c (sc [] [] 0) 76 := by
    rw [hc]
    exact (Blk.new w9 _ 76).alloc _
  have d10 : Blk.Is ((w9.alloc (.cells (sc [] [] 0).toArray 76)).alloc (.cells [.pointer none, .pointer (some ⟨c, 0, none⟩)].toArray 57)) d [.pointer none, .pointer (some ⟨c, 0, none⟩)] 57 := by
    rw [hd]
    exact Blk.new' _ _ 57 _ (by simp)
  have k10 : Below w.heap.size w ((w9.alloc (.cells (sc [] [] 0).toArray 76)).alloc (.cells [.pointer none, .pointer (some ⟨c, 0, none⟩)].toArray 57)) := (k9.alloc k9.size _).alloc (by have := k9.size; simp; omega) _
  rw [← hd, ← hc]
  generalize (w9.alloc (.cells (sc [] [] 0).toArray 76)).alloc (.cells [.pointer none, .pointer (some ⟨c, 0, none⟩)].toArray 57) = w11 at c10 d10 k10 ⊢
  have C11 := Lib.hid c10
  have D11 := Lib.hid d10
  clear hc hd c10 d10 k9
  go_wp2_with fail
  go_loopw [17] (fun i wr => ∃ j : Nat, j ≤ 2 ∧ i = .int .i64 j ∧ Hid (Blk.Is wr c (sc [] [] 0) 76) ∧ Hid (Blk.Is wr d [.pointer none, .pointer (some ⟨c, 0, none⟩)] 57) ∧ Below w.heap.size w wr)
    (fun i _ => 2 - (intOf i).toNat)
  case atStart => exact ⟨0, by omega, rfl, C11, D11, k10⟩
  case round =>
  clear C11 D11 k10
  obtain ⟨j, hj, rfl, C12, D12, k12⟩ := hrel
  by_cases hlt : j < 2
  · obtain ⟨p, hp, hoff⟩ : ∃ p, wr.cell? ⟨d, j, none⟩ = some (.pointer p) ∧ Off wr p := by
      match j, hlt with
      | 0, _ => exact ⟨none, D12.out.cell 0, Or.inl rfl⟩
      | 1, _ => exact ⟨_, D12.out.cell 1, Or.inr ⟨c, rfl, C12.out.cell 0⟩⟩
    have OF := Lib.hid hoff
    have d9 : decide ((j : Int) < 2) = true := decide_eq_true (by omega)
    have d9b : (j : Int) < 2 := by omega
    clear hoff
    go_wp2_with fail
    refine (bytes_off p 1 [] wr OF.out).mono ?_
    rintro e w12 ⟨rfl, rfl⟩
    go_wp2_with fail
    refine (reseed_off p [115, 105, 120, 116, 101, 101, 110, 32, 98, 121, 116, 101, 115, 32, 111, 114] wr OF.out).mono ?_
    rintro e w12 ⟨rfl, rfl⟩
    go_wp2_with fail
    refine (left_off p wr OF.out).mono ?_
    rintro e w12 ⟨rfl, rfl⟩
    go_wp2
    go_roundw
    case rel => exact ⟨j + 1, by omega, by go_num, C12, D12, k12⟩
    case measure => simp [intOf]; omega
  obtain rfl : j = 2 := by omega
  clear C12 D12
  go_wp2_with fail
  refine (dawake_any _).mono ?_
  rintro e w13 ⟨rfl, k13⟩
  have k13 := k12.trans (k13.mono k12.size)
  go_wp2
  exact bodyPost_ret (results_tmp rfl _ _ _) rfl ⟨rfl, k13⟩
set_option maxHeartbeats 8000000 in
set_option maxRecDepth 100000 in
theorem ends_mid (n : Int) (h0 : ¬ n < 0) (h : ¬ n > 8192) (k v k4 v4 : List UInt8) (w : World) (h1 : stir (key0, val0) [115, 105, 120, 116, 101, 101, 110, 32, 98, 121, 116, 101, 115, 32, 111, 114] = (k, v)) (hl : k.length = 32 ∧ v.length = 32)
    (h2 : stir (spin (k, v) 1000) [115, 105, 120, 116, 101, 101, 110, 32, 98, 121, 116, 101, 115, 32, 111, 114] = (k4, v4)) (l4 : k4.length = 32 ∧ v4.length = 32) :
    Calls Try.prog 16 #[.int .i64 n] w fun e w' => e = .returned (.bool true) ∧ Below w.heap.size w w' := by
  have H1 := Lib.hid h1
  have H2 := Lib.hid h2
  have d1 : decide (n < 0) = false := decide_eq_false h0
  have d2 : decide (n > 8192) = false := decide_eq_false h
  clear h0 h
  clear h1 h2
  go_enter Try.func16, Try.ntmps16
  go_wp2_with fail
  refine (new_to [115, 105, 120, 116, 101, 101, 110, 32, 98, 121, 116, 101, 115, 32, 111, 114] k v H1.out _ (by decide)).mono ?_
  rintro e w1 ⟨g, rfl, hg1, hwg, k1'⟩
  have G1 := Lib.hid hg1
  clear hg1
  go_wp2_with fail
  go_loopw [5] (fun i wr => ∃ j : Nat, j ≤ 1000 ∧ i = .int .i64 j ∧ Hid (Blk.Is wr g (sc (spin (k, v) j).1 (spin (k, v) j).2 j) 76) ∧ Below w.heap.size w wr)
    (fun i _ => 1000 - (intOf i).toNat)
  case atStart => exact ⟨0, by omega, rfl, Lib.hid (by rw [spin]; exact G1.out), k1'⟩
  case round =>
  clear G1 k1'
  obtain ⟨j, hj, rfl, G2, k2'⟩ := hrel
  have sl := spin_length (k, v) hl j
  by_cases hlt : j < 1000
  · have d9 : decide ((j : Int) < 1000) = true := decide_eq_true (by omega)
    have HS : Hid (served ((spin (k, v) j).1, (spin (k, v) j).2) 0 [] = ((spin (k, v) (j + 1)).1, (spin (k, v) (j + 1)).2)) := Lib.hid (by rw [spin])
    have sl1 := spin_length (k, v) hl (j + 1)
    generalize (spin (k, v) j).1 = a at HS sl G2
    generalize (spin (k, v) j).2 = b at HS sl G2
    have HZ : Hid (∃ c d, (spin (k, v) (j + 1)).1 = c ∧ (spin (k, v) (j + 1)).2 = d) := Lib.hid ⟨_, _, rfl, rfl⟩
    obtain ⟨c, d, hc, hd⟩ := HZ.out
    rw [hc, hd] at HS sl1
    have HCD := Lib.hid (And.intro hc hd)
    clear hc hd HZ
    go_wp2_with fail
    refine (bytes_to a b [] [] c d j 0 j 0 (j + 1) rfl rfl rfl (told_none a b) HS.out g wr G2.out sl.1 sl.2 hlt (by decide) (by decide)).mono ?_
    rintro e w3 ⟨rfl, hg3, o3⟩
    have G3 := Lib.hid hg3
    have k3' := k2'.trans (o3.below hwg k2'.size)
    clear hg3 o3 G2 k2'
    go_wp2_with fail
    refine (left_to c d (j + 1) (j + 1) (999 - (j : Int)) rfl (by omega) g w3 G3.out sl1.1 (by omega)).mono ?_
    rintro e w4 ⟨rfl, rfl⟩
    go_wp2
    go_roundw
    case rel =>
      refine ⟨j + 1, by omega, by go_num, Lib.hid ?_, k3'⟩
      rw [HCD.out.1, HCD.out.2]
      exact G3.out
    case measure => simp [intOf]; omega
  obtain rfl : j = 1000 := by omega
  have HST : Hid (stir ((spin (k, v) 1000).1, (spin (k, v) 1000).2) [115, 105, 120, 116, 101, 101, 110, 32, 98, 121, 116, 101, 115, 32, 111, 114] = (k4, v4)) := H2
  generalize (spin (k, v) 1000).1 = k3 at HST sl G2
  generalize (spin (k, v) 1000).2 = v3 at HST sl G2
  go_wp2_with fail
  refine (bytes_end k3 v3 [] 1000 1 g wr G2.out sl.1 (by decide) (by decide)).mono ?_
  rintro e w3 ⟨rfl, rfl⟩
  go_wp2_with fail
  refine (reseed_no k3 v3 [120] 1000 g wr G2.out sl.1 (by decide)).mono ?_
  rintro e w3 ⟨rfl, rfl⟩
  go_wp2_with fail
  refine (reseed_to k3 v3 [115, 105, 120, 116, 101, 101, 110, 32, 98, 121, 116, 101, 115, 32, 111, 114] k4 v4 HST.out 1000 g wr G2.out sl.1 sl.2 (by decide)).mono ?_
  rintro e w5 ⟨rfl, hg5, o5⟩
  have G5 := Lib.hid hg5
  have k5' := k2'.trans (o5.below hwg k2'.size)
  clear hg5 o5 G2 k2' HST
  go_wp2_with fail
  refine (left_to k4 v4 0 0 1000 rfl rfl g w5 G5.out l4.1 (by decide)).mono ?_
  rintro e w6 ⟨rfl, rfl⟩
  go_wp2_with (first | (refine Byt.make_wp kit rfl (.const (.int .i64 1025)) (.const (.int .i64 1025)) rfl .i64 .i64 1025 1025 rfl rfl rfl (by decide) ?_) | fail)
  intro w7 i7 k7 z7
  clear z7
  have hzl : Hid (1025 = (Byt.zeros 1025).length) := Lib.hid (Byt.zeros_length _).symm
  have HZ := Lib.hid (zz_range i7)
  have HZL := Lib.hid (zz_lt 1025)
  have G7 := Lib.hid (G5.out.below k7)
  have k7 := k5'.trans (k7.mono k5'.size)
  have hz1 : (zz 1025).length = 1025 := zz_length _
  have HNA2 : Hid (¬ asks 1 (zz 1025)) := Lib.hid (by unfold asks; omega)
  have HNS2 : Hid (¬ seedy (zz 1025)) := Lib.hid (by unfold seedy; omega)
  clear i7 k5' hz1
  go_wp2_with (first | (refine Byt.text_at_wp kit rfl (.tmp 90) rfl w5.heap.size 0 1025 1025 rfl (Byt.zeros 1025) HZ.out hzl.out HZL.out ?_; rw [zz_text]) | fail)
  clear HZ
  refine (bytes_no k4 v4 (zz 1025) 0 1 g w7 G7.out l4.1 HNA2.out).mono ?_
  rintro e w8 ⟨rfl, rfl⟩
  clear G7 G5
  go_wp2_with (first | (refine Byt.make_wp kit rfl (.const (.int .i64 1025)) (.const (.int .i64 1025)) rfl .i64 .i64 1025 1025 rfl rfl rfl (by decide) ?_) | fail)
  intro w9 i9 k9 z9
  clear z9
  have HZ := Lib.hid (zz_range i9)
  have k9 := k7.trans (k9.mono k7.size)
  clear i9 k7
  go_wp2_with (first | (refine Byt.text_at_wp kit rfl (.tmp 96) rfl w7.heap.size 0 1025 1025 rfl (Byt.zeros 1025) HZ.out hzl.out HZL.out ?_; rw [zz_text]) | fail)
  clear HZ HZL hzl
  refine (new_no (zz 1025) w9 HNS2.out).mono ?_
  rintro e w10 ⟨rfl, rfl⟩
  go_upto_region 20 with (fail)
  obtain ⟨c, hc⟩ : ∃ c, c = w9.heap.size := ⟨_, rfl⟩
  obtain ⟨d, hd⟩ : ∃ d, d = w9.heap.size + 1 := ⟨_, rfl⟩
  have c10 : Blk.Is ((w9.alloc (.cells (sc [] [] 0).toArray 76)).alloc (.cells [.pointer none, .pointer (some ⟨c, 0, none⟩)].toArray 57)) c (sc [] [] 0) 76 := by
    rw [hc]
    exact (Blk.new w9 _ 76).alloc _
  have d10 : Blk.Is ((w9.alloc (.cells (sc [] [] 0).toArray 76)).alloc (.cells [.pointer none, .pointer (some ⟨c, 0, none⟩)].toArray 57)) d [.pointer none, .pointer (some ⟨c, 0, none⟩)] 57 := by
    rw [hd]
    exact Blk.new' _ _ 57 _ (by simp)
  have k10 : Below w.heap.size w ((w9.alloc (.cells (sc [] [] 0).toArray 76)).alloc (.cells [.pointer none, .pointer (some ⟨c, 0, none⟩)].toArray 57)) := (k9.alloc k9.size _).alloc (by have := k9.size; simp; omega) _
  rw [← hd, ← hc]
  generalize (w9.alloc (.cells (sc [] [] 0).toArray 76)).alloc (.cells [.pointer none, .pointer (some ⟨c, 0, none⟩)].toArray 57) = w11 at c10 d10 k10 ⊢
  have C11 := Lib.hid c10
  have D11 := Lib.hid d10
  clear hc hd c10 d10 k9
  go_wp2_with fail
  go_loopw [17] (fun i wr => ∃ j : Nat, j ≤ 2 ∧ i = .int .i64 j ∧ Hid (Blk.Is wr c (sc [] [] 0) 76) ∧ Hid (Blk.Is wr d [.pointer none, .pointer (some ⟨c, 0, none⟩)] 57) ∧ Below w.heap.size w wr)
    (fun i _ => 2 - (intOf i).toNat)
  case atStart => exact ⟨0, by omega, rfl, C11, D11, k10⟩
  case round =>
  clear C11 D11 k10
  obtain ⟨j, hj, rfl, C12, D12, k12⟩ := hrel
  by_cases hlt : j < 2
  · obtain ⟨p, hp, hoff⟩ : ∃ p, wr.cell? ⟨d, j, none⟩ = some (.pointer p) ∧ Off wr p := by
      match j, hlt with
      | 0, _ => exact ⟨none, D12.out.cell 0, Or.inl rfl⟩
      | 1, _ => exact ⟨_, D12.out.cell 1, Or.inr ⟨c, rfl, C12.out.cell 0⟩⟩
    have OF := Lib.hid hoff
    have d9 : decide ((j : Int) < 2) = true := decide_eq_true (by omega)
    have d9b : (j : Int) < 2 := by omega
    clear hoff
    go_wp2_with fail
    refine (bytes_off p 1 [] wr OF.out).mono ?_
    rintro e w12 ⟨rfl, rfl⟩
    go_wp2_with fail
    refine (reseed_off p [115, 105, 120, 116, 101, 101, 110, 32, 98, 121, 116, 101, 115, 32, 111, 114] wr OF.out).mono ?_
    rintro e w12 ⟨rfl, rfl⟩
    go_wp2_with fail
    refine (left_off p wr OF.out).mono ?_
    rintro e w12 ⟨rfl, rfl⟩
    go_wp2
    go_roundw
    case rel => exact ⟨j + 1, by omega, by go_num, C12, D12, k12⟩
    case measure => simp [intOf]; omega
  obtain rfl : j = 2 := by omega
  clear C12 D12
  go_wp2_with fail
  refine (dawake_any _).mono ?_
  rintro e w13 ⟨rfl, k13⟩
  have k13 := k12.trans (k13.mono k12.size)
  go_wp2
  exact bodyPost_ret (results_tmp rfl _ _ _) rfl ⟨rfl, k13⟩
theorem drbgEnds_any (n : Int) (w : World) : Calls Try.prog 16 #[.int .i64 n] w fun e w' => e = .returned (.bool true) ∧ Below w.heap.size w w' := by
  have hl := stir_length (key0, val0) [115, 105, 120, 116, 101, 101, 110, 32, 98, 121, 116, 101, 115, 32, 111, 114]
  have h4 := stir_length (spin (stir (key0, val0) [115, 105, 120, 116, 101, 101, 110, 32, 98, 121, 116, 101, 115, 32, 111, 114]) 1000) [115, 105, 120, 116, 101, 101, 110, 32, 98, 121, 116, 101, 115, 32, 111, 114]
  by_cases h0 : n < 0
  · exact ends_lo n h0 _ _ _ _ w rfl hl rfl h4
  · by_cases h1 : n > 8192
    · exact ends_hi n h0 h1 _ _ _ _ w rfl hl rfl h4
    · exact ends_mid n h0 h1 _ _ _ _ w rfl hl rfl h4
end Go.Proofs.Yticegglphmgoaaa.Sha
