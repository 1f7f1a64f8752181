/- The mixing of a block in the program is that of the plain function. Conditions: eight words below 2^32, sixty-four bytes. -/
import Derived.Test.YtphfjhpgcdmonaaGreatDoorShaC
import Derived.Test.YtphfjhpgcdmonaaGreatDoorAny
import Derived.Laws.CopyOwn
import Derived.Deep.DeepCutAuto
import Derived.Deep.CutBlock
namespace Go.Proofs.YtphfjhpgcdmonaaGreatDoor.Sha
open Go.RowKit
open Blk (nats)
theorem ks_length : ks.length = 64 := rfl
theorem sched_length (b : List Nat) : (sched b).length = 64 := schB_length b 48
/-- What is known in region 1 of mixed, whatever has come up. -/
structure Inv1 (B : Nat) (w0 : World) (b : List Nat) (σ : Nat → Option Value) (w : World) : Prop where
  below : Below w0.heap.size w0 w
  r0 : ∀ v, σ 0 = some v → v = .agg (nats .u32 ks).toArray
  r1 : ∀ v, σ 1 = some v → v = .agg (nats .u8 b).toArray
  r2 : ∀ v, σ 2 = some v → v = .agg (nats .u32 (sched b)).toArray
  r3 : ∀ v, σ 3 = some v → ∃ g, v = .pointer (some ⟨g, 0, none⟩) ∧ B ≤ g ∧ Blk.Is w g (nats .u32 (List.replicate 64 0)) 407
  r4 : ∀ v, σ 4 = some v → ∃ g, v = .pointer (some ⟨g, 0, none⟩) ∧ B ≤ g ∧ Blk.Is w g (nats .u32 (List.replicate 64 0)) 407
  ne : ∀ g h, σ 3 = some (.pointer (some ⟨g, 0, none⟩)) → σ 4 = some (.pointer (some ⟨h, 0, none⟩)) → g ≠ h
/-- A world that keeps what was there keeps what is known; a value comes up that tells nothing of memory. -/
theorem Inv1.plain {B : Nat} {w0 : World} {b : List Nat} {σ : Nat → Option Value} {w w' : World} (h : Inv1 B w0 b σ w) (hb : Below w.heap.size w w') (i : Nat) (v : Value) (hi : i < 3)
    (h0 : i = 0 → v = .agg (nats .u32 ks).toArray) (h1 : i = 1 → v = .agg (nats .u8 b).toArray) (h2 : i = 2 → v = .agg (nats .u32 (sched b)).toArray) : Inv1 B w0 b (Any.upd σ i v) w' where
  below := h.below.trans (hb.mono h.below.size)
  r0 := fun u hu => by
    by_cases e : i = 0
    · subst e; rw [Any.upd_same] at hu; exact Option.some.inj hu ▸ h0 rfl
    · rw [Any.upd_other σ v (fun x => e x.symm)] at hu; exact h.r0 u hu
  r1 := fun u hu => by
    by_cases e : i = 1
    · subst e; rw [Any.upd_same] at hu; exact Option.some.inj hu ▸ h1 rfl
    · rw [Any.upd_other σ v (fun x => e x.symm)] at hu; exact h.r1 u hu
  r2 := fun u hu => by
    by_cases e : i = 2
    · subst e; rw [Any.upd_same] at hu; exact Option.some.inj hu ▸ h2 rfl
    · rw [Any.upd_other σ v (fun x => e x.symm)] at hu; exact h.r2 u hu
  r3 := fun u hu => by
    rw [Any.upd_other σ v (by omega)] at hu
    obtain ⟨g, h1, h2, h3⟩ := h.r3 u hu
    exact ⟨g, h1, h2, h3.below hb⟩
  r4 := fun u hu => by
    rw [Any.upd_other σ v (by omega)] at hu
    obtain ⟨g, h1, h2, h3⟩ := h.r4 u hu
    exact ⟨g, h1, h2, h3.below hb⟩
  ne := fun g k h1 h2 => by
    rw [Any.upd_other σ v (by omega)] at h1 h2
    exact h.ne g k h1 h2
/-- A new block comes up. -/
theorem Inv1.made {B : Nat} {w0 : World} {b : List Nat} {σ : Nat → Option Value} {w : World} (h : Inv1 B w0 b σ w) (hB : B ≤ w0.heap.size) (i : Nat) (hi : i = 3 ∨ i = 4) :
    Inv1 B w0 b (Any.upd σ i (.pointer (some ⟨w.heap.size, 0, none⟩))) (w.alloc (.cells (nats .u32 (List.replicate 64 0)).toArray 407)) where
  below := h.below.alloc h.below.size _
  r0 := fun u hu => by rw [Any.upd_other σ _ (by omega)] at hu; exact h.r0 u hu
  r1 := fun u hu => by rw [Any.upd_other σ _ (by omega)] at hu; exact h.r1 u hu
  r2 := fun u hu => by rw [Any.upd_other σ _ (by omega)] at hu; exact h.r2 u hu
  r3 := fun u hu => by
    by_cases e : i = 3
    · subst e
      rw [Any.upd_same] at hu
      exact ⟨_, (Option.some.inj hu).symm, Nat.le_trans hB h.below.size, Blk.new w _ _⟩
    · rw [Any.upd_other σ _ (fun x => e x.symm)] at hu
      obtain ⟨g, h1, h2, h3⟩ := h.r3 u hu
      exact ⟨g, h1, h2, h3.alloc _⟩
  r4 := fun u hu => by
    by_cases e : i = 4
    · subst e
      rw [Any.upd_same] at hu
      exact ⟨_, (Option.some.inj hu).symm, Nat.le_trans hB h.below.size, Blk.new w _ _⟩
    · rw [Any.upd_other σ _ (fun x => e x.symm)] at hu
      obtain ⟨g, h1, h2, h3⟩ := h.r4 u hu
      exact ⟨g, h1, h2, h3.alloc _⟩
  ne := fun g k h1 h2 => by
    rcases hi with rfl | rfl
    · rw [Any.upd_same] at h1
      rw [Any.upd_other σ _ (by omega)] at h2
      obtain ⟨g', e1, _, h3⟩ := h.r4 _ h2
      injection e1 with e1; injection e1 with e1; injection e1 with e1
      have := h3.lt
      injection h1 with h1; injection h1 with h1; injection h1 with h1; injection h1 with h1
      omega
    · rw [Any.upd_same] at h2
      rw [Any.upd_other σ _ (by omega)] at h1
      obtain ⟨g', e1, _, h3⟩ := h.r3 _ h1
      injection e1 with e1; injection e1 with e1; injection e1 with e1
      have := h3.lt
      injection h2 with h2; injection h2 with h2; injection h2 with h2; injection h2 with h2
      omega
theorem round_at (w : List Nat) (x0 x1 x2 x3 x4 x5 x6 x7 t : Nat) : round w [x0, x1, x2, x3, x4, x5, x6, x7] t =
    [((x7 + (rotr x4 6 ^^^ rotr x4 11 ^^^ rotr x4 25) + (x6 ^^^ (x4 &&& (x5 ^^^ x6))) + ks.getD t 0 + w.getD t 0) % 4294967296 + ((rotr x0 2 ^^^ rotr x0 13 ^^^ rotr x0 22) + ((x0 &&& x1) ||| (x2 &&& (x0 ||| x1)))) % 4294967296) % 4294967296, x0, x1, x2,
     (x3 + (x7 + (rotr x4 6 ^^^ rotr x4 11 ^^^ rotr x4 25) + (x6 ^^^ (x4 &&& (x5 ^^^ x6))) + ks.getD t 0 + w.getD t 0) % 4294967296) % 4294967296, x4, x5, x6] := rfl
theorem rounds_lt (w v : List Nat) (hv : v.length = 8) (hV : ∀ i, at_ v i < 4294967296) (k : Nat) : ∃ x0 x1 x2 x3 x4 x5 x6 x7, rounds w v k = [x0, x1, x2, x3, x4, x5, x6, x7] ∧
    x0 < 4294967296 ∧ x1 < 4294967296 ∧ x2 < 4294967296 ∧ x3 < 4294967296 ∧ x4 < 4294967296 ∧ x5 < 4294967296 ∧ x6 < 4294967296 ∧ x7 < 4294967296 := by
  induction k with
  | zero =>
    match v, hv with
    | [x0, x1, x2, x3, x4, x5, x6, x7], _ => exact ⟨x0, x1, x2, x3, x4, x5, x6, x7, rfl, hV 0, hV 1, hV 2, hV 3, hV 4, hV 5, hV 6, hV 7⟩
  | succ k ih =>
    obtain ⟨x0, x1, x2, x3, x4, x5, x6, x7, hx, l0, l1, l2, l3, l4, l5, l6, l7⟩ := ih
    have hr : rounds w v (k + 1) = round w (rounds w v k) k := rfl
    rw [hr, hx, round_at]
    exact ⟨_, _, _, _, _, _, _, _, rfl, Nat.mod_lt _ (by decide), l0, l1, l2, Nat.mod_lt _ (by decide), l4, l5, l6⟩
theorem ks_lt (k : Nat) : ks.getD k 0 < 4294967296 := by
  have h : ∀ x ∈ ks, x < 4294967296 := by decide
  rw [List.getD_eq_getElem?_getD]
  cases hq : ks[k]? with
  | none => simp
  | some x => exact h x (List.mem_of_getElem? hq)
theorem choiceE {x4 x5 x6 : Nat} (l4 : x4 < 4294967296) (l5 : x5 < 4294967296) (l6 : x6 < 4294967296) : bits .xor .u32 (x6 : Int) (bits .and .u32 (x4 : Int) (bits .xor .u32 (x5 : Int) (x6 : Int))) = ((x6 ^^^ (x4 &&& (x5 ^^^ x6)) : Nat) : Int) := by
  rw [xor32 _ _ l5 l6, and32 _ _ l4 (Nat.xor_lt_two_pow (n := 32) l5 l6), xor32 _ _ l6 (Nat.lt_of_le_of_lt Nat.and_le_left l4)]
theorem majorE {x0 x1 x2 : Nat} (l0 : x0 < 4294967296) (l1 : x1 < 4294967296) (l2 : x2 < 4294967296) : bits .or .u32 (bits .and .u32 (x0 : Int) (x1 : Int)) (bits .and .u32 (x2 : Int) (bits .or .u32 (x0 : Int) (x1 : Int))) = (((x0 &&& x1) ||| (x2 &&& (x0 ||| x1)) : Nat) : Int) := by
  rw [and32 _ _ l0 l1, or32 _ _ l0 l1, and32 _ _ l2 (Nat.or_lt_two_pow (n := 32) l0 l1), or32 _ _ (Nat.lt_of_le_of_lt Nat.and_le_left l0) (Nat.lt_of_le_of_lt Nat.and_le_left l2)]
theorem rot3E (a n m k : Nat) : bits .xor .u32 (bits .xor .u32 ((rotr a n : Nat) : Int) ((rotr a m : Nat) : Int)) ((rotr a k : Nat) : Int) = ((rotr a n ^^^ rotr a m ^^^ rotr a k : Nat) : Int) := by
  rw [xor32 _ _ (rotr_lt _ _) (rotr_lt _ _), xor32 _ _ (Nat.xor_lt_two_pow (n := 32) (rotr_lt _ _) (rotr_lt _ _)) (rotr_lt _ _)]
theorem nats_each (k : IntKind) (l : List Nat) : ∀ v ∈ nats k l, v.oneCell' = true := by
  intro v hv
  obtain ⟨n, _, rfl⟩ := List.mem_map.1 hv
  rfl
theorem zero_add (g j : Nat) : (⟨g, 0, none⟩ : Addr).add j = ⟨g, j, none⟩ := by by_cases h : j = 0 <;> simp [Addr.add, h]
/-- The first words of the second row are added, so many. -/
def plus (r v : List Nat) : Nat → List Nat
  | 0 => r
  | j + 1 => (plus r v j).set j (((plus r v j).getD j 0 + v.getD j 0) % 4294967296)
theorem plus_length (r v : List Nat) (j : Nat) : (plus r v j).length = r.length := by
  induction j with
  | zero => rfl
  | succ j ih => simp [plus, ih]
theorem plus_zero (r v : List Nat) : plus r v 0 = r := rfl
theorem plus_succ (r v : List Nat) (j : Nat) : plus r v (j + 1) = (plus r v j).set j (((plus r v j).getD j 0 + v.getD j 0) % 4294967296) := rfl
theorem plus_all (r v : List Nat) (hr : r.length = 8) (hv : v.length = 8) : plus r v 8 = List.zipWith (fun x y => (x + y) % 4294967296) r v := by
  match r, hr, v, hv with
  | [x0, x1, x2, x3, x4, x5, x6, x7], _, [y0, y1, y2, y3, y4, y5, y6, y7], _ => rfl
theorem rounds_length (w v : List Nat) (hv : v.length = 8) (k : Nat) : (rounds w v k).length = 8 := by
  cases k with
  | zero => exact hv
  | succ k => rfl
theorem mixed_plus (v b : List Nat) (hv : v.length = 8) : plus (rounds (sched b) v 64) v 8 = mixed v b := plus_all _ _ (rounds_length _ _ hv _) hv
theorem rounds_zero (w v : List Nat) : rounds w v 0 = v := rfl
theorem rounds_succ (w v : List Nat) (k : Nat) : rounds w v (k + 1) = round w (rounds w v k) k := rfl
theorem sched_lt (b : List Nat) (hB : ∀ i, at_ b i < 256) (k : Nat) : (sched b).getD k 0 < 4294967296 := schB_lt b hB 48 k
attribute [local irreducible] sched ks rounds round plus mixed
set_option maxHeartbeats 4000000 in
set_option maxRecDepth 100000 in
theorem mixed_any (v b : List Nat) (w : World) (hv : v.length = 8) (hb : b.length = 64) (hV : ∀ i, at_ v i < 4294967296) (hB : ∀ i, at_ b i < 256) :
    Calls Tryz.prog 247 #[.agg (nats .u32 v).toArray, .agg (nats .u8 b).toArray] w fun e w' => e = .returned (.agg (nats .u32 (mixed v b)).toArray) ∧ Below w.heap.size w w' := by
  have HB := Lib.hid hB
  have HL := Lib.hid hb
  have HV := Lib.hid hV
  have HLv := Lib.hid hv
  clear hB hb hV hv
  obtain ⟨w0, hw0⟩ : ∃ W, W = ((w.alloc (.cells (nats .u32 v).toArray 381)).alloc (.cells (nats .u8 b).toArray 383)).alloc (.cells (nats .u32 (List.replicate 8 0)).toArray 381) := ⟨_, rfl⟩
  have b0 : Blk.Is w0 w.heap.size (nats .u32 v) 381 := by rw [hw0]; exact ((Blk.new w _ _).alloc _).alloc _
  have b1 : Blk.Is w0 (w.heap.size + 1) (nats .u8 b) 383 := by rw [hw0]; exact (Blk.new' _ _ _ _ (by simp)).alloc _
  have b2 : Blk.Is w0 (w.heap.size + 1 + 1) (nats .u32 (List.replicate 8 0)) 381 := by rw [hw0]; exact Blk.new' _ _ _ _ (by simp)
  have k0 : Below w.heap.size w w0 := by rw [hw0]; exact (((Below.refl _ _).alloc (Nat.le_refl _) _).alloc (by simp) _).alloc (by simp; omega) _
  have s0 : w.heap.size + 1 + 1 + 1 = w0.heap.size := by rw [hw0]; simp
  have HW := Lib.hid hw0
  have S0 := Lib.hid s0
  have B0 := Lib.hid b0
  have B1 := Lib.hid b1
  have B2 := Lib.hid b2
  clear hw0 s0 b0 b1 b2
  go_enter Tryz.func247, Tryz.ntmps247
  go_wp2
  have e8 : (nats .u32 (List.replicate 8 0)).toArray = #[.int .u32 0, .int .u32 0, .int .u32 0, .int .u32 0, .int .u32 0, .int .u32 0, .int .u32 0, .int .u32 0] := rfl
  have hw1 := HW.out
  rw [e8] at hw1
  rw [← hw1]
  clear hw1 e8
  refine Any.region_any 5 (by kernel_rfl) (by kernel_rfl) (Inv1 (w.heap.size + 3) w0.drew b) ⟨Below.refl _ _, by simp, by simp, by simp, by simp, by simp, by simp⟩ ?step ?last
  case step =>
    intro i o σ w1 hi ho hs hdep hI
    rcases (show i = 0 ∨ i = 1 ∨ i = 2 ∨ i = 3 ∨ i = 4 by omega) with rfl | rfl | rfl | rfl | rfl
    · obtain rfl := Option.some.inj ho
      refine Any.call_wp Tryz.func270 (by kernel_rfl) rfl #[] rfl (by simp) ?_
      refine (ks_any w1).mono ?_
      rintro e w2 ⟨rfl, hb⟩
      exact ⟨_, rfl, _, rfl, hI.plain hb 0 _ (by omega) (fun _ => rfl) (by omega) (by omega)⟩
    · obtain rfl := Option.some.inj ho
      have b1 := Blk.Is.below (w := w0.drew) B1.out hI.below
      refine wp_load_row 383 (.tmp 3) rfl (w.heap.size + 1) ?_ 383 (nats .u8 b).toArray (0, 0) _ b1 Tryz.underlying383 rfl ?_ ⟨_, rfl, hI.plain (Below.refl _ _) 1 _ (by omega) (by omega) (fun _ => rfl) (by omega)⟩
      · exact Any.puts_off σ _ (by kernel_rfl)
      · simp only [List.size_toArray, Blk.nats_length, HL.out]; kernel_rfl
    · obtain rfl := Option.some.inj ho
      have h1 : (σ 1).isSome = true := hdep ⟨1, .data⟩ (by simp) (by kernel_rfl)
      obtain ⟨v1, hv1⟩ := Option.isSome_iff_exists.1 h1
      obtain rfl := hI.r1 v1 hv1
      refine Any.call_wp Tryz.func271 (by kernel_rfl) rfl #[.agg (nats .u8 b).toArray] rfl ?_ ?_
      · simp only [List.map_toArray, List.map_cons, List.map_nil]
        rw [Any.puts_at hv1 rfl rfl _ (by simp) (by decide) (by kernel_rfl)]
      refine (sched_any b w1 HL.out HB.out).mono ?_
      rintro e w2 ⟨rfl, hb⟩
      exact ⟨_, rfl, _, rfl, hI.plain hb 2 _ (by omega) (by omega) (by omega) (fun _ => rfl)⟩
    · obtain rfl := Option.some.inj ho
      refine Any.value_wp (v := .pointer (some ⟨w1.heap.size, 0, none⟩)) (w1 := w1.alloc (.cells (nats .u32 (List.replicate 64 0)).toArray 407)) ?_ ⟨_, rfl, hI.made (by have := S0.out; show _ ≤ w0.heap.size; omega) 3 (by omega)⟩
      go_simp
      rfl
    · obtain rfl := Option.some.inj ho
      refine Any.value_wp (v := .pointer (some ⟨w1.heap.size, 0, none⟩)) (w1 := w1.alloc (.cells (nats .u32 (List.replicate 64 0)).toArray 407)) ?_ ⟨_, rfl, hI.made (by have := S0.out; show _ ≤ w0.heap.size; omega) 4 (by omega)⟩
      go_simp
      rfl
  case last =>
    intro σ w1 hall hI
    obtain ⟨v0, h0⟩ := Option.isSome_iff_exists.1 (hall 0 (by decide))
    obtain ⟨v1, h1⟩ := Option.isSome_iff_exists.1 (hall 1 (by decide))
    obtain ⟨v2, h2⟩ := Option.isSome_iff_exists.1 (hall 2 (by decide))
    obtain ⟨v3, h3⟩ := Option.isSome_iff_exists.1 (hall 3 (by decide))
    obtain ⟨v4, h4⟩ := Option.isSome_iff_exists.1 (hall 4 (by decide))
    obtain rfl := hI.r0 v0 h0
    obtain rfl := hI.r1 v1 h1
    obtain rfl := hI.r2 v2 h2
    obtain ⟨g5, rfl, hg5, i5⟩ := hI.r3 v3 h3
    obtain ⟨g6, rfl, hg6, i6⟩ := hI.r4 v4 h4
    have hne := hI.ne g5 g6 h3 h4
    have kk := hI.below
    clear hI hall
    simp only [Any.puts, h0, h1, h2, h3, h4, List.getElem?_toArray, List.getElem?_cons_zero, List.getElem?_cons_succ, Act.put, List.setIfInBounds_toArray, List.set_cons_zero, List.set_cons_succ, List.drop_succ_cons, List.drop_zero]
    clear h0 h1 h2 h3 h4
    have b0 := Blk.Is.below (w := w0.drew) B0.out kk
    have b1 := Blk.Is.below (w := w0.drew) B1.out kk
    have b2 := Blk.Is.below (w := w0.drew) B2.out kk
    have k1 := k0.drew.trans (kk.mono k0.size)
    clear kk k0 B0 B1 B2 HW
    refine Blk.store_row 407 (.tmp 5) (.tmp 14) rfl rfl g5 0 (nats .u32 ks) rfl rfl i5 (by rw [Blk.nats_length, Blk.nats_length, ks_length]; decide) (by rw [Blk.nats_length, ks_length]; kernel_rfl) (Blk.nats_one _ _) ?_
    refine Blk.store_row 407 (.tmp 6) (.tmp 16) rfl rfl g6 0 (nats .u32 (sched b)) rfl rfl (Blk.Is.setCellsOther (nats .u32 ks) i6 (fun e => hne e.symm) 0) (by rw [Blk.nats_length, Blk.nats_length, sched_length]; decide) (by rw [Blk.nats_length, sched_length]; kernel_rfl) (Blk.nats_one _ _) ?_
    have c5 : Blk.Is ((w1.setCells g5 0 (nats .u32 ks)).setCells g6 0 (nats .u32 (sched b))) g5 (nats .u32 ks) 407 := by
      refine Blk.Is.setCellsOther _ ?_ hne 0
      have := Blk.Is.setCells (nats .u32 ks) i5 0 (by rw [Blk.nats_length, Blk.nats_length, ks_length]; decide)
      rwa [Blk.put_all _ _ (by rw [Blk.nats_length, Blk.nats_length, ks_length]; rfl)] at this
    have c6 : Blk.Is ((w1.setCells g5 0 (nats .u32 ks)).setCells g6 0 (nats .u32 (sched b))) g6 (nats .u32 (sched b)) 407 := by
      have := Blk.Is.setCells (nats .u32 (sched b)) (Blk.Is.setCellsOther (nats .u32 ks) i6 (fun e => hne e.symm) 0) 0 (by rw [Blk.nats_length, Blk.nats_length, sched_length]; decide)
      rwa [Blk.put_all _ _ (by rw [Blk.nats_length, Blk.nats_length, sched_length]; rfl)] at this
    have c0 := Blk.Is.setCellsOther (nats .u32 (sched b)) (Blk.Is.setCellsOther (nats .u32 ks) b0 (show w.heap.size ≠ g5 by omega) 0) (show w.heap.size ≠ g6 by omega) 0
    have c2 := Blk.Is.setCellsOther (nats .u32 (sched b)) (Blk.Is.setCellsOther (nats .u32 ks) b2 (show w.heap.size + 1 + 1 ≠ g5 by omega) 0) (show w.heap.size + 1 + 1 ≠ g6 by omega) 0
    have kc := Blk.below_setCells (nats .u32 (sched b)) (Blk.below_setCells (nats .u32 ks) k1 (show w.heap.size ≤ g5 by omega) 0) (show w.heap.size ≤ g6 by omega) 0
    generalize (w1.setCells g5 0 (nats .u32 ks)).setCells g6 0 (nats .u32 (sched b)) = w2 at c5 c6 c0 c2 kc ⊢
    clear b0 b1 b2 k1 i5 i6 hne
    refine wpList_nil ?_
    have hl5 := c5.lt
    have hl6 := c6.lt
    have hsz : w.heap.size + 2 < w2.heap.size := by omega
    have n7 := Blk.new' w2 (nats .u32 (List.replicate 8 0)) 381 _ rfl
    have N7 := Lib.hid n7
    clear n7
    go_upto_region 3 with (first | (refine Blk.load_row 381 (.tmp 2) rfl (by rfl) w.heap.size rfl 381 (nats .u32 v) _ c0 Tryz.underlying381 rfl (by rw [Blk.nats_length, HLv.out]; kernel_rfl) ?_) | (refine Blk.store_row 381 (.tmp 7) (.tmp 17) rfl rfl w2.heap.size 0 (nats .u32 v) rfl rfl N7.out (by rw [Blk.nats_length, Blk.nats_length, HLv.out]; decide) (by rw [Blk.nats_length, HLv.out]; kernel_rfl) (Blk.nats_one _ _) ?_))
    (try simp only [Act.put])
    have c7 := Blk.Is.setCells (nats .u32 v) N7.out 0 (by rw [Blk.nats_length, Blk.nats_length, HLv.out]; decide)
    rw [Blk.put_all _ _ (by rw [Blk.nats_length, Blk.nats_length, HLv.out]; rfl)] at c7
    have d5 := Blk.Is.setCellsOther (nats .u32 v) (c5.alloc (.cells (nats .u32 (List.replicate 8 0)).toArray 381)) (show g5 ≠ w2.heap.size by omega) 0
    have d6 := Blk.Is.setCellsOther (nats .u32 v) (c6.alloc (.cells (nats .u32 (List.replicate 8 0)).toArray 381)) (show g6 ≠ w2.heap.size by omega) 0
    have d0 := Blk.Is.setCellsOther (nats .u32 v) (c0.alloc (.cells (nats .u32 (List.replicate 8 0)).toArray 381)) (show w.heap.size ≠ w2.heap.size by omega) 0
    have d2 := Blk.Is.setCellsOther (nats .u32 v) (c2.alloc (.cells (nats .u32 (List.replicate 8 0)).toArray 381)) (show w.heap.size + 1 + 1 ≠ w2.heap.size by omega) 0
    have kd := Blk.below_setCells (nats .u32 v) (kc.alloc kc.size (.cells (nats .u32 (List.replicate 8 0)).toArray 381)) (show w.heap.size ≤ w2.heap.size by omega) 0
    have e8 : (nats .u32 (List.replicate 8 0)).toArray = #[.int .u32 0, .int .u32 0, .int .u32 0, .int .u32 0, .int .u32 0, .int .u32 0, .int .u32 0, .int .u32 0] := rfl
    rw [e8] at c7 d5 d6 d0 d2 kd
    clear N7 c0 c2 c5 c6 kc e8
    obtain ⟨g7, hg7⟩ : ∃ g, g = w2.heap.size := ⟨_, rfl⟩
    rw [← hg7] at c7 d5 d6 d0 d2 kd hl5 hl6 hsz ⊢
    generalize (w2.alloc (.cells #[.int .u32 0, .int .u32 0, .int .u32 0, .int .u32 0, .int .u32 0, .int .u32 0, .int .u32 0, .int .u32 0] 381)).setCells g7 0 (nats .u32 v) = w3 at c7 d5 d6 d0 d2 kd ⊢
    clear hg7
    clear S0 hg5 hg6
    go_wp2
    go_loopw [18] (fun i wr => ∃ k : Nat, k ≤ 64 ∧ i = .int .i64 k ∧ Blk.Is wr g5 (nats .u32 ks) 407 ∧ Blk.Is wr g6 (nats .u32 (sched b)) 407 ∧ Blk.Is wr w.heap.size (nats .u32 v) 381 ∧ Blk.Is wr (w.heap.size + 1 + 1) (nats .u32 (List.replicate 8 0)) 381 ∧ Blk.Is wr g7 (nats .u32 (rounds (sched b) v k)) 381 ∧ Below w.heap.size w wr)
      (fun i _ => 64 - (intOf i).toNat)
    case atStart => exact ⟨0, by omega, rfl, d5, d6, d0, d2, by rw [rounds_zero]; exact c7, kd⟩
    case round =>
      clear d5 d6 d0 d2 c7 kd
      obtain ⟨k, hk, rfl, c5, c6, c0, c2, c7, k0⟩ := hrel
      by_cases hlt : k < 64
      · have hX := rounds_lt (sched b) v HLv.out HV.out k
        obtain ⟨x0, x1, x2, x3, x4, x5, x6, x7, hx, l0, l1, l2, l3, l4, l5, l6, l7⟩ := hX
        have hr : rounds (sched b) v (k + 1) = round (sched b) (rounds (sched b) v k) k := rounds_succ _ _ k
        rw [hx] at hr c7
        have HR := Lib.hid hr
        clear hr hx
        have c50 := c5.nat k (by rw [ks_length]; omega)
        have c60 := c6.nat k (by rw [sched_length]; omega)
        generalize hkk : ks.getD k 0 = kk at c50
        generalize hww : (sched b).getD k 0 = ww at c60
        have lkk : kk < 4294967296 := by rw [← hkk]; exact ks_lt k
        have lww : ww < 4294967296 := by rw [← hww]; exact sched_lt b HB.out k
        have HKK := Lib.hid hkk
        have HWW := Lib.hid hww
        clear hkk hww
        have a0 : wr.cell? ⟨g7, 0, none⟩ = some (.int .u32 (x0 : Int)) := c7.cell 0
        have a1 : wr.cell? ⟨g7, 1, none⟩ = some (.int .u32 (x1 : Int)) := c7.cell 1
        have a2 : wr.cell? ⟨g7, 2, none⟩ = some (.int .u32 (x2 : Int)) := c7.cell 2
        have a3 : wr.cell? ⟨g7, 3, none⟩ = some (.int .u32 (x3 : Int)) := c7.cell 3
        have a4 : wr.cell? ⟨g7, 4, none⟩ = some (.int .u32 (x4 : Int)) := c7.cell 4
        have a5 : wr.cell? ⟨g7, 5, none⟩ = some (.int .u32 (x5 : Int)) := c7.cell 5
        have a6 : wr.cell? ⟨g7, 6, none⟩ = some (.int .u32 (x6 : Int)) := c7.cell 6
        have a7 : wr.cell? ⟨g7, 7, none⟩ = some (.int .u32 (x7 : Int)) := c7.cell 7
        have C5 := Lib.hid c5
        have C6 := Lib.hid c6
        have C0 := Lib.hid c0
        have C2 := Lib.hid c2
        have C7 := Lib.hid c7
        clear c5 c6 c0 c2 c7
        go_wp2
        rw [choiceE l4 l5 l6, majorE l0 l1 l2]
        have lch : (x6 ^^^ (x4 &&& (x5 ^^^ x6))) < 4294967296 := Nat.xor_lt_two_pow (n := 32) l6 (Nat.lt_of_le_of_lt Nat.and_le_left l4)
        have lmj : ((x0 &&& x1) ||| (x2 &&& (x0 ||| x1))) < 4294967296 := Nat.or_lt_two_pow (n := 32) (Nat.lt_of_le_of_lt Nat.and_le_left l0) (Nat.lt_of_le_of_lt Nat.and_le_left l2)
        generalize hch : (x6 ^^^ (x4 &&& (x5 ^^^ x6))) = ch at lch ⊢
        generalize hmj : ((x0 &&& x1) ||| (x2 &&& (x0 ||| x1))) = mj at lmj ⊢
        have HCH := Lib.hid hch
        have HMJ := Lib.hid hmj
        clear hch hmj
        have q4 := Cls.Wd.cell (w0 := wr.drew) a4
        have q7 := Cls.Wd.cell (w0 := wr.drew) a7
        have q50 := Cls.Wd.cell (w0 := wr.drew) c50
        have q60 := Cls.Wd.cell (w0 := wr.drew) c60
        clear a0 a1 a2 a3 a4 a5 a6 a7 c50 c60
        refine Cls.region_cls (S := Cls.Kept _) (by kernel_rfl) (by kernel_rfl) (Below.refl _ _) ?_
        repeat (go_big_quiet_step (first | (go_at_call 272; with_reducible refine Cls.calls_same (turned_any x4 6 _ l4 (by decide) (by decide))) | (go_at_call 272; with_reducible refine Cls.calls_same (turned_any x4 11 _ l4 (by decide) (by decide))) | (go_at_call 272; with_reducible refine Cls.calls_same (turned_any x4 25 _ l4 (by decide) (by decide)))))
        refine wpQuiet_nil ?_
        intro w4 hw4
        clear q4 q7 q50 q60
        have c5 := Blk.Is.below (w := wr.drew) C5.out hw4
        have c6 := Blk.Is.below (w := wr.drew) C6.out hw4
        have c0 := Blk.Is.below (w := wr.drew) C0.out hw4
        have c2 := Blk.Is.below (w := wr.drew) C2.out hw4
        have c7 := Blk.Is.below (w := wr.drew) C7.out hw4
        have k1 := k0.drew.trans (hw4.mono k0.size)
        clear C5 C6 C0 C2 C7 k0 hw4
        have a0 : w4.cell? ⟨g7, 0, none⟩ = some (.int .u32 (x0 : Int)) := c7.cell 0
        have q0 := Cls.Wd.cell (w0 := w4.drew) a0
        have C5 := Lib.hid c5
        have C6 := Lib.hid c6
        have C0 := Lib.hid c0
        have C2 := Lib.hid c2
        have C7 := Lib.hid c7
        clear a0 c5 c6 c0 c2 c7
        go_wp2
        refine Cls.region_cls (S := Cls.Kept _) (by kernel_rfl) (by kernel_rfl) (Below.refl _ _) ?_
        repeat (go_big_quiet_step (first | (go_at_call 272; with_reducible refine Cls.calls_same (turned_any x0 2 _ l0 (by decide) (by decide))) | (go_at_call 272; with_reducible refine Cls.calls_same (turned_any x0 13 _ l0 (by decide) (by decide))) | (go_at_call 272; with_reducible refine Cls.calls_same (turned_any x0 22 _ l0 (by decide) (by decide)))))
        refine wpQuiet_nil ?_
        intro w5 hw5
        clear q0
        have c5 := Blk.Is.below (w := w4.drew) C5.out hw5
        have c6 := Blk.Is.below (w := w4.drew) C6.out hw5
        have c0 := Blk.Is.below (w := w4.drew) C0.out hw5
        have c2 := Blk.Is.below (w := w4.drew) C2.out hw5
        have c7 := Blk.Is.below (w := w4.drew) C7.out hw5
        have k2 := k1.drew.trans (hw5.mono k1.size)
        clear C5 C6 C0 C2 C7 k1 hw5
        simp only [rot3E]
        go_wp2
        obtain ⟨one, hone⟩ : ∃ n : Nat, n = (x7 + (rotr x4 6 ^^^ rotr x4 11 ^^^ rotr x4 25) + ch + kk + ww) % 4294967296 := ⟨_, rfl⟩
        have eone : (((x7 : Int) + ((rotr x4 6 ^^^ rotr x4 11 ^^^ rotr x4 25 : Nat) : Int) + (ch : Int) + (kk : Int)) % 4294967296 + (ww : Int)) % 4294967296 = (one : Int) := by omega
        obtain ⟨two, htwo⟩ : ∃ n : Nat, n = ((rotr x0 2 ^^^ rotr x0 13 ^^^ rotr x0 22) + mj) % 4294967296 := ⟨_, rfl⟩
        have etwo : (((rotr x0 2 ^^^ rotr x0 13 ^^^ rotr x0 22 : Nat) : Int) + (mj : Int)) % 4294967296 = (two : Int) := by omega
        rw [eone, etwo]
        have lone : one < 4294967296 := by omega
        have ltwo : two < 4294967296 := by omega
        have HONE := Lib.hid hone
        have HTWO := Lib.hid htwo
        clear hone htwo eone etwo
        refine Cls.region_tail (S := Cls.Kept _) 2 (by kernel_rfl) (by kernel_rfl) (Below.refl _ _) ?_
        simp only [List.take_succ_cons, List.take_zero, List.drop_succ_cons, List.drop_zero]
        repeat (go_big_quiet_step (fail))
        refine wpQuiet_nil ?_
        intro w6 hw6
        have c5 := Blk.Is.below (w := w5.drew) c5.drew hw6
        have c6 := Blk.Is.below (w := w5.drew) c6.drew hw6
        have c0 := Blk.Is.below (w := w5.drew) c0.drew hw6
        have c2 := Blk.Is.below (w := w5.drew) c2.drew hw6
        have c7 := Blk.Is.below (w := w5.drew) c7.drew hw6
        have k3 := k2.drew.trans (hw6.mono k2.size)
        clear k2 hw6
        refine wpList_copy_splice rfl (.tmp 83) (.tmp 84) 411 411 rfl 309 rfl (by kernel_rfl) (some ⟨g7, 1, none⟩) (some ⟨g7, 0, none⟩) 7 7 7 8 rfl rfl g7 1 (nats .u32 [x0, x1, x2, x3, x4, x5, x6, x7]) 381 c7 (nats .u32 [x0, x1, x2, x3, x4, x5, x6]) rfl ?_ (show 1 + 7 ≤ 8 by decide) (nats_each _ _) g7 w6 (Below.refl _ _) (Nat.le_refl _) ?_
        · intro _
          refine ⟨rfl, _, rfl, ?_⟩
          intro j z hz
          have hj : j < 7 := by
            obtain ⟨h, _⟩ := List.getElem?_eq_some_iff.1 hz
            exact h
          rw [zero_add g7 j, c7.cell]
          rcases (show j = 0 ∨ j = 1 ∨ j = 2 ∨ j = 3 ∨ j = 4 ∨ j = 5 ∨ j = 6 by omega) with rfl | rfl | rfl | rfl | rfl | rfl | rfl <;> exact hz
        intro w7 h7 hw7
        have c7' : Blk.Is w7 g7 (nats .u32 [x0, x0, x1, x2, x3, x4, x5, x6]) 381 := h7.out
        have C7 := Lib.hid c7'
        have c5 := Blk.Is.keep c5 hw7 hl5
        have c6 := Blk.Is.keep c6 hw7 hl6
        have c0 := Blk.Is.keep c0 hw7 (by omega)
        have c2 := Blk.Is.keep c2 hw7 (by omega)
        have k4 := k3.trans (hw7.mono (by omega))
        clear k3 hw7 c7 c7' h7
        have a4 : w7.cell? ⟨g7, 4, none⟩ = some (.int .u32 (x3 : Int)) := C7.out.cell 4
        have a0 : w7.cell? ⟨g7, 0, none⟩ = some (.int .u32 (x0 : Int)) := C7.out.cell 0
        have f0 := C7.out.frozen 0
        have f4 := C7.out.frozen 4
        have C5 := Lib.hid c5
        have C6 := Lib.hid c6
        have C0 := Lib.hid c0
        have C2 := Lib.hid c2
        have hl7 : g7 < w7.heap.size := C7.out.lt
        clear c5 c6 c0 c2
        refine wpList_nil ?_
        go_wp2
        go_roundw
        case rel =>
          have e0 : (((one : Int) + (two : Int)) % 4294967296) = (((one + two) % 4294967296 : Nat) : Int) := by omega
          have e4 : (((x3 : Int) + (one : Int)) % 4294967296) = (((x3 + one) % 4294967296 : Nat) : Int) := by omega
          rw [e0, e4]
          have hr := HR.out
          rw [round_at, HCH.out, HMJ.out, HKK.out, HWW.out, ← HONE.out, ← HTWO.out] at hr
          have c7 := (C7.out.setNat 4 ((x3 + one) % 4294967296)).setNat 0 ((one + two) % 4294967296)
          refine ⟨k + 1, by omega, by go_num, (C5.out.other (show g5 ≠ g7 by omega) _).other (show g5 ≠ g7 by omega) _, (C6.out.other (show g6 ≠ g7 by omega) _).other (show g6 ≠ g7 by omega) _, (C0.out.other (show w.heap.size ≠ g7 by omega) _).other (show w.heap.size ≠ g7 by omega) _, (C2.out.other (show w.heap.size + 1 + 1 ≠ g7 by omega) _).other (show w.heap.size + 1 + 1 ≠ g7 by omega) _, ?_, (k4.setCell (show w.heap.size ≤ g7 by omega) _).setCell (show w.heap.size ≤ g7 by omega) _⟩
          rw [hr]
          exact c7
        case measure => simp [intOf]; omega
      · have hd : decide ((k : Int) < 64) = false := decide_eq_false (by omega)
        obtain rfl : k = 64 := by omega
        have hrl := rounds_length (sched b) v HLv.out 64
        have HM := Lib.hid (mixed_plus v b HLv.out)
        generalize rounds (sched b) v 64 = r at c7 hrl HM
        have HRL := Lib.hid hrl
        clear hrl
        rw [← plus_zero r v] at c7
        go_wp2
        go_loopw [96] (fun i wr => ∃ j : Nat, j ≤ 8 ∧ i = .int .i64 j ∧ Blk.Is wr w.heap.size (nats .u32 v) 381 ∧ Blk.Is wr (w.heap.size + 1 + 1) (nats .u32 (List.replicate 8 0)) 381 ∧ Blk.Is wr g7 (nats .u32 (plus r v j)) 381 ∧ Below w.heap.size w wr)
          (fun i _ => 8 - (intOf i).toNat)
        case atStart => exact ⟨0, by omega, rfl, c0, c2, c7, k0⟩
        case round =>
          clear c0 c2 c7 k0 c5 c6
          obtain ⟨j, hj, rfl, c0, c2, c7, k0⟩ := hrel
          by_cases hlt : j < 8
          · have hp := plus_length r v j
            have h0 := c0.nat j (by rw [HLv.out]; omega)
            have h7 := c7.nat j (by rw [hp, HRL.out]; omega)
            have f7 := c7.frozen j
            generalize hy : v.getD j 0 = y at h0
            generalize hz : (plus r v j).getD j 0 = z at h7
            have HS := plus_succ r v j
            rw [hy, hz] at HS
            have HS := Lib.hid HS
            have HP := Lib.hid hp
            have HY := Lib.hid hy
            have HZ := Lib.hid hz
            clear hp hy hz
            have C0 := Lib.hid c0
            have C2 := Lib.hid c2
            have C7 := Lib.hid c7
            have q0 := Cls.Wd.cell (w0 := wr.drew) h0
            have q7 := Cls.Wd.cell (w0 := wr.drew) h7
            clear c0 c2 c7 h0 h7
            go_wp2
            refine Cls.region_tail (S := Cls.Kept _) 7 (by kernel_rfl) (by kernel_rfl) (Below.refl _ _) ?_
            simp only [List.take_succ_cons, List.take_zero, List.drop_succ_cons, List.drop_zero]
            repeat (go_big_quiet_step (fail))
            refine wpQuiet_nil ?_
            intro w2 hw2
            have c0 := Blk.Is.below (w := wr.drew) C0.out hw2
            have c2 := Blk.Is.below (w := wr.drew) C2.out hw2
            have c7 := Blk.Is.below (w := wr.drew) C7.out hw2
            have k2 := k0.drew.trans (hw2.mono k0.size)
            have f2 := c7.frozen j
            have h7 : w2.cell? ⟨g7, j, none⟩ = some (.int .u32 (z : Int)) := by
              have := c7.nat j (by rw [HP.out, HRL.out]; omega)
              rwa [HZ.out] at this
            have C0 := Lib.hid c0
            have C2 := Lib.hid c2
            have C7 := Lib.hid c7
            clear c0 c2 c7 q0 q7 k0 hw2 f7
            go_wp2
            go_roundw
            case rel =>
              refine ⟨j + 1, by omega, by go_num, C0.out.other (show w.heap.size ≠ g7 by omega) _, C2.out.other (show w.heap.size + 1 + 1 ≠ g7 by omega) _, ?_, k2.setCell (show w.heap.size ≤ g7 by omega) _⟩
              rw [HS.out]
              have e : (((z : Int) + (y : Int)) % 4294967296) = (((z + y) % 4294967296 : Nat) : Int) := by omega
              rw [e]
              exact C7.out.setNat j _
            case measure => simp [intOf]; omega
          · have hj8 : j = 8 := by omega
            have c7 : Blk.Is wr g7 (nats .u32 (mixed v b)) 381 := by rw [← HM.out, ← hj8]; exact c7
            have hs : (mixed v b).length = 8 := by rw [← HM.out, plus_length, HRL.out]
            have HS := Lib.hid hs
            clear hj8 hs
            go_wp2_with (first | (refine Blk.load_row 381 (.tmp 7) rfl (by rfl) g7 rfl 381 (nats .u32 (mixed v b)) _ c7 Tryz.underlying381 rfl (by rw [Blk.nats_length, HS.out]; kernel_rfl) ?_) | (refine Blk.store_row 381 (.tmp 4) (.tmp 108) rfl rfl (w.heap.size + 1 + 1) 0 (nats .u32 (mixed v b)) rfl rfl c2 (by rw [Blk.nats_length, Blk.nats_length, HS.out]; decide) (by rw [Blk.nats_length, HS.out]; kernel_rfl) (Blk.nats_one _ _) ?_))
            have b3 := Blk.Is.setCells (nats .u32 (mixed v b)) c2 0 (by rw [Blk.nats_length, Blk.nats_length, HS.out]; decide)
            rw [Blk.put_all _ _ (by rw [Blk.nats_length, Blk.nats_length, HS.out]; rfl)] at b3
            refine bodyPost_ret (results_cell_row rfl _ _ (w.heap.size + 1 + 1) 381 _ (0, 0) _ rfl b3 Tryz.underlying381 rfl (by simp only [List.size_toArray, Blk.nats_length, HS.out]; kernel_rfl)) rfl ?_
            exact ⟨rfl, Blk.below_setCells _ k0 (by omega) _⟩
end Go.Proofs.YtphfjhpgcdmonaaGreatDoor.Sha
