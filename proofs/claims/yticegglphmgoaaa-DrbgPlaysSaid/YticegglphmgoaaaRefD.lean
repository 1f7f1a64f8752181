/- The document's mixing of a block, walked. Conditions: eight words below 2^32, sixty-four bytes. -/
import Derived.Test.YticegglphmgoaaaRefC
import Derived.Test.YticegglphmgoaaaPln
namespace Go.Proofs.Yticegglphmgoaaa.Sha
open Go.RowKit
open Blk (nats)
/-- What the walk of the document's mixing knows of the world. -/
structure RM (w : World) (g5 g6 g7 : Nat) (v b x : List Nat) (wr : World) : Prop where
  arg : Blk.Is wr w.heap.size (nats .i64 v) 79
  res : Blk.Is wr (w.heap.size + 1) (nats .i64 (List.replicate 8 0)) 79
  sch : Blk.Is wr g5 (nats .i64 (sched b)) 100
  con : Blk.Is wr g6 (nats .i64 ks) 100
  row : Blk.Is wr g7 (nats .i64 x) 79
  below : Below w.heap.size w wr
theorem RM.step {w : World} {g5 g6 g7 : Nat} {v b x : List Nat} {wr w' : World} (h : RM w g5 g6 g7 v b x wr) (hb : Below wr.heap.size wr w') : RM w g5 g6 g7 v b x w' :=
  ⟨h.arg.below hb, h.res.below hb, h.sch.below hb, h.con.below hb, h.row.below hb, h.below.trans (hb.mono h.below.size)⟩
theorem RM.drew {w : World} {g5 g6 g7 : Nat} {v b x : List Nat} {wr : World} (h : RM w g5 g6 g7 v b x wr) : RM w g5 g6 g7 v b x wr.drew := ⟨h.arg, h.res, h.sch, h.con, h.row, h.below.drew⟩
theorem RM.write {w : World} {g5 g6 g7 : Nat} {v b x : List Nat} {wr : World} (h : RM w g5 g6 g7 v b x wr) (y : List Nat) (hy : x.length = y.length) (h5 : g5 ≠ g7) (h6 : g6 ≠ g7) (h7 : w.heap.size + 2 ≤ g7) : RM w g5 g6 g7 v b y (wr.setCells g7 0 (nats .i64 y)) := by
  refine ⟨Blk.Is.setCellsOther _ h.arg (by omega) 0, Blk.Is.setCellsOther _ h.res (by omega) 0, Blk.Is.setCellsOther _ h.sch h5 0, Blk.Is.setCellsOther _ h.con h6 0, ?_, Blk.below_setCells _ h.below (by omega) 0⟩
  have := Blk.Is.setCells (nats .i64 y) h.row 0 (by rw [Blk.nats_length, Blk.nats_length, hy]; omega)
  rwa [Blk.put_all _ _ (by rw [Blk.nats_length, Blk.nats_length, hy])] at this
/-- The first words of the sum. -/
def addO (r v : List Nat) : Nat → List Nat
  | 0 => List.replicate 8 0
  | j + 1 => (addO r v j).set j ((v.getD j 0 + r.getD j 0) % 4294967296)
theorem addO_length (r v : List Nat) (j : Nat) : (addO r v j).length = 8 := by
  induction j with
  | zero => rfl
  | succ j ih => simp [addO, ih]
theorem addO_zero (r v : List Nat) : addO r v 0 = List.replicate 8 0 := rfl
theorem addO_succ (r v : List Nat) (j : Nat) : addO r v (j + 1) = (addO r v j).set j ((v.getD j 0 + r.getD j 0) % 4294967296) := rfl
theorem addO_all (r v : List Nat) (hr : r.length = 8) (hv : v.length = 8) : addO r v 8 = List.zipWith (fun x y => (x + y) % 4294967296) r v := by
  match r, hr, v, hv with
  | [x0, x1, x2, x3, x4, x5, x6, x7], _, [y0, y1, y2, y3, y4, y5, y6, y7], _ =>
    show [(y0 + x0) % 4294967296, (y1 + x1) % 4294967296, (y2 + x2) % 4294967296, (y3 + x3) % 4294967296, (y4 + x4) % 4294967296, (y5 + x5) % 4294967296, (y6 + x6) % 4294967296, (y7 + x7) % 4294967296] = [(x0 + y0) % 4294967296, (x1 + y1) % 4294967296, (x2 + y2) % 4294967296, (x3 + y3) % 4294967296, (x4 + y4) % 4294967296, (x5 + y5) % 4294967296, (x6 + y6) % 4294967296, (x7 + y7) % 4294967296]
    simp only [Nat.add_comm]
theorem mixed_addO (v b : List Nat) (hv : v.length = 8) : addO (rounds (sched b) v 64) v 8 = mixed v b := addO_all _ _ (rounds_length _ _ hv _) hv
theorem RM.keep {w : World} {g5 g6 g7 : Nat} {v b x : List Nat} {wr w' : World} (h : RM w g5 g6 g7 v b x wr) {B : Nat} (hb : Below B wr w') (h5 : g5 < B) (h6 : g6 < B) (h7 : g7 < B) (h1 : w.heap.size + 1 < B) : RM w g5 g6 g7 v b x w' :=
  ⟨h.arg.keep hb (by omega), h.res.keep hb h1, h.sch.keep hb h5, h.con.keep hb h6, h.row.keep hb h7, h.below.trans (hb.mono (by omega))⟩
theorem rounds_all_lt (w v : List Nat) (hv : v.length = 8) (hV : ∀ i, at_ v i < 4294967296) (k : Nat) : ∀ i, (rounds w v k).getD i 0 < 4294967296 := by
  obtain ⟨x0, x1, x2, x3, x4, x5, x6, x7, hx, l0, l1, l2, l3, l4, l5, l6, l7⟩ := rounds_lt w v hv hV k
  rw [hx]
  refine fun i => at_lt_of_all ?_ (by decide) i
  intro x hx
  simp only [List.mem_cons, List.not_mem_nil, or_false] at hx
  rcases hx with rfl | rfl | rfl | rfl | rfl | rfl | rfl | rfl <;> assumption
def val2 (v b : List Nat) (g o cap : Nat) : Nat → Value
  | 0 => .slice (some ⟨g, o, none⟩) 64 cap
  | 1 => .agg (nats .i64 (sched b)).toArray
  | 2 => .agg (nats .i64 ks).toArray
  | _ => .agg (nats .i64 v).toArray
def zs2 (b : List Nat) (σ : Nat → Option Value) : Nat → List Value
  | 4 => if (σ 7).isSome then nats .i64 (sched b) else nats .i64 (List.replicate 64 0)
  | 5 => if (σ 8).isSome then nats .i64 ks else nats .i64 (List.replicate 64 0)
  | _ => nats .i64 (List.replicate 8 0)
theorem zs2_keep (b : List Nat) (σ : Nat → Option Value) (i : Nat) (v : Value) (h : i < 7) (j : Nat) : zs2 b (Any.upd σ i v) j = zs2 b σ j := by
  unfold zs2
  split
  · rw [Any.upd_other σ v (by omega)]
  · rw [Any.upd_other σ v (by omega)]
  · rfl
theorem zs2_len4 (b : List Nat) (σ : Nat → Option Value) : (zs2 b σ 4).length = 64 := by
  show (if (σ 7).isSome then nats .i64 (sched b) else nats .i64 (List.replicate 64 0)).length = 64
  split
  · rw [Blk.nats_length, sched_length]
  · rw [Blk.nats_length, List.length_replicate]
theorem zs2_len5 (b : List Nat) (σ : Nat → Option Value) : (zs2 b σ 5).length = 64 := by
  show (if (σ 8).isSome then nats .i64 ks else nats .i64 (List.replicate 64 0)).length = 64
  split
  · rw [Blk.nats_length, ks_length]
  · rw [Blk.nats_length, List.length_replicate]
/-- A block is written behind its making. -/
def Ord2 (σ : Nat → Option Value) : Prop := ((σ 7).isSome = true → (σ 4).isSome = true) ∧ ((σ 8).isSome = true → (σ 5).isSome = true)
theorem upd_some (σ : Nat → Option Value) (i j : Nat) (v : Value) (h : (σ j).isSome = true) : (Any.upd σ i v j).isSome = true := by
  by_cases e : j = i
  · subst e; rw [Any.upd_same]; rfl
  · rw [Any.upd_other σ v e]; exact h
theorem Ord2.keep {σ : Nat → Option Value} (h : Ord2 σ) (i : Nat) (v : Value) (h7 : i = 7 → (σ 4).isSome = true) (h8 : i = 8 → (σ 5).isSome = true) : Ord2 (Any.upd σ i v) := by
  refine ⟨fun e => ?_, fun e => ?_⟩
  · by_cases e7 : i = 7
    · exact upd_some σ i 4 v (h7 e7)
    · rw [Any.upd_other σ v (fun x => e7 x.symm)] at e
      exact upd_some σ i 4 v (h.1 e)
  · by_cases e8 : i = 8
    · exact upd_some σ i 5 v (h8 e8)
    · rw [Any.upd_other σ v (fun x => e8 x.symm)] at e
      exact upd_some σ i 5 v (h.2 e)
def ts2 : Nat → TypeId
  | 6 => 79
  | _ => 100
attribute [local irreducible] sched ks rounds round plus mixed addO
set_option maxHeartbeats 1000000 in
set_option maxRecDepth 100000 in
theorem rblock_any (v b : List Nat) (g o cap : Nat) (w : World) (hv : v.length = 8) (hb : b.length = 64) (hV : ∀ i, at_ v i < 4294967296) (hB : ∀ x ∈ b, x < 256) (hg : g < w.heap.size) (hr : w.rangeAt g o (nats .u8 b)) :
    Calls Try.prog 51 #[.agg (nats .i64 v).toArray, .slice (some ⟨g, o, none⟩) 64 cap] w fun e w' => e = .returned (.agg (nats .i64 (mixed v b)).toArray) ∧ Below w.heap.size w w' := by
  have HB := Lib.hid hB
  have HL := Lib.hid hb
  have HV := Lib.hid hV
  have HLv := Lib.hid hv
  have HR := Lib.hid hr
  clear hB hb hV hv hr
  obtain ⟨w0, hw0⟩ : ∃ W, W = (w.alloc (.cells (nats .i64 v).toArray 79)).alloc (.cells (nats .i64 (List.replicate 8 0)).toArray 79) := ⟨_, rfl⟩
  have b0 : Blk.Is w0 w.heap.size (nats .i64 v) 79 := by rw [hw0]; exact (Blk.new w _ _).alloc _
  have b2 : Blk.Is w0 (w.heap.size + 1) (nats .i64 (List.replicate 8 0)) 79 := by rw [hw0]; exact Blk.new' _ _ _ _ (by simp)
  have k0 : Below w.heap.size w w0 := by rw [hw0]; exact ((Below.refl _ _).alloc (Nat.le_refl _) _).alloc (by simp) _
  have s0 : w.heap.size + 2 = w0.heap.size := by rw [hw0]; simp
  have HW := Lib.hid hw0
  have S0 := Lib.hid s0
  have B0 := Lib.hid b0
  have B2 := Lib.hid b2
  have K0 := Lib.hid k0
  clear hw0 s0 b0 b2 k0
  go_enter Try.func51, Try.ntmps51
  go_wp2
  have e8 : (nats .i64 (List.replicate 8 0)).toArray = #[.int .i64 0, .int .i64 0, .int .i64 0, .int .i64 0, .int .i64 0, .int .i64 0, .int .i64 0, .int .i64 0] := rfl
  have hw1 := HW.out
  rw [e8] at hw1
  rw [← hw1]
  clear hw1 e8 HW
  refine Any.region_any 9 (by kernel_rfl) (by kernel_rfl) (fun σ w1 => InvM w0.drew (val2 v b g o cap) (zs2 b) ts2 4 7 σ w1 ∧ Ord2 σ) ⟨InvM.start, by simp [Ord2]⟩ ?step ?last
  case step =>
    intro i o' σ w1 hi ho hs hdep ⟨hI, hO⟩
    rcases (show i = 0 ∨ i = 1 ∨ i = 2 ∨ i = 3 ∨ i = 4 ∨ i = 5 ∨ i = 6 ∨ i = 7 ∨ i = 8 by omega) with rfl | rfl | rfl | rfl | rfl | rfl | rfl | rfl | rfl
    · obtain rfl := Option.some.inj ho
      refine Any.value_wp (v := .slice (some ⟨g, o, none⟩) 64 cap) (w1 := w1) ?_ ⟨_, rfl, hI.plain (Below.refl _ _) 0 (by omega) (fun j _ => zs2_keep b σ 0 _ (by omega) j), hO.keep 0 _ (by omega) (by omega)⟩
      show (pure (Next.value ((Any.puts _ σ 9 _).eval (.tmp 1))) : Sem Next).run _ _ = _
      rw [Any.puts_off σ _ (by kernel_rfl)]
      rfl
    · obtain rfl := Option.some.inj ho
      have h0 : (σ 0).isSome = true := hdep ⟨0, .data⟩ (by simp) (by kernel_rfl)
      obtain ⟨v0, hv0⟩ := Option.isSome_iff_exists.1 h0
      obtain rfl := hI.r 0 v0 (by omega) hv0
      refine Any.call_wp Try.func70 (by kernel_rfl) rfl #[.slice (some ⟨g, o, none⟩) 64 cap] rfl ?_ ?_
      · simp only [List.map_toArray, List.map_cons, List.map_nil]
        rw [Any.puts_at hv0 rfl rfl _ (by simp) (by decide) (by kernel_rfl)]
        rfl
      have hgw : g < w1.heap.size := by have := hI.below.size; have := S0.out; have : w0.drew.heap.size = w0.heap.size := rfl; omega
      refine (rsched_any b g o cap w1 HL.out HB.out hgw (range_keep HR.out ?_)).mono ?_
      · rw [hI.below.block g (by have := S0.out; show g < w0.heap.size; omega)]
        exact K0.out.block g hg
      rintro e w2 ⟨rfl, hb⟩
      exact ⟨_, rfl, _, rfl, hI.plain hb 1 (by omega) (fun j _ => zs2_keep b σ 1 _ (by omega) j), hO.keep 1 _ (by omega) (by omega)⟩
    · obtain rfl := Option.some.inj ho
      refine Any.call_wp Try.func71 (by kernel_rfl) rfl #[] rfl (by simp) ?_
      refine (rks_any w1).mono ?_
      rintro e w2 ⟨rfl, hb⟩
      exact ⟨_, rfl, _, rfl, hI.plain hb 2 (by omega) (fun j _ => zs2_keep b σ 2 _ (by omega) j), hO.keep 2 _ (by omega) (by omega)⟩
    · obtain rfl := Option.some.inj ho
      have b0 := Blk.Is.below (w := w0.drew) B0.out hI.below
      refine wp_load_row 79 (.tmp 2) rfl w.heap.size ?_ 79 (nats .i64 v).toArray (0, 0) _ b0 Try.underlying79 rfl ?_ ⟨_, rfl, hI.plain (Below.refl _ _) 3 (by omega) (fun j _ => zs2_keep b σ 3 _ (by omega) j), hO.keep 3 _ (by omega) (by omega)⟩
      · exact Any.puts_off σ _ (by kernel_rfl)
      · simp only [List.size_toArray, Blk.nats_length, HLv.out]; kernel_rfl
    · obtain rfl := Option.some.inj ho
      have h7 : (σ 7).isSome = false := by
        cases h : (σ 7).isSome with
        | false => rfl
        | true => have := hO.1 h; rw [hs] at this; cases this
      refine Any.value_wp (v := .pointer (some ⟨w1.heap.size, 0, none⟩)) (w1 := w1.alloc (.cells (nats .i64 (List.replicate 64 0)).toArray (ts2 4))) ?_ ⟨_, rfl, hI.made 4 (by omega) _ (by rw [zs2_keep b σ 4 _ (by omega)]; show (if (σ 7).isSome then _ else _) = _; rw [h7]; rfl) (fun j _ _ => zs2_keep b σ 4 _ (by omega) j), hO.keep 4 _ (by omega) (by omega)⟩
      go_simp
      rfl
    · obtain rfl := Option.some.inj ho
      have h8 : (σ 8).isSome = false := by
        cases h : (σ 8).isSome with
        | false => rfl
        | true => have := hO.2 h; rw [hs] at this; cases this
      refine Any.value_wp (v := .pointer (some ⟨w1.heap.size, 0, none⟩)) (w1 := w1.alloc (.cells (nats .i64 (List.replicate 64 0)).toArray (ts2 5))) ?_ ⟨_, rfl, hI.made 5 (by omega) _ (by rw [zs2_keep b σ 5 _ (by omega)]; show (if (σ 8).isSome then _ else _) = _; rw [h8]; rfl) (fun j _ _ => zs2_keep b σ 5 _ (by omega) j), hO.keep 5 _ (by omega) (by omega)⟩
      go_simp
      rfl
    · obtain rfl := Option.some.inj ho
      refine Any.value_wp (v := .pointer (some ⟨w1.heap.size, 0, none⟩)) (w1 := w1.alloc (.cells (nats .i64 (List.replicate 8 0)).toArray (ts2 6))) ?_ ⟨_, rfl, hI.made 6 (by omega) _ (by rw [zs2_keep b σ 6 _ (by omega)]; rfl) (fun j _ _ => zs2_keep b σ 6 _ (by omega) j), hO.keep 6 _ (by omega) (by omega)⟩
      go_simp
      rfl
    · obtain rfl := Option.some.inj ho
      have d4 : (σ 4).isSome = true := hdep ⟨4, .data⟩ (by simp) (by kernel_rfl)
      have d1 : (σ 1).isSome = true := hdep ⟨1, .data⟩ (by simp) (by kernel_rfl)
      obtain ⟨v4, hv4⟩ := Option.isSome_iff_exists.1 d4
      obtain ⟨v1, hv1⟩ := Option.isSome_iff_exists.1 d1
      obtain rfl := hI.r 1 v1 (by omega) hv1
      obtain ⟨g5, rfl, hg5, i5⟩ := hI.a 4 v4 (by omega) (by omega) hv4
      refine wp_store_mid 100 (.tmp 5) (.tmp 17) rfl g5 0 (nats .i64 (sched b)).toArray ?_ ?_ (by simpa [Blk.nats_length, sched_length] using i5.there 0 64 (by rw [zs2_len4]; decide)) (by simp only [List.size_toArray, Blk.nats_length, sched_length]; kernel_rfl) (Blk.nats_one _ _) ⟨undef, rfl, ?_, hO.keep 7 _ (fun _ => d4) (by omega)⟩
      · exact Any.puts_at hv4 rfl rfl _ (by simp) (by decide) (by kernel_rfl)
      · exact Any.puts_at hv1 rfl rfl _ (by simp) (by decide) (by kernel_rfl)
      · refine hI.stored 7 4 g5 undef (by omega) (by omega) (by omega) (by omega) hv4 (nats .i64 (sched b)) (by rw [zs2_len4, Blk.nats_length, sched_length]) ?_ (fun j hj _ => ?_)
        · show (if (Any.upd σ 7 undef 7).isSome then nats .i64 (sched b) else nats .i64 (List.replicate 64 0)) = nats .i64 (sched b)
          rw [Any.upd_same]
          rfl
        · unfold zs2
          split
          · omega
          · rw [Any.upd_other σ _ (by omega)]
          · rfl
    · obtain rfl := Option.some.inj ho
      have d5 : (σ 5).isSome = true := hdep ⟨5, .data⟩ (by simp) (by kernel_rfl)
      have d2 : (σ 2).isSome = true := hdep ⟨2, .data⟩ (by simp) (by kernel_rfl)
      obtain ⟨v5, hv5⟩ := Option.isSome_iff_exists.1 d5
      obtain ⟨v2, hv2⟩ := Option.isSome_iff_exists.1 d2
      obtain rfl := hI.r 2 v2 (by omega) hv2
      obtain ⟨g6, rfl, hg6, i6⟩ := hI.a 5 v5 (by omega) (by omega) hv5
      refine wp_store_mid 100 (.tmp 6) (.tmp 18) rfl g6 0 (nats .i64 ks).toArray ?_ ?_ (by simpa [Blk.nats_length, ks_length] using i6.there 0 64 (by rw [zs2_len5]; decide)) (by simp only [List.size_toArray, Blk.nats_length, ks_length]; kernel_rfl) (Blk.nats_one _ _) ⟨undef, rfl, ?_, hO.keep 8 _ (by omega) (fun _ => d5)⟩
      · exact Any.puts_at hv5 rfl rfl _ (by simp) (by decide) (by kernel_rfl)
      · exact Any.puts_at hv2 rfl rfl _ (by simp) (by decide) (by kernel_rfl)
      · refine hI.stored 8 5 g6 undef (by omega) (by omega) (by omega) (by omega) hv5 (nats .i64 ks) (by rw [zs2_len5, Blk.nats_length, ks_length]) ?_ (fun j hj _ => ?_)
        · show (if (Any.upd σ 8 undef 8).isSome then nats .i64 ks else nats .i64 (List.replicate 64 0)) = nats .i64 ks
          rw [Any.upd_same]
          rfl
        · unfold zs2
          split
          · rw [Any.upd_other σ _ (by omega)]
          · omega
          · rfl
  case last =>
    intro σ w1 hall ⟨hI, _⟩
    obtain ⟨v0, h0⟩ := Option.isSome_iff_exists.1 (hall 0 (by decide))
    obtain ⟨v1, h1⟩ := Option.isSome_iff_exists.1 (hall 1 (by decide))
    obtain ⟨v2, h2⟩ := Option.isSome_iff_exists.1 (hall 2 (by decide))
    obtain ⟨v3, h3⟩ := Option.isSome_iff_exists.1 (hall 3 (by decide))
    obtain ⟨v4, h4⟩ := Option.isSome_iff_exists.1 (hall 4 (by decide))
    obtain ⟨v5, h5⟩ := Option.isSome_iff_exists.1 (hall 5 (by decide))
    obtain ⟨v6, h6⟩ := Option.isSome_iff_exists.1 (hall 6 (by decide))
    have h7 := hall 7 (by decide)
    have h8 := hall 8 (by decide)
    obtain rfl : v0 = .slice (some ⟨g, o, none⟩) 64 cap := hI.r 0 v0 (by omega) h0
    obtain rfl : v1 = .agg (nats .i64 (sched b)).toArray := hI.r 1 v1 (by omega) h1
    obtain rfl : v2 = .agg (nats .i64 ks).toArray := hI.r 2 v2 (by omega) h2
    obtain rfl : v3 = .agg (nats .i64 v).toArray := hI.r 3 v3 (by omega) h3
    obtain ⟨v7, h7⟩ := Option.isSome_iff_exists.1 h7
    obtain ⟨v8, h8⟩ := Option.isSome_iff_exists.1 h8
    have z4 : zs2 b σ 4 = nats .i64 (sched b) := by
      show (if (σ 7).isSome then nats .i64 (sched b) else nats .i64 (List.replicate 64 0)) = nats .i64 (sched b)
      rw [h7]
      rfl
    have z5 : zs2 b σ 5 = nats .i64 ks := by
      show (if (σ 8).isSome then nats .i64 ks else nats .i64 (List.replicate 64 0)) = nats .i64 ks
      rw [h8]
      rfl
    obtain ⟨g5, rfl, hg5, i5⟩ := hI.a 4 v4 (by omega) (by omega) h4
    obtain ⟨g6, rfl, hg6, i6⟩ := hI.a 5 v5 (by omega) (by omega) h5
    obtain ⟨g7, rfl, hg7, i7⟩ := hI.a 6 v6 (by omega) (by omega) h6
    have n57 := hI.ne 4 6 g5 g7 (by omega) (by omega) (by omega) (by omega) (by omega) h4 h6
    have n67 := hI.ne 5 6 g6 g7 (by omega) (by omega) (by omega) (by omega) (by omega) h5 h6
    rw [z4] at i5
    rw [z5] at i6
    have i5 : Blk.Is w1 g5 (nats .i64 (sched b)) 100 := i5
    have i6 : Blk.Is w1 g6 (nats .i64 ks) 100 := i6
    have i7 : Blk.Is w1 g7 (nats .i64 (List.replicate 8 0)) 79 := i7
    have kk := hI.below
    clear hI hall z4 z5
    simp only [Any.puts, h0, h1, h2, h3, h4, h5, h6, h7, h8, List.getElem?_toArray, List.getElem?_cons_zero, List.getElem?_cons_succ, Act.put, List.setIfInBounds_toArray, List.set_cons_zero, List.set_cons_succ, List.drop_succ_cons, List.drop_zero]
    clear h0 h1 h2 h3 h4 h5 h6 h7 h8
    have hs0 : w0.drew.heap.size = w.heap.size + 2 := by have := S0.out; show w0.heap.size = _; omega
    rw [hs0] at hg5 hg6 hg7
    have c0 := Blk.Is.below (w := w0.drew) B0.out kk
    have c2 := Blk.Is.below (w := w0.drew) B2.out kk
    have k1 := K0.out.drew.trans (kk.mono K0.out.size)
    clear kk hs0
    refine Blk.store_row 79 (.tmp 7) (.tmp 19) rfl rfl g7 0 (nats .i64 v) rfl rfl i7 (by rw [Blk.nats_length, Blk.nats_length, HLv.out]; decide) (by rw [Blk.nats_length, HLv.out]; kernel_rfl) (Blk.nats_one _ _) ?_
    have c7 := Blk.Is.setCells (nats .i64 v) i7 0 (by rw [Blk.nats_length, Blk.nats_length, HLv.out]; decide)
    rw [Blk.put_all _ _ (by rw [Blk.nats_length, Blk.nats_length, HLv.out]; rfl)] at c7
    have c5 := Blk.Is.setCellsOther (nats .i64 v) i5 n57 0
    have c6 := Blk.Is.setCellsOther (nats .i64 v) i6 n67 0
    have c0 := Blk.Is.setCellsOther (nats .i64 v) c0 (show w.heap.size ≠ g7 by omega) 0
    have c2 := Blk.Is.setCellsOther (nats .i64 v) c2 (show w.heap.size + 1 ≠ g7 by omega) 0
    have k2 := Blk.below_setCells (nats .i64 v) k1 (show w.heap.size ≤ g7 by omega) 0
    generalize w1.setCells g7 0 (nats .i64 v) = w2 at c7 c5 c6 c0 c2 k2 ⊢
    have m0 : RM w g5 g6 g7 v b v w2 := ⟨c0, c2, c5, c6, c7, k2⟩
    clear c0 c2 c5 c6 c7 k2 k1 i5 i6 i7
    refine wpList_nil ?_
    simp only [Act.put]
    go_wp2
    go_loopw [8] (fun i wr => ∃ k : Nat, k ≤ 64 ∧ i = .int .i64 k ∧ RM w g5 g6 g7 v b (rounds (sched b) v k) wr)
      (fun i _ => 64 - (intOf i).toNat)
    case atStart => exact ⟨0, by omega, rfl, by rw [rounds_zero]; exact m0⟩
    case round =>
      clear m0
      obtain ⟨k, hk, rfl, m0⟩ := hrel
      by_cases hlt : k < 64
      · obtain ⟨x0, x1, x2, x3, x4, x5, x6, x7, hx, l0, l1, l2, l3, l4, l5, l6, l7⟩ := rounds_lt (sched b) v HLv.out HV.out k
        have hr : rounds (sched b) v (k + 1) = round (sched b) (rounds (sched b) v k) k := rounds_succ _ _ k
        rw [hx] at hr m0
        have HRd := Lib.hid hr
        clear hr hx
        have a4 : wr.cell? ⟨g7, 4, none⟩ = some (.int .i64 (x4 : Int)) := m0.row.cell 4
        have q4 := Cls.Wd.cell (w0 := wr.drew) a4
        have M0 := Lib.hid m0
        clear a4 m0
        go_wp2
        refine Cls.region_cls (S := Cls.Kept _) (by kernel_rfl) (by kernel_rfl) (Below.refl _ _) ?_
        repeat (go_big_quiet_step (first | (go_at_call 72; with_reducible refine Cls.calls_kept (rrotr_any x4 6 _ l4 (by decide) (by decide))) | (go_at_call 72; with_reducible refine Cls.calls_kept (rrotr_any x4 11 _ l4 (by decide) (by decide))) | (go_at_call 72; with_reducible refine Cls.calls_kept (rrotr_any x4 25 _ l4 (by decide) (by decide)))))
        refine wpQuiet_nil ?_
        intro w3 hw3
        have m1 := M0.out.drew.step hw3
        have s1lt := rot3_lt x4 6 11 25
        rw [rot3R]
        generalize hs1 : (rotr x4 6 ^^^ rotr x4 11 ^^^ rotr x4 25) = s1 at s1lt ⊢
        have a4 : w3.cell? ⟨g7, 4, none⟩ = some (.int .i64 (x4 : Int)) := m1.row.cell 4
        have a5 : w3.cell? ⟨g7, 5, none⟩ = some (.int .i64 (x5 : Int)) := m1.row.cell 5
        have a6 : w3.cell? ⟨g7, 6, none⟩ = some (.int .i64 (x6 : Int)) := m1.row.cell 6
        have HS1 := Lib.hid hs1
        have M1 := Lib.hid m1
        clear hw3 M0 q4 m1 hs1
        go_wp2
        rw [choiceR x4 x5 x6 l4 l5 l6]
        have lch : (x6 ^^^ (x4 &&& (x5 ^^^ x6))) < 4294967296 := Nat.xor_lt_two_pow (n := 32) l6 (Nat.lt_of_le_of_lt Nat.and_le_left l4)
        generalize hch : (x6 ^^^ (x4 &&& (x5 ^^^ x6))) = ch at lch ⊢
        have HCH := Lib.hid hch
        have c50 := M1.out.con.nat k (by rw [ks_length]; omega)
        have c60 := M1.out.sch.nat k (by rw [sched_length]; omega)
        generalize hkk : ks.getD k 0 = kk at c50
        generalize hww : (sched b).getD k 0 = ww at c60
        have lkk : kk < 4294967296 := by rw [← hkk]; exact ks_lt k
        have lww : ww < 4294967296 := by rw [← hww]; exact sched_lt b (fun i => at_lt_of_all HB.out (by decide) i) k
        have HKK := Lib.hid hkk
        have HWW := Lib.hid hww
        have a7 : w3.cell? ⟨g7, 7, none⟩ = some (.int .i64 (x7 : Int)) := M1.out.row.cell 7
        have q7 := Cls.Wd.cell (w0 := w3.drew) a7
        have q50 := Cls.Wd.cell (w0 := w3.drew) c50
        have q60 := Cls.Wd.cell (w0 := w3.drew) c60
        clear hch hkk hww a4 a5 a6 a7 c50 c60
        refine Cls.region_cls (S := Cls.Kept _) (by kernel_rfl) (by kernel_rfl) (Below.refl _ _) ?_
        repeat (go_big_quiet_step (fail))
        refine wpQuiet_nil ?_
        intro w4 hw4
        have m2 := M1.out.drew.step hw4
        obtain ⟨t1, ht1⟩ : ∃ n : Nat, n = x7 + s1 + ch + kk + ww := ⟨_, rfl⟩
        have et1 : ((x7 : Int) + (s1 : Int) + (ch : Int) + (kk : Int) + (ww : Int)) = (t1 : Int) := by omega
        rw [et1]
        have lt1 : t1 < 5 * 4294967296 := by omega
        have HT1 := Lib.hid ht1
        have a0 : w4.cell? ⟨g7, 0, none⟩ = some (.int .i64 (x0 : Int)) := m2.row.cell 0
        have q0 := Cls.Wd.cell (w0 := w4.drew) a0
        have M2 := Lib.hid m2
        clear ht1 et1 q7 q50 q60 hw4 m2 M1 a0
        go_wp2
        refine Cls.region_cls (S := Cls.Kept _) (by kernel_rfl) (by kernel_rfl) (Below.refl _ _) ?_
        repeat (go_big_quiet_step (first | (go_at_call 72; with_reducible refine Cls.calls_kept (rrotr_any x0 2 _ l0 (by decide) (by decide))) | (go_at_call 72; with_reducible refine Cls.calls_kept (rrotr_any x0 13 _ l0 (by decide) (by decide))) | (go_at_call 72; with_reducible refine Cls.calls_kept (rrotr_any x0 22 _ l0 (by decide) (by decide)))))
        refine wpQuiet_nil ?_
        intro w5 hw5
        have m3 := M2.out.drew.step hw5
        have s0lt := rot3_lt x0 2 13 22
        rw [rot3R]
        generalize hs0 : (rotr x0 2 ^^^ rotr x0 13 ^^^ rotr x0 22) = s0 at s0lt ⊢
        have HS0 := Lib.hid hs0
        have a0 : w5.cell? ⟨g7, 0, none⟩ = some (.int .i64 (x0 : Int)) := m3.row.cell 0
        have a1 : w5.cell? ⟨g7, 1, none⟩ = some (.int .i64 (x1 : Int)) := m3.row.cell 1
        have a2 : w5.cell? ⟨g7, 2, none⟩ = some (.int .i64 (x2 : Int)) := m3.row.cell 2
        have a3 : w5.cell? ⟨g7, 3, none⟩ = some (.int .i64 (x3 : Int)) := m3.row.cell 3
        have a4 : w5.cell? ⟨g7, 4, none⟩ = some (.int .i64 (x4 : Int)) := m3.row.cell 4
        have a5 : w5.cell? ⟨g7, 5, none⟩ = some (.int .i64 (x5 : Int)) := m3.row.cell 5
        have a6 : w5.cell? ⟨g7, 6, none⟩ = some (.int .i64 (x6 : Int)) := m3.row.cell 6
        have M3 := Lib.hid m3
        clear hs0 q0 hw5 m3 M2
        go_upto_region 10 with (fail)
        (try simp only [Act.put])
        rw [majorR x0 x1 x2 l0 l1 l2]
        have lmj : ((x0 &&& x1) ||| (x2 &&& (x0 ||| x1))) < 4294967296 := Nat.or_lt_two_pow (n := 32) (Nat.lt_of_le_of_lt Nat.and_le_left l0) (Nat.lt_of_le_of_lt Nat.and_le_left l2)
        generalize hmj : ((x0 &&& x1) ||| (x2 &&& (x0 ||| x1))) = mj at lmj ⊢
        have HMJ := Lib.hid hmj
        clear hmj
        have q0 := Cls.Wd.cell (w0 := w5) a0
        have q1 := Cls.Wd.cell (w0 := w5) a1
        have q2 := Cls.Wd.cell (w0 := w5) a2
        have q3 := Cls.Wd.cell (w0 := w5) a3
        have q4 := Cls.Wd.cell (w0 := w5) a4
        have q5 := Cls.Wd.cell (w0 := w5) a5
        have q6 := Cls.Wd.cell (w0 := w5) a6
        clear a0 a1 a2 a3 a4 a5 a6
        refine Pln.region_plain 23 ?_
        simp only [List.take_succ_cons, List.take_zero, List.drop_succ_cons, List.drop_zero]
        repeat (go_big_quiet_step (fail))
        refine wpQuiet_nil ?_
        intro w6 hw6
        have m4 := M3.out.step hw6
        have M4 := Lib.hid m4
        clear q0 q1 q2 q3 q4 q5 q6 hw6 m4 M3
        have e0 : bits .and .i64 ((t1 : Int) + (s0 : Int) + (mj : Int)) 4294967295 = (((t1 + s0 + mj) % 4294967296 : Nat) : Int) := by
          rw [show ((t1 : Int) + (s0 : Int) + (mj : Int)) = ((t1 + s0 + mj : Nat) : Int) by omega]
          exact and_all _ (by omega)
        have e4 : bits .and .i64 ((x3 : Int) + (t1 : Int)) 4294967295 = (((x3 + t1) % 4294967296 : Nat) : Int) := by
          rw [show ((x3 : Int) + (t1 : Int)) = ((x3 + t1 : Nat) : Int) by omega]
          exact and_all _ (by omega)
        rw [e0, e4]
        generalize hn0 : (t1 + s0 + mj) % 4294967296 = n0
        generalize hn4 : (x3 + t1) % 4294967296 = n4
        have HN0 := Lib.hid hn0
        have HN4 := Lib.hid hn4
        clear hn0 hn4 e0 e4
        refine Blk.build_val 79 _ rfl rfl (nats .i64 [n0, x0, x1, x2, n4, x4, x5, x6]).toArray ?hbuilt ?_
        case hbuilt => kernel_rfl
        simp only [Act.put, List.setIfInBounds_toArray, List.set_cons_zero, List.set_cons_succ]
        refine Blk.store_row 79 (.tmp 7) (.tmp 112) rfl rfl g7 0 (nats .i64 [n0, x0, x1, x2, n4, x4, x5, x6]) rfl rfl M4.out.row (show 0 + 8 ≤ 8 by decide) (by kernel_rfl) (Blk.nats_one _ _) ?_
        have m5 := M4.out.write [n0, x0, x1, x2, n4, x4, x5, x6] rfl n57 n67 hg7
        have M5 := Lib.hid m5
        clear m5 M4
        simp only [Act.put]
        refine wpList_nil ?_
        go_wp2
        go_roundw
        case rel =>
          refine ⟨k + 1, by omega, by go_num, ?_⟩
          have hr := HRd.out
          rw [round_at, HS1.out, HCH.out, HKK.out, HWW.out, ← HT1.out, HS0.out, HMJ.out] at hr
          have f0 : (t1 % 4294967296 + (s0 + mj) % 4294967296) % 4294967296 = n0 := by have := HN0.out; omega
          have f4 : (x3 + t1 % 4294967296) % 4294967296 = n4 := by have := HN4.out; omega
          rw [f0, f4] at hr
          rw [hr]
          exact M5.out
        case measure => simp [intOf]; omega
      · have hd : decide ((k : Int) < 64) = false := decide_eq_false (by omega)
        obtain rfl : k = 64 := by omega
        have hrl := rounds_length (sched b) v HLv.out 64
        have HM := Lib.hid (mixed_addO v b HLv.out)
        have hrb := rounds_all_lt (sched b) v HLv.out HV.out 64
        generalize rounds (sched b) v 64 = r at m0 hrl HM hrb
        have HRB := Lib.hid hrb
        clear hrb
        have HRL := Lib.hid hrl
        clear hrl
        have M0 := Lib.hid m0
        clear m0
        go_wp2_with (first | (refine Blk.build_val 79 _ rfl rfl (nats .i64 (List.replicate 8 0)).toArray (by kernel_rfl) ?_) | (refine Blk.store_row 79 (.tmp 14) (.tmp 113) rfl rfl wr.heap.size 0 (nats .i64 (List.replicate 8 0)) rfl rfl (Blk.new wr (nats .i64 (List.replicate 8 0)) 79) (by simp [Blk.nats_length]) (by kernel_rfl) (Blk.nats_one _ _) ?_))
        obtain ⟨gt, hgt⟩ : ∃ g, g = wr.heap.size := ⟨_, rfl⟩
        have l5 : g5 < gt := by rw [hgt]; exact M0.out.sch.lt
        have l6 : g6 < gt := by rw [hgt]; exact M0.out.con.lt
        have l7 : g7 < gt := by rw [hgt]; exact M0.out.row.lt
        have l1 : w.heap.size + 1 < gt := by rw [hgt]; exact M0.out.res.lt
        have z8 : (nats .i64 (List.replicate 8 0)).length = 8 := by simp [Blk.nats_length]
        have m1 : RM w g5 g6 g7 v b r ((wr.alloc (.cells (nats .i64 (List.replicate 8 0)).toArray 79)).setCells wr.heap.size 0 (nats .i64 (List.replicate 8 0))) :=
          M0.out.keep (B := gt) (Blk.below_setCells _ ((Below.refl _ _).alloc (by omega) _) (by omega) 0) l5 l6 l7 l1
        have t1 : Blk.Is ((wr.alloc (.cells (nats .i64 (List.replicate 8 0)).toArray 79)).setCells wr.heap.size 0 (nats .i64 (List.replicate 8 0))) gt (nats .i64 (addO r v 0)) 79 := by
          have h := Blk.Is.setCells (nats .i64 (List.replicate 8 0)) (Blk.new wr (nats .i64 (List.replicate 8 0)) 79) 0 (by rw [z8]; decide)
          rw [Blk.put_all _ _ rfl] at h
          rw [addO_zero, hgt]
          exact h
        rw [← hgt]
        rw [← hgt] at m1 t1
        have HGT := Lib.hid hgt
        clear hgt z8
        go_loopw [15] (fun i wr => ∃ j : Nat, j ≤ 8 ∧ i = .int .i64 j ∧ RM w g5 g6 g7 v b r wr ∧ Blk.Is wr gt (nats .i64 (addO r v j)) 79)
          (fun i _ => 8 - (intOf i).toNat)
        case atStart => exact ⟨0, by omega, rfl, m1, t1⟩
        case round =>
          clear m1 t1 M0
          obtain ⟨j, hj, rfl, m0, t0⟩ := hrel
          by_cases hlt : j < 8
          · have h0 := m0.arg.nat j (by rw [HLv.out]; omega)
            have h7 := m0.row.nat j (by rw [HRL.out]; omega)
            have hy' : v.getD j 0 < 4294967296 := HV.out j
            have hz' := HRB.out j
            have HS := addO_succ r v j
            generalize hy : v.getD j 0 = y at h0 HS hy'
            generalize hz : r.getD j 0 = z at h7 HS hz'
            have HS := Lib.hid HS
            have q0 := Cls.Wd.cell (w0 := wr.drew) h0
            have q7 := Cls.Wd.cell (w0 := wr.drew) h7
            have M1 := Lib.hid m0
            have T1 := Lib.hid t0
            clear h0 h7 m0 t0 hy hz
            go_wp2
            refine Cls.region_tail (S := Cls.Kept _) 9 (by kernel_rfl) (by kernel_rfl) (Below.refl _ _) ?_
            simp only [List.take_succ_cons, List.take_zero, List.drop_succ_cons, List.drop_zero]
            repeat (go_big_quiet_step (fail))
            refine wpQuiet_nil ?_
            intro w2 hw2
            have m2 := M1.out.drew.step hw2
            have t2 := Blk.Is.below (w := wr.drew) T1.out hw2
            have e : bits .and .i64 ((y : Int) + (z : Int)) 4294967295 = (((y + z) % 4294967296 : Nat) : Int) := by
              rw [show ((y : Int) + (z : Int)) = ((y + z : Nat) : Int) by omega]
              exact and_all _ (by omega)
            rw [e]
            have f2 := t2.frozen j
            have h2 := t2.nat j (by rw [addO_length]; exact hlt)
            have M2 := Lib.hid m2
            have T2 := Lib.hid t2
            clear q0 q7 hw2 m2 t2 M1 T1 e
            go_wp2
            go_roundw
            case rel =>
              have e2 : (((y : Int) + (z : Int)) % 4294967296) = (((y + z) % 4294967296 : Nat) : Int) := by omega
              rw [e2]
              exact ⟨j + 1, by omega, by go_num, M2.out.keep (B := gt) (Below.setCell (Below.refl gt w2) (p := ⟨gt, j, none⟩) (Nat.le_refl gt) _) l5 l6 l7 l1, by rw [HS.out]; exact T2.out.setNat j _⟩
            case measure => simp [intOf]; omega
          · have hj8 : j = 8 := by omega
            have hd8 : decide ((j : Int) < 8) = false := decide_eq_false (by omega)
            have t2 : Blk.Is wr gt (nats .i64 (mixed v b)) 79 := by rw [← HM.out, ← hj8]; exact t0
            have hs : (mixed v b).length = 8 := by rw [← HM.out, addO_length]
            have HSL := Lib.hid hs
            have res := m0.res
            have kb := m0.below
            clear hj8 hs m0 t0
            go_wp2_with (first | (refine Blk.load_row 79 (.tmp 14) rfl (by rfl) gt rfl 79 (nats .i64 (mixed v b)) _ t2 Try.underlying79 rfl (by rw [Blk.nats_length, HSL.out]; kernel_rfl) ?_) | (refine Blk.store_row 79 (.tmp 4) (.tmp 128) rfl rfl (w.heap.size + 1) 0 (nats .i64 (mixed v b)) rfl rfl res (by rw [Blk.nats_length, Blk.nats_length, HSL.out]; decide) (by rw [Blk.nats_length, HSL.out]; kernel_rfl) (Blk.nats_one _ _) ?_))
            have b3 := Blk.Is.setCells (nats .i64 (mixed v b)) res 0 (by rw [Blk.nats_length, Blk.nats_length, HSL.out]; decide)
            rw [Blk.put_all _ _ (by rw [Blk.nats_length, Blk.nats_length, HSL.out]; rfl)] at b3
            refine bodyPost_ret (results_cell_row rfl _ _ (w.heap.size + 1) 79 _ (0, 0) _ rfl b3 Try.underlying79 rfl (by simp only [List.size_toArray, Blk.nats_length, HSL.out]; kernel_rfl)) rfl ?_
            exact ⟨rfl, Blk.below_setCells _ kb (by omega) _⟩
end Go.Proofs.Yticegglphmgoaaa.Sha
