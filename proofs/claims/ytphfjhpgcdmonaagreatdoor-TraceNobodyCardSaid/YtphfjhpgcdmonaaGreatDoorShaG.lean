/- A digest is begun and told. Conditions: fewer than 2^59 bytes. -/
import Derived.Test.YtphfjhpgcdmonaaGreatDoorShaF
import Derived.Test.YtphfjhpgcdmonaaGreatDoorByt
namespace Go.Proofs.YtphfjhpgcdmonaaGreatDoor.Sha
open Go.RowKit
open Blk (nats)
theorem kit : Byt.Kit Tryz.prog 74 5 9 := ⟨by kernel_rfl, by kernel_rfl, by kernel_rfl, by kernel_rfl⟩
theorem cellsOf_one (g : Bool) (ws rest : List Nat) (n : Nat) : (cellsOf g ws rest n).toArray.all (·.oneCell') = true :=
  all_oneCell_toArray (fun v hv => by
    simp only [cellsOf, List.mem_cons, List.mem_append, List.not_mem_nil, or_false] at hv
    rcases hv with rfl | h | h | rfl
    · rfl
    · exact nats_each _ _ v h
    · exact nats_each _ _ v h
    · rfl)
set_option maxHeartbeats 4000000 in
theorem new_any (w : World) :
    Calls Tryz.prog 226 #[] w fun e w' => ∃ b, e = .returned (.pointer (some ⟨b, 0, none⟩)) ∧ w.heap.size ≤ b ∧ Under w' b [] ∧ Below w.heap.size w w' := by
  go_enter Tryz.func226, Tryz.ntmps226
  go_wp2_with fail
  refine (first_any w).mono ?_
  rintro e w1 ⟨rfl, hb⟩
  go_wp2_with (refine Blk.build_val 385 _ rfl rfl (cellsOf true first (List.replicate 64 0) 0).toArray (by kernel_rfl) ?_)
  refine bodyPost_ret (results_tmp rfl _ _ _) rfl ⟨w1.heap.size, rfl, hb.size, ⟨List.replicate 64 0, fits_nil, ?_⟩, hb.alloc hb.size _⟩
  exact Blk.new w1 (cellsOf true first (List.replicate 64 0) 0) 385
/-- An array of bytes as a text. -/
theorem text_block {P : Program} {T e S : TypeId} (K : Byt.Kit P T e S) {w : World} {ops : Array Oper} {rest : List Oper} {o : Oper} {a : Act} {Q : Exit → Act → World → Prop} (hgd : o.guard = none) (x : Operand) (ho : o.op = .convert T S x)
    (g cap n : Nat) (l : List UInt8) (hx : a.eval x = .slice (some ⟨g, 0, none⟩) n cap) (hn : n = l.length) {t : TypeId} (hg : Blk.Is w g (nats .u8 (nat l)) t) (h : wpList P ops Q rest (a.put o.dst (.string ⟨l.toArray⟩)) w) : wpList P ops Q (o :: rest) a w := by
  subst hn
  refine wpList_plain hgd fun K' hK => ?_
  have hrun := run_convert_bytes_back (P := P) w T S e ⟨g, 0, none⟩ cap l K.hT K.he K.hS (by
    intro j hj
    rw [zero_add, hg.cell]
    simp [nats, hj])
  unfold Oper.wp
  simp [execOp, ho, hx, hrun, Result.andThen]
  exact hK _ _ h
theorem big_lt (n k : Nat) : ∀ x ∈ big n k, x < 256 := by
  intro x hx
  unfold big at hx
  obtain ⟨j, _, rfl⟩ := List.mem_map.1 hx
  exact Nat.mod_lt _ (by decide)
theorem nat_ofNat (l : List Nat) (h : ∀ x ∈ l, x < 256) : nat (l.map UInt8.ofNat) = l := by
  unfold nat
  rw [List.map_map]
  conv => rhs; rw [← List.map_id l]
  apply List.map_congr_left
  intro x hx
  have := h x hx
  simp [UInt8.toNat_ofNat']
  omega
theorem range_keep {w w' : World} {b o : Nat} {cs : List Value} (h : w.rangeAt b o cs) (hb : w'.heap[b]? = w.heap[b]?) : w'.rangeAt b o cs := fun j v hj => by
  rw [World.cell?_of_block (w := w) hb]
  exact h j v hj
/-- The bytes of the first words. -/
def outs (ws : List Nat) (k : Nat) : List Nat := (ws.take k).flatMap fun x => big x 4
theorem outs_zero (ws : List Nat) : outs ws 0 = [] := rfl
theorem outs_succ (ws : List Nat) (k : Nat) (h : k < ws.length) : outs ws (k + 1) = outs ws k ++ big (ws.getD k 0) 4 := by
  unfold outs
  rw [List.take_succ_eq_append_getElem h, List.flatMap_append, List.getD_eq_getElem?_getD, List.getElem?_eq_getElem h]
  simp
theorem outs_lt (ws : List Nat) (k : Nat) : ∀ x ∈ outs ws k, x < 256 := by
  intro x hx
  unfold outs at hx
  obtain ⟨y, _, hy⟩ := List.mem_flatMap.1 hx
  exact big_lt _ _ x hy
theorem outs_length (ws : List Nat) (k : Nat) (h : k ≤ ws.length) : (outs ws k).length = 4 * k := by
  induction k with
  | zero => rfl
  | succ k ih =>
    rw [outs_succ ws k (by omega), List.length_append, ih (by omega)]
    have : (big (ws.getD k 0) 4).length = 4 := by simp [big]
    omega
theorem outs_all (ws : List Nat) (h : ws.length = 8) : outs ws 8 = ws.flatMap fun x => big x 4 := by
  unfold outs
  rw [List.take_of_length_le (by omega)]
theorem big4 (x : Nat) : big x 4 = [x / 16777216 % 256, x / 65536 % 256, x / 256 % 256, x / 1 % 256] := rfl
/-- One number of an array that is a value. -/
theorem run_index {P : Program} (t e : TypeId) (n : Nat) (k ik : IntKind) (l : List Nat) (i : Nat) (w : World) (ht : P.underlying t = some (.array n e)) (he : P.underlying e = some (.int k)) (hz : (P.info? e).map (·.size) = some 1) (hn : n = l.length) (hi : i < n) :
    (Instr.index t (.agg (nats k l).toArray) (.int ik (i : Int))).run P w = .ok (.int k ((l.getD i 0 : Nat) : Int)) w := by
  subst hn
  cases hq : P.info? e with
  | none => simp [hq] at hz
  | some x =>
    have hx : x.size = 1 := by simpa [hq] using hz
    have hc := Blk.nats_at k l i hi
    have hi' : (0 : Int) ≤ (i : Int) ∧ (i : Int) < (l.length : Int) := ⟨by omega, by omega⟩
    have hag : (isAgg e).run P w = .ok false w := by simp [isAgg, run_underlying he]
    have hc2 : (l.getD i 0) = l[i] := by rw [List.getD_eq_getElem?_getD, List.getElem?_eq_getElem hi]; rfl
    rw [hc2] at hc ⊢
    simp [Instr.index, asIntOf, run_underlying ht, sizeOf, typeInfo, hq, hx, part, hi, hc, hag]
theorem index_wp {P : Program} {w : World} {ops : Array Oper} {rest : List Oper} {o : Oper} {a : Act} {Q : Exit → Act → World → Prop} (hgd : o.guard = none) (t e : TypeId) (x y : Operand) (ho : o.op = .index t x y)
    (n : Nat) (k ik : IntKind) (l : List Nat) (i : Nat) (hx : a.eval x = .agg (nats k l).toArray) (hy : a.eval y = .int ik (i : Int)) (ht : P.underlying t = some (.array n e)) (he : P.underlying e = some (.int k)) (hz : (P.info? e).map (·.size) = some 1) (hn : n = l.length) (hi : i < n) (v : Nat) (hv : l.getD i 0 = v)
    (h : wpList P ops Q rest (a.put o.dst (.int k (v : Int))) w) : wpList P ops Q (o :: rest) a w := by
  refine wpList_plain hgd fun K hK => ?_
  have hrun := run_index (P := P) t e n k ik l i w ht he hz hn hi
  rw [hv] at hrun
  unfold Oper.wp
  simp [execOp, ho, hx, hy, hrun, Result.andThen]
  exact hK _ _ h
theorem new_bytes (w : World) (l : List Nat) (t : TypeId) : ∀ j u, (nats .u8 l)[j]? = some u → (w.alloc (.cells (nats .u8 l).toArray t)).cell? ((⟨w.heap.size, 0, none⟩ : Addr).add j) = some u := by
  intro j u hj
  rw [zero_add, (Blk.new w (nats .u8 l) t).cell]
  exact hj
/-- The four bytes of a word. -/
def four (x : Nat) : List Nat := [x / 16777216, x / 65536 % 256, x / 256 % 256, x % 256]
theorem four_is (x : Nat) (h : x < 4294967296) : four x = big x 4 := by
  rw [big4, Nat.div_one]
  unfold four
  rw [Nat.mod_eq_of_lt (show x / 16777216 < 256 by omega)]
theorem big_length (n k : Nat) : (big n k).length = k := by simp [big]
/-- What is left till the length comes. -/
def left (w : World) (b : Nat) : Nat := match w.cell? ⟨b, 73, none⟩ with
  | some (.int _ n) => (120 - n.toNat % 64) % 64
  | _ => 0
theorem Under.n {w : World} {b : Nat} {L : List UInt8} (h : Under w b (nat L)) : w.cell? ⟨b, 73, none⟩ = some (.int .i64 (L.length : Int)) := by
  obtain ⟨r, hF, h⟩ := h
  rw [h.cell, cellsOf_n _ _ (blocks_ok _ _).1 hF.len, List.length_map]
theorem Under.left {w : World} {b : Nat} {L : List UInt8} (h : Under w b (nat L)) : left w b = (120 - L.length % 64) % 64 := by
  unfold Sha.left
  rw [h.n]
  simp
/-- The first bytes of a number that is laid out in eight. -/
def fill (n : Nat) : Nat → List Nat
  | 0 => List.replicate 8 0
  | k + 1 => (fill n k).set k (n / 256 ^ (7 - k) % 256)
theorem fill_length (n k : Nat) : (fill n k).length = 8 := by
  induction k with
  | zero => rfl
  | succ k ih => simp [fill, ih]
theorem fill_zero (n : Nat) : fill n 0 = List.replicate 8 0 := rfl
theorem fill_succ (n k : Nat) : fill n (k + 1) = (fill n k).set k (n / 256 ^ (7 - k) % 256) := rfl
theorem fill_all (n : Nat) : fill n 8 = big n 8 := rfl
theorem shr_bytes (m k : Nat) (hk : k < 8) : 8 * (m : Int) / 2 ^ (56 - 8 * k) % 256 = ((8 * m / 256 ^ (7 - k) % 256 : Nat) : Int) := by
  have e2 : (256 ^ (7 - k) : Nat) = 2 ^ (56 - 8 * k) := by
    rw [show (256 : Nat) = 2 ^ 8 from rfl, ← Nat.pow_mul]
    congr 1
    omega
  rw [e2]
  simp
attribute [local irreducible] mixed blocks first fill outs sum padded
set_option maxHeartbeats 4000000 in
set_option maxRecDepth 100000 in
theorem told_any (M : List UInt8) (b : Nat) (w : World) (hM : M.length < 576460752303423488) (hU : Under w b (nat M)) :
    Calls Tryz.prog 228 #[.pointer (some ⟨b, 0, none⟩)] w fun e w' => e = .returned (Byt.text (sum (nat M))) ∧ Below w.heap.size w w' := by
  have HM := Lib.hid hM
  clear hM
  have HU := Lib.hid hU
  obtain ⟨rest, hF, b0⟩ := hU
  have hn8 := (blocks_ok (nat M) ((nat M).length / 64)).1
  have hnl : (nat M).length = M.length := List.length_map _
  rw [hnl] at b0 hn8
  have a0 : w.cell? ⟨b, 0, none⟩ = some (.bool true) := b0.cell 0
  have hbl := b0.lt
  have B0 := Lib.hid b0
  have HF := Lib.hid hF
  have HN8 := Lib.hid hn8
  have HNL := Lib.hid hnl
  clear b0 hF hn8 hnl
  go_enter Tryz.func228, Tryz.ntmps228
  go_wp2_with (first | (refine Blk.load_row 385 (.tmp 19) rfl (by rfl) b rfl 385 (cellsOf true (blocks (nat M) (M.length / 64)) rest M.length) _ B0.out Tryz.underlying385 rfl (by rw [cellsOf_length HN8.out HF.out.len]; kernel_rfl) ?_) | (refine Blk.store_row 385 (.tmp 3) (.tmp 20) rfl rfl w.heap.size 0 (cellsOf true (blocks (nat M) (M.length / 64)) rest M.length) rfl rfl (Blk.new w (cellsOf false (List.replicate 8 0) (List.replicate 64 0) 0) 385) (by rw [cellsOf_length HN8.out HF.out.len, cellsOf_length rfl rfl]; decide) (by rw [cellsOf_length HN8.out HF.out.len]; kernel_rfl) (cellsOf_one _ _ _ _) ?_))
  obtain ⟨W, hW⟩ : ∃ W, W = (w.alloc (.cells (cellsOf false (List.replicate 8 0) (List.replicate 64 0) 0).toArray 385)).setCells w.heap.size 0 (cellsOf true (blocks (nat M) (M.length / 64)) rest M.length) := ⟨_, rfl⟩
  show Calls Tryz.prog 227 _ ((w.alloc (.cells (cellsOf false (List.replicate 8 0) (List.replicate 64 0) 0).toArray 385)).setCells w.heap.size 0 (cellsOf true (blocks (nat M) (M.length / 64)) rest M.length)) _
  have c0 : Blk.Is W w.heap.size (cellsOf true (blocks (nat M) (M.length / 64)) rest M.length) 385 := by
    rw [hW]
    have h := Blk.Is.setCells (cellsOf true (blocks (nat M) (M.length / 64)) rest M.length) (Blk.new w (cellsOf false (List.replicate 8 0) (List.replicate 64 0) 0) 385) 0 (by rw [cellsOf_length HN8.out HF.out.len, cellsOf_length rfl rfl]; decide)
    rwa [Blk.put_all _ _ (by rw [cellsOf_length HN8.out HF.out.len, cellsOf_length rfl rfl])] at h
  have k0 : Below w.heap.size w W := by
    rw [hW]
    exact Blk.below_setCells _ ((Below.refl _ _).alloc (Nat.le_refl _) _) (Nat.le_refl _) 0
  rw [← hW]
  clear hW
  have u0 : Under W w.heap.size (nat M) := ⟨rest, HF.out, by rw [HNL.out]; exact c0⟩
  obtain ⟨c, hc⟩ : ∃ c, c = w.heap.size := ⟨_, rfl⟩
  rw [← hc] at u0 ⊢
  have hbc : b < c := by rw [hc]; exact hbl
  have HC := Lib.hid hc
  clear hc c0 hbl
  refine (add_any M [128] c W (by have := HM.out; simp; omega) u0).mono ?_
  rintro e W1 ⟨rfl, u1, o1⟩
  have k1 : Below w.heap.size w W1 := k0.trans (o1.below (by rw [HC.out]; exact Nat.le_refl _) k0.size)
  clear u0 k0 o1
  go_wp2_with fail
  obtain ⟨t, ht⟩ : ∃ t, t = (119 - M.length % 64) % 64 := ⟨_, rfl⟩
  have HT := Lib.hid ht
  clear ht
  go_loopw [] (fun wr => ∃ j : Nat, j ≤ t ∧ Under wr c (nat (M ++ [128] ++ List.replicate j 0)) ∧ Below w.heap.size w wr)
    (fun wr => left wr c)
  case atStart => exact ⟨0, by omega, by simpa using u1, k1⟩
  case round =>
    clear u1 k1
    obtain ⟨j, hj, u1, k1⟩ := hrel
    have hn := u1.n
    have hl : (M ++ [128] ++ List.replicate j (0 : UInt8)).length = M.length + 1 + j := by simp; omega
    rw [hl] at hn
    have hM := HM.out
    have hT := HT.out
    have hC := HC.out
    by_cases h56 : (M.length + 1 + j) % 64 = 56
    · have hd : (((M.length + 1 + j : Nat) : Int) % 64 == 56) = true := by rw [beq_iff_eq]; omega
      have hjt : j = t := by omega
      have hl56 : (M ++ [128] ++ List.replicate j (0 : UInt8)).length % 64 = 56 := by rw [hl]; exact h56
      rw [hjt] at u1 hl56
      obtain ⟨L, hL⟩ : ∃ L, L = M ++ [128] ++ List.replicate t (0 : UInt8) := ⟨_, rfl⟩
      rw [← hL] at u1 hl56
      have hlt : L.length < 576460752303423488 + 65 := by rw [hL]; simp; omega
      have HLt := Lib.hid hlt
      have HLL := Lib.hid hL
      have HL56 := Lib.hid hl56
      have b1 : wr.cell? ⟨b, 73, none⟩ = some (.int .i64 (M.length : Int)) := by
        have h := HU.out.n
        rw [← h]
        exact k1.cell (show b < w.heap.size by omega)
      have hsz : w.heap.size < wr.heap.size := by
        obtain ⟨_, _, h⟩ := u1
        have := h.lt
        omega
      have HJ := Lib.hid hjt
      clear hM hT hC hL hl56 hjt hl hlt h56
      go_wp2
      obtain ⟨g8, hg8⟩ : ∃ g, g = wr.heap.size := ⟨_, rfl⟩
      rw [← hg8]
      rw [← hg8] at hsz
      have HG8 := Lib.hid hg8
      clear hg8
      go_loopw [27] (fun i wl => ∃ k : Nat, k ≤ 8 ∧ i = .int .i64 k ∧ Under wl c (nat L) ∧ wl.cell? ⟨b, 73, none⟩ = some (.int .i64 (M.length : Int)) ∧ Blk.Is wl g8 (nats .u8 (fill (8 * M.length) k)) 387 ∧ Below w.heap.size w wl)
        (fun i _ => 8 - (intOf i).toNat)
      case atStart =>
        refine ⟨0, by omega, rfl, u1.below ((Below.refl _ _).alloc (Nat.le_refl _) _), ?_, by rw [fill_zero, HG8.out]; exact Blk.new wr (nats .u8 (List.replicate 8 0)) 387, k1.alloc k1.size _⟩
        rw [← b1]
        exact (Below.alloc (Below.refl wr.heap.size wr) (Nat.le_refl _) _).cell (show b < wr.heap.size by have := HC.out; have := HG8.out; omega)
      case round =>
        clear b1 k1 u1 hn
        obtain ⟨k, hk, rfl, u1, b1, c1, k1⟩ := hrel
        by_cases hk8 : k < 8
        · have hMl := HM.out
          have hsh := Lib.hid (shr_bytes M.length k hk8)
          have f := c1.frozen k
          have c1k := c1.nat k (by rw [fill_length]; exact hk8)
          have HS := fill_succ (8 * M.length) k
          have HS := Lib.hid HS
          have C1 := Lib.hid c1
          clear c1
          go_wp2
          go_roundw
          case rel =>
            refine ⟨k + 1, by omega, by go_num, u1.only ((Only.refl g8 wr).setCell rfl _) (by have := HC.out; omega), ?_, ?_, k1.setCell (by simp; omega) _⟩
            · rw [World.cell?_of_block (w := wr) (Below.heap_setCell wr _ _ b (show b ≠ g8 by have := HC.out; omega))]
              exact b1
            · rw [HS.out, hsh.out]
              exact C1.out.setNat k _
          case measure => simp [intOf]; omega
        · have hk8' : k = 8 := by omega
          have c1 : Blk.Is wr g8 (nats .u8 (big (8 * M.length) 8)) 387 := by
            rw [← fill_all]
            rw [hk8'] at c1
            exact c1
          obtain ⟨l8, hl8⟩ : ∃ l : List UInt8, nat l = big (8 * M.length) 8 := ⟨(big (8 * M.length) 8).map UInt8.ofNat, nat_ofNat _ (big_lt _ _)⟩
          have hl8l : l8.length = 8 := by
            have : (nat l8).length = 8 := by rw [hl8]; rfl
            simpa using this
          rw [← hl8] at c1
          have HL8 := Lib.hid hl8
          have HL8L := Lib.hid hl8l
          clear hk8' hl8 hl8l b1
          go_wp2_with (refine text_block kit rfl (.tmp 43) rfl g8 8 8 l8 rfl HL8L.out.symm c1 ?_)
          refine (add_any L l8 c wr (by rw [HL8L.out]; have := HLt.out; omega) u1).mono ?_
          rintro e W3 ⟨rfl, u3, o3⟩
          have k3 : Below w.heap.size w W3 := k1.trans (o3.below (by rw [HC.out]; exact Nat.le_refl _) k1.size)
          have hsz3 : w.heap.size < W3.heap.size := by
            have := o3.size
            have := c1.lt
            omega
          have hpad : nat (L ++ l8) = padded (nat M) := by
            have e1 : nat (L ++ l8) = nat L ++ nat l8 := List.map_append
            have e2 : nat L = nat M ++ [128] ++ List.replicate t 0 := by rw [HLL.out]; simp [nat]
            rw [e1, HL8.out, e2, HT.out]
            unfold padded
            rw [HNL.out]
          rw [hpad] at u3
          clear c1 u1 k1 o3 hpad
          obtain ⟨pad, hpd⟩ : ∃ p, p = padded (nat M) := ⟨_, rfl⟩
          rw [← hpd] at u3
          have HPD := Lib.hid hpd
          clear hpd
          obtain ⟨r3, hF3, b3⟩ := u3
          have hw8 := blocks_ok pad (pad.length / 64)
          generalize hws : blocks pad (pad.length / 64) = ws at b3 hw8
          have r1 : W3.rangeAt c 1 (nats .u32 ws) := b3.range 1 _ (fun j v hv => cellsOf_words _ _ j v hv)
          have HWS := Lib.hid hws
          have B3 := Lib.hid b3
          have HW8 := Lib.hid hw8
          have R1 := Lib.hid r1
          clear hws b3 hw8 hF3 r1
          go_wp2_with (first | (refine wpList_make_own _ rfl (.const (.int .i64 0)) (.const (.int .i64 32)) 74 rfl w.heap.size 5 _ (.int .u8 0) 1 rfl rfl rfl rfl .i64 .i64 32 32 rfl rfl rfl (by decide) (by decide) k3.size ?_) | fail)
          intro w4 hr4 hg4
          have k4 : Below w.heap.size w w4 := k3.grown hg4 k3.size (by simp)
          have r4 : w4.rangeAt c 1 (nats .u32 ws) := range_keep R1.out (hg4.block c B3.out.lt (by simp))
          have row4 : Byt.Row w4 w.heap.size 5 (.slice (some ⟨W3.heap.size, 0, none⟩) 0 32) (outs ws 0) := by rw [outs_zero]; exact hr4
          have hsz4 : w.heap.size < w4.heap.size := Nat.lt_of_lt_of_le hsz3 hg4.size
          have R4 := Lib.hid r4
          clear hr4 hg4 k3 hsz3 r4
          go_wp2_with (first | (refine wpList_load_mid rfl 381 (.tmp 47) rfl c 1 rfl (nats .u32 ws) _ R4.out Tryz.underlying381 rfl (by rw [Blk.nats_length, HW8.out.1]; kernel_rfl) ?_) | fail)
          go_loopw [6, 49] (fun v i wl => ∃ n : Nat, n ≤ 8 ∧ i = .int .i64 n ∧ Byt.Row wl w.heap.size 5 v (outs ws n) ∧ Below w.heap.size w wl ∧ w.heap.size < wl.heap.size)
            (fun _ i _ => 8 - (intOf i).toNat)
          case atStart => exact ⟨0, by omega, rfl, row4, k4, hsz4⟩
          case round =>
            clear row4 k4 hsz4
            obtain ⟨n, hn, rfl, row, k4, hsz4⟩ := hrel
            by_cases hn8 : n < 8
            · have hw32 := HW8.out.2 n
              obtain ⟨x, hx⟩ : ∃ x, ws.getD n 0 = x := ⟨_, rfl⟩
              have hx32 : x < 4294967296 := by rw [← hx]; exact hw32
              have HX := Lib.hid hx
              have hol := outs_length ws n (by rw [HW8.out.1]; exact hn)
              have HOL := Lib.hid hol
              clear hx hw32 hol
              go_wp2_with (first | (refine index_wp rfl 381 309 (.tmp 48) (.tmp 49) rfl 8 .u32 .i64 ws n rfl rfl rfl rfl (by kernel_rfl) HW8.out.1.symm hn8 x HX.out ?_) | (refine Byt.append_wp kit rfl (.tmp 52) (.tmp 64) rfl w.heap.size _ (outs ws n) rfl (row.alloc _) ⟨wr.heap.size, 0, none⟩ 4 (four x) rfl (new_bytes wr (four x) 5) (by rw [HOL.out]; show _ + 4 ≤ _; omega) (by simp; omega) ?_))
              intro v5 w5 row5 hg5
              have k5 : Below w.heap.size w w5 := (k4.alloc k4.size _).grown hg5 (by simp; omega) (fun k hk => (row.lt k hk).1)
              have hsz5 : w.heap.size < w5.heap.size := by have := hg5.size; simp at this; omega
              have row6 : Byt.Row w5 w.heap.size 5 v5 (outs ws (n + 1)) := by
                rw [outs_succ ws n (by rw [HW8.out.1]; exact hn8), HX.out, ← four_is x hx32]
                exact row5
              clear row5 hg5
              go_wp2
              go_roundw
              case rel => exact ⟨n + 1, by omega, by go_num, row6, k5, hsz5⟩
              case measure => simp [intOf]; omega
            · have hn8' : n = 8 := by omega
              rw [hn8', outs_all ws HW8.out.1] at row
              have hend : (ws.flatMap fun x => big x 4) = sum (nat M) := by
                unfold sum
                rw [← HPD.out, HWS.out]
              rw [hend] at row
              have hlt : ∀ y ∈ sum (nat M), y < 256 := by
                rw [← hend]
                intro y hy
                obtain ⟨z, _, hz⟩ := List.mem_flatMap.1 hy
                exact big_lt _ _ y hz
              have HLT := Lib.hid hlt
              clear hend hlt hn8'
              go_wp2_with (refine Byt.text_wp kit rfl (.tmp 67) rfl rfl row HLT.out ?_)
              exact bodyPost_ret (results_tmp rfl _ _ _) rfl ⟨rfl, k4⟩
    · have hd : (((M.length + 1 + j : Nat) : Int) % 64 == 56) = false := by rw [beq_eq_false_iff_ne]; omega
      have HMl := Lib.hid u1.left
      clear hM hT hC
      go_wp2_with fail
      refine (add_any _ [0] c wr (by rw [hl]; have := HM.out; have := HT.out; simp; omega) u1).mono ?_
      rintro e W2 ⟨rfl, u2, o2⟩
      go_wp2
      go_roundw
      case rel => exact ⟨j + 1, by have := HT.out; omega, by simpa [List.replicate_succ'] using u2, k1.trans (o2.below (by rw [HC.out]; exact Nat.le_refl _) k1.size)⟩
      case measure =>
        rw [u2.left, HMl.out, List.length_append, hl]
        simp
        omega
end Go.Proofs.YtphfjhpgcdmonaaGreatDoor.Sha
