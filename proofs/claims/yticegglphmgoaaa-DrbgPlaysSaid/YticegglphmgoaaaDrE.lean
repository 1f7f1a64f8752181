/- The document's source of bytes. Conditions: those that are named. -/
import Derived.Test.YticegglphmgoaaaDrD
namespace Go.Proofs.Yticegglphmgoaaa.Sha
open Go.RowKit
open Blk (nats)
/-- One result, a struct that lies in a block. -/
theorem results_row {P : Program} {fn : Func} {p : Tmp} {ty : TypeId} (h : fn.results = #[.cell p ty]) (tmps : Array Value) (w : World) (g : Nat) (t : TypeId) (cs : List Value) (hp : tmps.getD p undef = .pointer (some ⟨g, 0, none⟩)) (hg : Blk.Is w g cs t) (d : TypeDesc)
    (hu : P.underlying ty = some d) (hd : (match d with | .struct _ | .array _ _ => true | _ => false) = true) (hi : (P.info? ty).map (·.size) = some cs.length) : (results fn tmps).run P w = .ok (.agg cs.toArray) w := by
  simp only [results, h]
  simp only [Array.getD_eq_getD_getElem?] at hp
  simp [hp, asAddr, run_loadVar_row w g t ty cs.toArray (0, 0) d hg hu hd (by simpa using hi)]
/-- Two results, the first of them a struct that lies in a block. -/
theorem results_row2 {P : Program} {fn : Func} {p u : Tmp} {ty : TypeId} (h : fn.results = #[.cell p ty, .tmp u]) (tmps : Array Value) (w : World) (g : Nat) (t : TypeId) (cs : List Value) (hp : tmps.getD p undef = .pointer (some ⟨g, 0, none⟩)) (hg : Blk.Is w g cs t) (d : TypeDesc)
    (hu : P.underlying ty = some d) (hd : (match d with | .struct _ | .array _ _ => true | _ => false) = true) (hi : (P.info? ty).map (·.size) = some cs.length) (v : Value) (hv : tmps.getD u undef = v) : (results fn tmps).run P w = .ok (.tuple #[.agg cs.toArray, v]) w := by
  subst hv
  rw [results_cell_tmp h, hp]
  simp [asAddr, Result.andThen, run_loadVar_row w g t ty cs.toArray (0, 0) d hg hu hd (by simpa using hi)]
/-- Three results, the first of them a struct that lies in a block. -/
theorem results_row3 {P : Program} {fn : Func} {p u q : Tmp} {ty : TypeId} (h : fn.results = #[.cell p ty, .tmp u, .tmp q]) (tmps : Array Value) (w : World) (g : Nat) (t : TypeId) (cs : List Value) (hp : tmps.getD p undef = .pointer (some ⟨g, 0, none⟩)) (hg : Blk.Is w g cs t) (d : TypeDesc)
    (hu : P.underlying ty = some d) (hd : (match d with | .struct _ | .array _ _ => true | _ => false) = true) (hi : (P.info? ty).map (·.size) = some cs.length) (v : Value) (hv : tmps.getD u undef = v) (x : Value) (hx : tmps.getD q undef = x) : (results fn tmps).run P w = .ok (.tuple #[.agg cs.toArray, v, x]) w := by
  subst hv hx
  simp only [results, h]
  simp only [Array.getD_eq_getD_getElem?] at hp
  simp [Result.andThen, hp, asAddr, run_loadVar_row w g t ty cs.toArray (0, 0) d hg hu hd (by simpa using hi)]
theorem sc_one (k v : List UInt8) (n : Int) : (sc k v n).toArray.all (·.oneCell') = true :=
  all_oneCell_toArray (fun v hv => by
    simp only [List.mem_cons, List.not_mem_nil, or_false] at hv
    rcases hv with rfl | rfl | rfl <;> rfl)
theorem put_sc (k v k' v' : List UInt8) (n n' : Int) : Blk.put (sc k v n) 0 (sc k' v' n') = sc k' v' n' := Blk.put_all _ _ rfl
/-- A source as a struct. -/
abbrev sv (k v : List UInt8) (n : Int) : Value := .agg (sc k v n).toArray
attribute [local irreducible] hmac stir stir1 dbv dbo told served dba
set_option maxHeartbeats 4000000 in
set_option maxRecDepth 100000 in
theorem of_any (c : Nat) (hc : c < 256) (w : World) : Calls Try.prog 69 #[.int .u8 c] w fun e w' => e = .returned (.string ⟨(List.replicate 32 (UInt8.ofNat c)).toArray⟩) ∧ Below w.heap.size w w' := by
  go_enter Try.func69, Try.ntmps69
  go_wp2_with (first | (refine Byt.make_wp kit rfl (.const (.int .i64 32)) (.const (.int .i64 32)) rfl .i64 .i64 32 32 rfl rfl rfl (by decide) ?_) | fail)
  intro w1 i1 k1 z1
  obtain ⟨g, hg⟩ : ∃ g, g = w.heap.size := ⟨_, rfl⟩
  rw [← hg] at i1 ⊢
  rw [← Byt.filled_zero c 32] at i1
  have HG := Lib.hid hg
  clear hg z1
  go_wp2_with fail
  go_loopw [4] (fun i wr => ∃ k : Nat, k ≤ 32 ∧ i = .int .i64 k ∧ Blk.Is wr g (nats .u8 (Byt.filled c 32 k)) 5 ∧ Below w.heap.size w wr)
    (fun i _ => 32 - (intOf i).toNat)
  case atStart => exact ⟨0, by omega, rfl, i1, k1⟩
  case round =>
    clear i1 k1
    obtain ⟨k, hk, rfl, i2, k2⟩ := hrel
    have hl := Byt.filled_length c 32 k hk
    by_cases hlt : k < 32
    · have f := i2.frozen k
      have h := i2.nat k (by rw [hl]; exact hlt)
      generalize (Byt.filled c 32 k).getD k 0 = x at h
      have HS := Lib.hid (Byt.filled_set c 32 k hlt)
      have I2 := Lib.hid i2
      clear i2 hl
      go_wp2
      go_roundw
      case rel =>
        refine ⟨k + 1, by omega, by go_num, ?_, k2.setCell (by rw [HG.out]; exact Nat.le_refl _) _⟩
        rw [← HS.out]
        exact I2.out.setNat k _
      case measure => simp [intOf]; omega
    · obtain rfl : k = 32 := by omega
      rw [Byt.filled_all] at i2
      have r2 : wr.rangeAt g 0 (nats .u8 (List.replicate 32 c)) := i2.range 0 _ (fun j v hj => by rw [Nat.zero_add]; exact hj)
      have HT := Lib.hid (Byt.replicate_lt (n := 32) hc)
      have R2 := Lib.hid r2
      clear i2 hl r2
      obtain ⟨l, hll⟩ : ∃ l, List.replicate 32 c = l := ⟨_, rfl⟩
      have HE := Lib.hid hll
      rw [hll] at R2 HT
      have HL : Hid (32 = l.length) := Lib.hid (by rw [← hll, List.length_replicate])
      have HQ : Hid (Byt.text l = .string ⟨(List.replicate 32 (UInt8.ofNat c)).toArray⟩) := Lib.hid (by rw [← hll]; unfold Byt.text; rw [List.map_replicate])
      clear hll
      go_wp2_with (first | (refine Byt.text_at_wp kit rfl (.tmp 16) rfl g 0 32 32 rfl l R2.out HL.out HT.out ?_) | fail)
      rw [HQ.out]
      go_wp2
      exact bodyPost_ret (results_tmp rfl _ _ _) rfl ⟨rfl, k2⟩
set_option maxHeartbeats 4000000 in
set_option maxRecDepth 100000 in
theorem stirred_nil (k v x : List UInt8) (n : Int) (w : World) (hk : k.length ≤ 64) (hv : v.length ≤ 64) (hx : x.length < 274877906944) (hne : x = []) :
    Calls Try.prog 68 #[sv k v n, .string ⟨x.toArray⟩] w fun e w' => e = .returned (sv (stir (k, v) x).1 (stir (k, v) x).2 n) ∧ Below w.heap.size w w' := by
  have d5 : (x != []) = false := by simpa using hne
  have d6 : x.isEmpty = true := by simpa using hne
  have HNE := Lib.hid hne
  obtain ⟨s0, hs0⟩ : ∃ s, v ++ [0] = s := ⟨_, rfl⟩
  obtain ⟨s1, hs1⟩ : ∃ s, s0 ++ x = s := ⟨_, rfl⟩
  have l0 : s0.length = v.length + 1 := by rw [← hs0]; simp
  have l1 : s1.length = s0.length + x.length := by rw [← hs1]; simp
  have HC0 := Lib.hid (cat_bytes v [0])
  have HC1 := Lib.hid (cat_bytes s0 x)
  rw [hs0] at HC0
  rw [hs1] at HC1
  have HS1 : Hid (v ++ ([0] ++ x) = s1) := Lib.hid (by rw [← hs1, ← hs0, List.append_assoc])
  clear hs0 hs1 hne
  go_enter Try.func68, Try.ntmps68
  go_upto_region 1 with (fail)
  obtain ⟨c, hc⟩ : ∃ c, c = w.heap.size := ⟨_, rfl⟩
  obtain ⟨g, hg⟩ : ∃ g, g = w.heap.size + 1 := ⟨_, rfl⟩
  have k0 : Below w.heap.size w ((w.alloc (.cells (sc k v n).toArray 64)).alloc (.cells (sc [] [] 0).toArray 64)) := ((Below.refl _ _).alloc (Nat.le_refl _) _).alloc (by simp) _
  have i0 : Blk.Is ((w.alloc (.cells (sc k v n).toArray 64)).alloc (.cells (sc [] [] 0).toArray 64)) c (sc k v n) 64 := by
    rw [hc]
    exact (Blk.new w _ 64).alloc _
  have j0 : Blk.Is ((w.alloc (.cells (sc k v n).toArray 64)).alloc (.cells (sc [] [] 0).toArray 64)) g (sc [] [] 0) 64 := by
    rw [hg]
    exact Blk.new' _ _ 64 _ (by simp)
  rw [← hg, ← hc]
  generalize (w.alloc (.cells (sc k v n).toArray 64)).alloc (.cells (sc [] [] 0).toArray 64) = W at k0 i0 j0 ⊢
  have hwg : w.heap.size ≤ g := by omega
  clear hc hg
  have c0 : W.cell? ⟨c, 0, none⟩ = some (.string ⟨k.toArray⟩) := i0.cell 0
  have c1 : W.cell? ⟨c, 1, none⟩ = some (.string ⟨v.toArray⟩) := i0.cell 1
  have I0 := Lib.hid i0
  have J0 := Lib.hid j0
  clear i0 j0
  go_wp2_with fail
  rw [show (⟨v.toArray⟩ : ByteArray) ++ ⟨#[0]⟩ = ⟨s0.toArray⟩ from HC0.out, HC1.out]
  refine (rhsum_any k s1 _ (by omega) (by omega)).mono ?_
  rintro e w1 ⟨rfl, k1⟩
  generalize hq1 : hmac k s1 = q1
  have HQ1 := Lib.hid hq1
  have lq1 : q1.length = 32 := by rw [← hq1]; exact hmac_length _ _
  have I1 := Lib.hid (I0.out.below k1)
  have J1 := Lib.hid (J0.out.below k1)
  have k1 := k0.trans (k1.mono k0.size)
  have c1 : w1.cell? ⟨c, 1, none⟩ = some (.string ⟨v.toArray⟩) := I1.out.cell 1
  clear k0 I0 J0 c0 hq1
  go_wp2_with fail
  refine (rhsum_any q1 v _ (by omega) (by omega)).mono ?_
  rintro e w2 ⟨rfl, k2⟩
  generalize hr1 : hmac q1 v = r1
  have HR1 := Lib.hid hr1
  have lr1 : r1.length = 32 := by rw [← hr1]; exact hmac_length _ _
  have I2 := Lib.hid (I1.out.below k2)
  have J2 := Lib.hid (J1.out.below k2)
  have k2 := k1.trans (k2.mono k1.size)
  clear k1 I1 J1 c1 hr1
  have c2 : w2.cell? ⟨c, 2, none⟩ = some (.int .i64 n) := I2.out.cell 2
  go_wp2_with (first | (refine Blk.store_row 64 (.tmp 4) (.tmp 34) rfl rfl g 0 (sc q1 r1 n) rfl rfl J2.out (by exact Nat.le_refl 3) (by kernel_rfl) (sc_one _ _ _) ?_) | fail)
  have i9 := Blk.Is.setCells (sc q1 r1 n) J2.out 0 (by exact Nat.le_refl 3)
  rw [put_sc] at i9
  have k9 := Blk.below_setCells (sc q1 r1 n) k2 hwg 0
  exact bodyPost_ret (results_row rfl _ _ g 64 (sc q1 r1 n) rfl i9 _ Try.underlying64 rfl (by kernel_rfl)) rfl ⟨by rw [HNE.out, stir_nil, stir1_mk 0 k v [] s1 q1 r1 (by have h1 := HS1.out; rw [HNE.out] at h1; exact h1) HQ1.out HR1.out], k9⟩
set_option maxHeartbeats 4000000 in
set_option maxRecDepth 100000 in
theorem stirred_cons (k v x : List UInt8) (n : Int) (w : World) (hk : k.length ≤ 64) (hv : v.length ≤ 64) (hx : x.length < 274877906944) (hne : x ≠ []) :
    Calls Try.prog 68 #[sv k v n, .string ⟨x.toArray⟩] w fun e w' => e = .returned (sv (stir (k, v) x).1 (stir (k, v) x).2 n) ∧ Below w.heap.size w w' := by
  have d5 : (x != []) = true := by simpa using hne
  have d6 : x.isEmpty = false := by simpa using hne
  have HNE := Lib.hid hne
  obtain ⟨s0, hs0⟩ : ∃ s, v ++ [0] = s := ⟨_, rfl⟩
  obtain ⟨s1, hs1⟩ : ∃ s, s0 ++ x = s := ⟨_, rfl⟩
  have l0 : s0.length = v.length + 1 := by rw [← hs0]; simp
  have l1 : s1.length = s0.length + x.length := by rw [← hs1]; simp
  have HC0 := Lib.hid (cat_bytes v [0])
  have HC1 := Lib.hid (cat_bytes s0 x)
  rw [hs0] at HC0
  rw [hs1] at HC1
  have HS1 : Hid (v ++ ([0] ++ x) = s1) := Lib.hid (by rw [← hs1, ← hs0, List.append_assoc])
  clear hs0 hs1 hne
  go_enter Try.func68, Try.ntmps68
  go_upto_region 1 with (fail)
  obtain ⟨c, hc⟩ : ∃ c, c = w.heap.size := ⟨_, rfl⟩
  obtain ⟨g, hg⟩ : ∃ g, g = w.heap.size + 1 := ⟨_, rfl⟩
  have k0 : Below w.heap.size w ((w.alloc (.cells (sc k v n).toArray 64)).alloc (.cells (sc [] [] 0).toArray 64)) := ((Below.refl _ _).alloc (Nat.le_refl _) _).alloc (by simp) _
  have i0 : Blk.Is ((w.alloc (.cells (sc k v n).toArray 64)).alloc (.cells (sc [] [] 0).toArray 64)) c (sc k v n) 64 := by
    rw [hc]
    exact (Blk.new w _ 64).alloc _
  have j0 : Blk.Is ((w.alloc (.cells (sc k v n).toArray 64)).alloc (.cells (sc [] [] 0).toArray 64)) g (sc [] [] 0) 64 := by
    rw [hg]
    exact Blk.new' _ _ 64 _ (by simp)
  rw [← hg, ← hc]
  generalize (w.alloc (.cells (sc k v n).toArray 64)).alloc (.cells (sc [] [] 0).toArray 64) = W at k0 i0 j0 ⊢
  have hwg : w.heap.size ≤ g := by omega
  clear hc hg
  have c0 : W.cell? ⟨c, 0, none⟩ = some (.string ⟨k.toArray⟩) := i0.cell 0
  have c1 : W.cell? ⟨c, 1, none⟩ = some (.string ⟨v.toArray⟩) := i0.cell 1
  have I0 := Lib.hid i0
  have J0 := Lib.hid j0
  clear i0 j0
  go_wp2_with fail
  rw [show (⟨v.toArray⟩ : ByteArray) ++ ⟨#[0]⟩ = ⟨s0.toArray⟩ from HC0.out, HC1.out]
  refine (rhsum_any k s1 _ (by omega) (by omega)).mono ?_
  rintro e w1 ⟨rfl, k1⟩
  generalize hq1 : hmac k s1 = q1
  have HQ1 := Lib.hid hq1
  have lq1 : q1.length = 32 := by rw [← hq1]; exact hmac_length _ _
  have I1 := Lib.hid (I0.out.below k1)
  have J1 := Lib.hid (J0.out.below k1)
  have k1 := k0.trans (k1.mono k0.size)
  have c1 : w1.cell? ⟨c, 1, none⟩ = some (.string ⟨v.toArray⟩) := I1.out.cell 1
  clear k0 I0 J0 c0 hq1
  go_wp2_with fail
  refine (rhsum_any q1 v _ (by omega) (by omega)).mono ?_
  rintro e w2 ⟨rfl, k2⟩
  generalize hr1 : hmac q1 v = r1
  have HR1 := Lib.hid hr1
  have lr1 : r1.length = 32 := by rw [← hr1]; exact hmac_length _ _
  have I2 := Lib.hid (I1.out.below k2)
  have J2 := Lib.hid (J1.out.below k2)
  have k2 := k1.trans (k2.mono k1.size)
  clear k1 I1 J1 c1 hr1
  obtain ⟨s2, hs2⟩ : ∃ s, r1 ++ [1] = s := ⟨_, rfl⟩
  obtain ⟨s3, hs3⟩ : ∃ s, s2 ++ x = s := ⟨_, rfl⟩
  have l2 : s2.length = r1.length + 1 := by rw [← hs2]; simp
  have l3 : s3.length = s2.length + x.length := by rw [← hs3]; simp
  have HC2 := Lib.hid (cat_bytes r1 [1])
  have HC3 := Lib.hid (cat_bytes s2 x)
  rw [hs2] at HC2
  rw [hs3] at HC3
  have HS3 : Hid (r1 ++ ([1] ++ x) = s3) := Lib.hid (by rw [← hs3, ← hs2, List.append_assoc])
  clear hs2 hs3
  go_wp2_with fail
  rw [show (⟨r1.toArray⟩ : ByteArray) ++ ⟨#[1]⟩ = ⟨s2.toArray⟩ from HC2.out, HC3.out]
  refine (rhsum_any q1 s3 _ (by omega) (by omega)).mono ?_
  rintro e w3 ⟨rfl, k3⟩
  generalize hq2 : hmac q1 s3 = q2
  have HQ2 := Lib.hid hq2
  have lq2 : q2.length = 32 := by rw [← hq2]; exact hmac_length _ _
  have I3 := Lib.hid (I2.out.below k3)
  have J3 := Lib.hid (J2.out.below k3)
  have k3 := k2.trans (k3.mono k2.size)
  clear k2 I2 J2 hq2
  go_wp2_with fail
  refine (rhsum_any q2 r1 _ (by omega) (by omega)).mono ?_
  rintro e w4 ⟨rfl, k4⟩
  generalize hr2 : hmac q2 r1 = r2
  have HR2 := Lib.hid hr2
  have I4 := Lib.hid (I3.out.below k4)
  have J4 := Lib.hid (J3.out.below k4)
  have k4 := k3.trans (k4.mono k3.size)
  have c2 : w4.cell? ⟨c, 2, none⟩ = some (.int .i64 n) := I4.out.cell 2
  clear k3 I3 J3 hr2
  go_wp2_with (first | (refine Blk.store_row 64 (.tmp 4) (.tmp 34) rfl rfl g 0 (sc q2 r2 n) rfl rfl J4.out (by exact Nat.le_refl 3) (by kernel_rfl) (sc_one _ _ _) ?_) | fail)
  have i9 := Blk.Is.setCells (sc q2 r2 n) J4.out 0 (by exact Nat.le_refl 3)
  rw [put_sc] at i9
  have k9 := Blk.below_setCells (sc q2 r2 n) k4 hwg 0
  exact bodyPost_ret (results_row rfl _ _ g 64 (sc q2 r2 n) rfl i9 _ Try.underlying64 rfl (by kernel_rfl)) rfl ⟨by rw [stir_cons _ _ HNE.out, stir1_mk 0 k v x s1 q1 r1 HS1.out HQ1.out HR1.out, stir1_mk 1 q1 r1 x s3 q2 r2 HS3.out HQ2.out HR2.out], k9⟩
theorem stirred_any (k v x : List UInt8) (n : Int) (w : World) (hk : k.length ≤ 64) (hv : v.length ≤ 64) (hx : x.length < 274877906944) :
    Calls Try.prog 68 #[sv k v n, .string ⟨x.toArray⟩] w fun e w' => e = .returned (sv (stir (k, v) x).1 (stir (k, v) x).2 n) ∧ Below w.heap.size w w' := by
  by_cases h : x = []
  · exact stirred_nil k v x n w hk hv hx h
  · exact stirred_cons k v x n w hk hv hx h
set_option maxHeartbeats 4000000 in
set_option maxRecDepth 100000 in
theorem rnew_no (x : List UInt8) (w : World) (h : ¬ seedy x) : Calls Try.prog 44 #[.string ⟨x.toArray⟩] w fun e w' => e = .returned (.tuple #[sv [] [] 0, .int .i64 1]) ∧ Below w.heap.size w w' := by
  have i0 : Blk.Is (w.alloc (.cells (sc [] [] 0).toArray 64)) w.heap.size (sc [] [] 0) 64 := Blk.new w _ 64
  have k0 : Below w.heap.size w (w.alloc (.cells (sc [] [] 0).toArray 64)) := (Below.refl _ _).alloc (Nat.le_refl _) _
  have I0 := Lib.hid i0
  have HS := Lib.hid h
  clear i0 h
  go_enter Try.func44, Try.ntmps44
  go_wp2_with fail
  refine (rseed_no x _ HS.out).mono ?_
  rintro e w1 ⟨rfl, rfl⟩
  obtain ⟨g, hg⟩ : ∃ g, g = w.heap.size := ⟨_, rfl⟩
  have hwg : w.heap.size ≤ g := by omega
  rw [← hg] at I0 ⊢
  clear hg
  go_wp2_with (first | (refine Blk.store_row 64 (.tmp 2) (.tmp 7) rfl rfl g 0 (sc [] [] 0) rfl rfl I0.out (by exact Nat.le_refl 3) (by kernel_rfl) (sc_one _ _ _) ?_) | fail)
  have i9 := Blk.Is.setCells (sc [] [] 0) I0.out 0 (by exact Nat.le_refl 3)
  rw [put_sc] at i9
  have k9 := Blk.below_setCells (sc [] [] 0) k0 hwg 0
  exact bodyPost_ret (results_row2 rfl _ _ g 64 (sc [] [] 0) rfl i9 _ Try.underlying64 rfl (by kernel_rfl) _ rfl) rfl ⟨rfl, k9⟩
set_option maxHeartbeats 4000000 in
set_option maxRecDepth 100000 in
theorem rnew_yes (x : List UInt8) (w : World) (h : seedy x) : Calls Try.prog 44 #[.string ⟨x.toArray⟩] w fun e w' => e = .returned (.tuple #[sv (stir (key0, val0) x).1 (stir (key0, val0) x).2 0, .int .i64 0]) ∧ Below w.heap.size w w' := by
  have i0 : Blk.Is (w.alloc (.cells (sc [] [] 0).toArray 64)) w.heap.size (sc [] [] 0) 64 := Blk.new w _ 64
  have k0 : Below w.heap.size w (w.alloc (.cells (sc [] [] 0).toArray 64)) := (Below.refl _ _).alloc (Nat.le_refl _) _
  have I0 := Lib.hid i0
  have hx : x.length < 274877906944 := by have := h.2; omega
  have HS := Lib.hid h
  clear i0 h
  go_enter Try.func44, Try.ntmps44
  go_wp2_with fail
  refine (rseed_yes x _ HS.out).mono ?_
  rintro e w1 ⟨rfl, rfl⟩
  obtain ⟨g, hg⟩ : ∃ g, g = w.heap.size := ⟨_, rfl⟩
  have hwg : w.heap.size ≤ g := by omega
  rw [← hg] at I0 ⊢
  clear hg
  generalize w.alloc (.cells (sc [] [] 0).toArray 64) = W at k0 I0 ⊢
  have F0 := of_any 0 (by decide) W
  rw [show List.replicate 32 (UInt8.ofNat 0) = key0 from rfl] at F0
  have FF0 := Lib.hid F0
  clear F0
  go_wp2_with fail
  refine FF0.out.mono ?_
  rintro e w1 ⟨rfl, k1⟩
  have I1 := Lib.hid (I0.out.below k1)
  have k1 := k0.trans (k1.mono k0.size)
  have F1 := of_any 1 (by decide) w1
  rw [show List.replicate 32 (UInt8.ofNat 1) = val0 from rfl] at F1
  have FF1 := Lib.hid F1
  clear F1 FF0 k0 I0
  go_wp2_with fail
  refine FF1.out.mono ?_
  rintro e w2 ⟨rfl, k2⟩
  have I2 := Lib.hid (I1.out.below k2)
  have k2 := k1.trans (k2.mono k1.size)
  clear FF1 k1 I1
  have SS := stirred_any key0 val0 x 0 w2 (by decide) (by decide) hx
  generalize hq1 : (stir (key0, val0) x).1 = q1 at SS
  generalize hq2 : (stir (key0, val0) x).2 = q2 at SS
  have HQ1 := Lib.hid hq1
  have HQ2 := Lib.hid hq2
  have SH := Lib.hid SS
  clear SS hq1 hq2
  go_wp2_with fail
  refine SH.out.mono ?_
  rintro e w3 ⟨rfl, k3⟩
  have I3 := Lib.hid (I2.out.below k3)
  have k3 := k2.trans (k3.mono k2.size)
  clear SH k2 I2
  go_wp2_with (first | (refine Blk.store_row 64 (.tmp 2) (.tmp 12) rfl rfl g 0 (sc q1 q2 0) rfl rfl I3.out (by exact Nat.le_refl 3) (by kernel_rfl) (sc_one _ _ _) ?_) | fail)
  have i9 := Blk.Is.setCells (sc q1 q2 0) I3.out 0 (by exact Nat.le_refl 3)
  rw [put_sc] at i9
  have k9 := Blk.below_setCells (sc q1 q2 0) k3 hwg 0
  exact bodyPost_ret (results_row2 rfl _ _ g 64 (sc q1 q2 0) rfl i9 _ Try.underlying64 rfl (by kernel_rfl) _ rfl) rfl ⟨by rw [HQ1.out, HQ2.out]; rfl, k9⟩
end Go.Proofs.Yticegglphmgoaaa.Sha
