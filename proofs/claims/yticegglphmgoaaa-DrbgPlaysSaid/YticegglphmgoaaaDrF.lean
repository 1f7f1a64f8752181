/- The document's source of bytes: more of a seed; bytes. Conditions: those that are named. -/
import Derived.Test.YticegglphmgoaaaDrE
import Derived.BigRegion
namespace Go.Proofs.Yticegglphmgoaaa.Sha
open Go.RowKit
open Blk (nats)
attribute [local irreducible] hmac stir stir1 dbv dbo told served dba
set_option maxHeartbeats 4000000 in
set_option maxRecDepth 100000 in
theorem rreseed_no (k v x : List UInt8) (n : Int) (w : World) (h : ¬ seedy x) :
    Calls Try.prog 45 #[sv k v n, .string ⟨x.toArray⟩] w fun e w' => e = .returned (.tuple #[sv k v n, .int .i64 1]) ∧ Below w.heap.size w w' := by
  have HS := Lib.hid h
  clear h
  go_enter Try.func45, Try.ntmps45
  go_wp2_with fail
  refine (rseed_no x _ HS.out).mono ?_
  rintro e w1 ⟨rfl, rfl⟩
  obtain ⟨c, hc⟩ : ∃ c, c = w.heap.size := ⟨_, rfl⟩
  obtain ⟨g, hg⟩ : ∃ g, g = w.heap.size + 1 := ⟨_, rfl⟩
  have k0 : Below w.heap.size w ((w.alloc (.cells (sc k v n).toArray 64)).alloc (.cells (sc [] [] 0).toArray 64)) := ((Below.refl _ _).alloc (Nat.le_refl _) _).alloc (by simp) _
  have i0 : Blk.Is ((w.alloc (.cells (sc k v n).toArray 64)).alloc (.cells (sc [] [] 0).toArray 64)) c (sc k v n) 64 := by
    rw [hc]
    exact (Blk.new w _ 64).alloc _
  have j0 : Blk.Is ((w.alloc (.cells (sc k v n).toArray 64)).alloc (.cells (sc [] [] 0).toArray 64)) g (sc [] [] 0) 64 := by
    rw [hg]
    exact Blk.new' _ _ 64 _ (by simp)
  rw [← hg, ← hc]
  generalize (w.alloc (.cells (sc k v n).toArray 64)).alloc (.cells (sc [] [] 0).toArray 64) = W at k0 i0 j0 ⊢
  have hwg : w.heap.size ≤ g := by omega
  have hcg : c ≠ g := by omega
  clear hc hg
  have I0 := Lib.hid i0
  have J0 := Lib.hid j0
  clear i0 j0
  go_wp2_with (first | (refine Blk.load_row 64 (.tmp 2) rfl (by rfl) c rfl 64 (sc k v n) _ I0.out Try.underlying64 rfl (by kernel_rfl) ?_) | (refine Blk.store_row 64 (.tmp 4) (.tmp 10) rfl rfl g 0 (sc k v n) rfl rfl J0.out (by exact Nat.le_refl 3) (by kernel_rfl) (sc_one _ _ _) ?_) | fail)
  have i9 := Blk.Is.setCells (sc k v n) J0.out 0 (by exact Nat.le_refl 3)
  rw [put_sc] at i9
  have k9 := Blk.below_setCells (sc k v n) k0 hwg 0
  exact bodyPost_ret (results_row2 rfl _ _ g 64 (sc k v n) rfl i9 _ Try.underlying64 rfl (by kernel_rfl) _ rfl) rfl ⟨rfl, k9⟩
set_option maxHeartbeats 4000000 in
set_option maxRecDepth 100000 in
theorem rreseed_yes (k v x : List UInt8) (n : Int) (w : World) (hk : k.length ≤ 64) (hv : v.length ≤ 64) (h : seedy x) :
    Calls Try.prog 45 #[sv k v n, .string ⟨x.toArray⟩] w fun e w' => e = .returned (.tuple #[sv (stir (k, v) x).1 (stir (k, v) x).2 0, .int .i64 0]) ∧ Below w.heap.size w w' := by
  have hx : x.length < 274877906944 := by have := h.2; omega
  have HS := Lib.hid h
  clear h
  go_enter Try.func45, Try.ntmps45
  go_wp2_with fail
  refine (rseed_yes x _ HS.out).mono ?_
  rintro e w1 ⟨rfl, rfl⟩
  obtain ⟨c, hc⟩ : ∃ c, c = w.heap.size := ⟨_, rfl⟩
  obtain ⟨g, hg⟩ : ∃ g, g = w.heap.size + 1 := ⟨_, rfl⟩
  have k0 : Below w.heap.size w ((w.alloc (.cells (sc k v n).toArray 64)).alloc (.cells (sc [] [] 0).toArray 64)) := ((Below.refl _ _).alloc (Nat.le_refl _) _).alloc (by simp) _
  have i0 : Blk.Is ((w.alloc (.cells (sc k v n).toArray 64)).alloc (.cells (sc [] [] 0).toArray 64)) c (sc k v n) 64 := by
    rw [hc]
    exact (Blk.new w _ 64).alloc _
  have j0 : Blk.Is ((w.alloc (.cells (sc k v n).toArray 64)).alloc (.cells (sc [] [] 0).toArray 64)) g (sc [] [] 0) 64 := by
    rw [hg]
    exact Blk.new' _ _ 64 _ (by simp)
  rw [← hg, ← hc]
  generalize (w.alloc (.cells (sc k v n).toArray 64)).alloc (.cells (sc [] [] 0).toArray 64) = W at k0 i0 j0 ⊢
  have hwg : w.heap.size ≤ g := by omega
  have hcg : c ≠ g := by omega
  clear hc hg
  have I0 := Lib.hid i0
  have J0 := Lib.hid j0
  clear i0 j0
  go_wp2_with (first | (refine Blk.load_row 64 (.tmp 2) rfl (by rfl) c rfl 64 (sc k v n) _ I0.out Try.underlying64 rfl (by kernel_rfl) ?_) | fail)
  have SS := stirred_any k v x n W hk hv hx
  generalize hq1 : (stir (k, v) x).1 = q1 at SS
  generalize hq2 : (stir (k, v) x).2 = q2 at SS
  have HQ1 := Lib.hid hq1
  have HQ2 := Lib.hid hq2
  clear hq1 hq2
  refine SS.mono ?_
  rintro e w1 ⟨rfl, k1⟩
  have J1 := Lib.hid (J0.out.below k1)
  have k1 := k0.trans (k1.mono k0.size)
  clear SS I0 J0 k0
  have d2 := Blk.new w1 (sc q1 q2 n) 64
  have j3 := J1.out.alloc (.cells (sc q1 q2 n).toArray 64)
  have k3 := k1.alloc k1.size (.cells (sc q1 q2 n).toArray 64)
  obtain ⟨d, hd⟩ : ∃ d, d = w1.heap.size := ⟨_, rfl⟩
  have hwd : w.heap.size ≤ d := by rw [hd]; exact k1.size
  have hgd : g ≠ d := by have := J1.out.lt; omega
  rw [← hd] at d2
  have d3 := d2
  have HD := Lib.hid hd
  clear d2 J1 k1 hd
  go_upto_region 4 with (fail)
  rw [← HD.out]
  generalize w1.alloc (.cells (sc q1 q2 n).toArray 64) = W3 at k3 d3 j3 ⊢
  have c3 : W3.cell? ⟨d, 2, none⟩ = some (.int .i64 n) := d3.cell 2
  have f3 := d3.frozen 2
  have d4 := d3.set 2 (.int .i64 0)
  have j4 := j3.other (a := ⟨d, 2, none⟩) hgd (.int .i64 0)
  have k4 := k3.setCell (p := ⟨d, 2, none⟩) hwd (.int .i64 0)
  have D4 := Lib.hid d4
  have J4 := Lib.hid j4
  clear d3 j3 k3 d4 j4
  go_upto_region 5 with (fail)
  clear c3 f3
  generalize W3.setCell ⟨d, 2, none⟩ (.int .i64 0) = W4 at k4 D4 J4 ⊢
  have D5 : Hid (Blk.Is W4 d (sc q1 q2 0) 64) := Lib.hid D4.out
  go_wp2_with (first | (refine Blk.load_row 64 (.tmp 6) rfl (by rfl) d rfl 64 (sc q1 q2 0) _ D5.out Try.underlying64 rfl (by kernel_rfl) ?_) | (refine Blk.store_row 64 (.tmp 4) (.tmp 15) rfl rfl g 0 (sc q1 q2 0) rfl rfl J4.out (by exact Nat.le_refl 3) (by kernel_rfl) (sc_one _ _ _) ?_) | fail)
  have i9 := Blk.Is.setCells (sc q1 q2 0) J4.out 0 (by exact Nat.le_refl 3)
  rw [put_sc] at i9
  have k9 := Blk.below_setCells (sc q1 q2 0) k4 hwg 0
  exact bodyPost_ret (results_row2 rfl _ _ g 64 (sc q1 q2 0) rfl i9 _ Try.underlying64 rfl (by kernel_rfl) _ rfl) rfl ⟨by rw [HQ1.out, HQ2.out]; rfl, k9⟩
set_option maxHeartbeats 4000000 in
set_option maxRecDepth 100000 in
theorem rbytes_lo (k v x : List UInt8) (n m : Int) (w : World) (h : m < 0) :
    Calls Try.prog 47 #[sv k v n, .int .i64 m, .string ⟨x.toArray⟩] w fun e w' => e = .returned (.tuple #[sv k v n, .string ⟨#[]⟩, .int .i64 1]) ∧ Below w.heap.size w w' := by
  have d1 : decide (m < 0) = true := decide_eq_true h
  clear h
  go_enter Try.func47, Try.ntmps47
  go_upto_region 1 with (fail)
  obtain ⟨c, hc⟩ : ∃ c, c = w.heap.size := ⟨_, rfl⟩
  obtain ⟨g, hg⟩ : ∃ g, g = w.heap.size + 1 := ⟨_, rfl⟩
  have k0 : Below w.heap.size w ((w.alloc (.cells (sc k v n).toArray 64)).alloc (.cells (sc [] [] 0).toArray 64)) := ((Below.refl _ _).alloc (Nat.le_refl _) _).alloc (by simp) _
  have i0 : Blk.Is ((w.alloc (.cells (sc k v n).toArray 64)).alloc (.cells (sc [] [] 0).toArray 64)) c (sc k v n) 64 := by
    rw [hc]
    exact (Blk.new w _ 64).alloc _
  have j0 : Blk.Is ((w.alloc (.cells (sc k v n).toArray 64)).alloc (.cells (sc [] [] 0).toArray 64)) g (sc [] [] 0) 64 := by
    rw [hg]
    exact Blk.new' _ _ 64 _ (by simp)
  rw [← hg, ← hc]
  generalize (w.alloc (.cells (sc k v n).toArray 64)).alloc (.cells (sc [] [] 0).toArray 64) = W at k0 i0 j0 ⊢
  have hwg : w.heap.size ≤ g := by omega
  have hcg : c ≠ g := by omega
  clear hc hg
  have I0 := Lib.hid i0
  have J0 := Lib.hid j0
  clear i0 j0
  go_wp2_with (first | (refine Blk.load_row 64 (.tmp 3) rfl (by rfl) c rfl 64 (sc k v n) _ I0.out Try.underlying64 rfl (by kernel_rfl) ?_) | (refine Blk.store_row 64 (.tmp 6) (.tmp 22) rfl rfl g 0 (sc k v n) rfl rfl J0.out (by exact Nat.le_refl 3) (by kernel_rfl) (sc_one _ _ _) ?_) | fail)
  have i9 := Blk.Is.setCells (sc k v n) J0.out 0 (by exact Nat.le_refl 3)
  rw [put_sc] at i9
  have k9 := Blk.below_setCells (sc k v n) k0 hwg 0
  exact bodyPost_ret (results_row3 rfl _ _ g 64 (sc k v n) rfl i9 _ Try.underlying64 rfl (by kernel_rfl) _ rfl _ rfl) rfl ⟨rfl, k9⟩
set_option maxHeartbeats 4000000 in
set_option maxRecDepth 100000 in
theorem rbytes_hi (k v x : List UInt8) (n m : Int) (w : World) (h0 : ¬ m < 0) (h : m > 8192) :
    Calls Try.prog 47 #[sv k v n, .int .i64 m, .string ⟨x.toArray⟩] w fun e w' => e = .returned (.tuple #[sv k v n, .string ⟨#[]⟩, .int .i64 1]) ∧ Below w.heap.size w w' := by
  have d1 : decide (m < 0) = false := decide_eq_false h0
  have d2 : decide (m > 8192) = true := decide_eq_true h
  clear h0 h
  go_enter Try.func47, Try.ntmps47
  go_upto_region 1 with (fail)
  obtain ⟨c, hc⟩ : ∃ c, c = w.heap.size := ⟨_, rfl⟩
  obtain ⟨g, hg⟩ : ∃ g, g = w.heap.size + 1 := ⟨_, rfl⟩
  have k0 : Below w.heap.size w ((w.alloc (.cells (sc k v n).toArray 64)).alloc (.cells (sc [] [] 0).toArray 64)) := ((Below.refl _ _).alloc (Nat.le_refl _) _).alloc (by simp) _
  have i0 : Blk.Is ((w.alloc (.cells (sc k v n).toArray 64)).alloc (.cells (sc [] [] 0).toArray 64)) c (sc k v n) 64 := by
    rw [hc]
    exact (Blk.new w _ 64).alloc _
  have j0 : Blk.Is ((w.alloc (.cells (sc k v n).toArray 64)).alloc (.cells (sc [] [] 0).toArray 64)) g (sc [] [] 0) 64 := by
    rw [hg]
    exact Blk.new' _ _ 64 _ (by simp)
  rw [← hg, ← hc]
  generalize (w.alloc (.cells (sc k v n).toArray 64)).alloc (.cells (sc [] [] 0).toArray 64) = W at k0 i0 j0 ⊢
  have hwg : w.heap.size ≤ g := by omega
  have hcg : c ≠ g := by omega
  clear hc hg
  have I0 := Lib.hid i0
  have J0 := Lib.hid j0
  clear i0 j0
  go_wp2_with (first | (refine Blk.load_row 64 (.tmp 3) rfl (by rfl) c rfl 64 (sc k v n) _ I0.out Try.underlying64 rfl (by kernel_rfl) ?_) | (refine Blk.store_row 64 (.tmp 6) (.tmp 22) rfl rfl g 0 (sc k v n) rfl rfl J0.out (by exact Nat.le_refl 3) (by kernel_rfl) (sc_one _ _ _) ?_) | fail)
  have i9 := Blk.Is.setCells (sc k v n) J0.out 0 (by exact Nat.le_refl 3)
  rw [put_sc] at i9
  have k9 := Blk.below_setCells (sc k v n) k0 hwg 0
  exact bodyPost_ret (results_row3 rfl _ _ g 64 (sc k v n) rfl i9 _ Try.underlying64 rfl (by kernel_rfl) _ rfl _ rfl) rfl ⟨rfl, k9⟩
set_option maxHeartbeats 4000000 in
set_option maxRecDepth 100000 in
theorem rbytes_mo (k v x : List UInt8) (n m : Int) (w : World) (h0 : ¬ m < 0) (h1 : ¬ m > 8192) (h : x.length > 1024) :
    Calls Try.prog 47 #[sv k v n, .int .i64 m, .string ⟨x.toArray⟩] w fun e w' => e = .returned (.tuple #[sv k v n, .string ⟨#[]⟩, .int .i64 1]) ∧ Below w.heap.size w w' := by
  have d1 : decide (m < 0) = false := decide_eq_false h0
  have d2 : decide (m > 8192) = false := decide_eq_false h1
  have d3 : decide ((x.length : Int) > 1024) = true := decide_eq_true (by omega)
  clear h0 h1 h
  go_enter Try.func47, Try.ntmps47
  go_upto_region 1 with (fail)
  obtain ⟨c, hc⟩ : ∃ c, c = w.heap.size := ⟨_, rfl⟩
  obtain ⟨g, hg⟩ : ∃ g, g = w.heap.size + 1 := ⟨_, rfl⟩
  have k0 : Below w.heap.size w ((w.alloc (.cells (sc k v n).toArray 64)).alloc (.cells (sc [] [] 0).toArray 64)) := ((Below.refl _ _).alloc (Nat.le_refl _) _).alloc (by simp) _
  have i0 : Blk.Is ((w.alloc (.cells (sc k v n).toArray 64)).alloc (.cells (sc [] [] 0).toArray 64)) c (sc k v n) 64 := by
    rw [hc]
    exact (Blk.new w _ 64).alloc _
  have j0 : Blk.Is ((w.alloc (.cells (sc k v n).toArray 64)).alloc (.cells (sc [] [] 0).toArray 64)) g (sc [] [] 0) 64 := by
    rw [hg]
    exact Blk.new' _ _ 64 _ (by simp)
  rw [← hg, ← hc]
  generalize (w.alloc (.cells (sc k v n).toArray 64)).alloc (.cells (sc [] [] 0).toArray 64) = W at k0 i0 j0 ⊢
  have hwg : w.heap.size ≤ g := by omega
  have hcg : c ≠ g := by omega
  clear hc hg
  have I0 := Lib.hid i0
  have J0 := Lib.hid j0
  clear i0 j0
  go_wp2_with (first | (refine Blk.load_row 64 (.tmp 3) rfl (by rfl) c rfl 64 (sc k v n) _ I0.out Try.underlying64 rfl (by kernel_rfl) ?_) | (refine Blk.store_row 64 (.tmp 6) (.tmp 22) rfl rfl g 0 (sc k v n) rfl rfl J0.out (by exact Nat.le_refl 3) (by kernel_rfl) (sc_one _ _ _) ?_) | fail)
  have i9 := Blk.Is.setCells (sc k v n) J0.out 0 (by exact Nat.le_refl 3)
  rw [put_sc] at i9
  have k9 := Blk.below_setCells (sc k v n) k0 hwg 0
  exact bodyPost_ret (results_row3 rfl _ _ g 64 (sc k v n) rfl i9 _ Try.underlying64 rfl (by kernel_rfl) _ rfl _ rfl) rfl ⟨rfl, k9⟩
set_option maxHeartbeats 4000000 in
set_option maxRecDepth 100000 in
theorem rbytes_end (k v x : List UInt8) (n m : Int) (w : World) (ht : 1000 ≤ n) (h : asks m x) :
    Calls Try.prog 47 #[sv k v n, .int .i64 m, .string ⟨x.toArray⟩] w fun e w' => e = .returned (.tuple #[sv k v n, .string ⟨#[]⟩, .int .i64 5]) ∧ Below w.heap.size w w' := by
  have d1 : decide (m < 0) = false := decide_eq_false (by have := h.1; omega)
  have d2 : decide (m > 8192) = false := decide_eq_false (by have := h.2.1; omega)
  have d3 : decide ((x.length : Int) > 1024) = false := decide_eq_false (by have := h.2.2; omega)
  have d4 : decide (n ≥ 1000) = true := decide_eq_true ht
  clear h ht
  go_enter Try.func47, Try.ntmps47
  go_upto_region 1 with (fail)
  obtain ⟨c, hc⟩ : ∃ c, c = w.heap.size := ⟨_, rfl⟩
  obtain ⟨g, hg⟩ : ∃ g, g = w.heap.size + 1 := ⟨_, rfl⟩
  have k0 : Below w.heap.size w ((w.alloc (.cells (sc k v n).toArray 64)).alloc (.cells (sc [] [] 0).toArray 64)) := ((Below.refl _ _).alloc (Nat.le_refl _) _).alloc (by simp) _
  have i0 : Blk.Is ((w.alloc (.cells (sc k v n).toArray 64)).alloc (.cells (sc [] [] 0).toArray 64)) c (sc k v n) 64 := by
    rw [hc]
    exact (Blk.new w _ 64).alloc _
  have j0 : Blk.Is ((w.alloc (.cells (sc k v n).toArray 64)).alloc (.cells (sc [] [] 0).toArray 64)) g (sc [] [] 0) 64 := by
    rw [hg]
    exact Blk.new' _ _ 64 _ (by simp)
  rw [← hg, ← hc]
  generalize (w.alloc (.cells (sc k v n).toArray 64)).alloc (.cells (sc [] [] 0).toArray 64) = W at k0 i0 j0 ⊢
  have hwg : w.heap.size ≤ g := by omega
  have hcg : c ≠ g := by omega
  clear hc hg
  have I0 := Lib.hid i0
  have J0 := Lib.hid j0
  clear i0 j0
  have c2 : W.cell? ⟨c, 2, none⟩ = some (.int .i64 n) := I0.out.cell 2
  go_wp2_with (first | (refine Blk.load_row 64 (.tmp 3) rfl (by rfl) c rfl 64 (sc k v n) _ I0.out Try.underlying64 rfl (by kernel_rfl) ?_) | (refine Blk.store_row 64 (.tmp 6) (.tmp 26) rfl rfl g 0 (sc k v n) rfl rfl J0.out (by exact Nat.le_refl 3) (by kernel_rfl) (sc_one _ _ _) ?_) | fail)
  have i9 := Blk.Is.setCells (sc k v n) J0.out 0 (by exact Nat.le_refl 3)
  rw [put_sc] at i9
  have k9 := Blk.below_setCells (sc k v n) k0 hwg 0
  exact bodyPost_ret (results_row3 rfl _ _ g 64 (sc k v n) rfl i9 _ Try.underlying64 rfl (by kernel_rfl) _ rfl _ rfl) rfl ⟨rfl, k9⟩
theorem rbytes_no (k v x : List UInt8) (n m : Int) (w : World) (h : ¬ asks m x) :
    Calls Try.prog 47 #[sv k v n, .int .i64 m, .string ⟨x.toArray⟩] w fun e w' => e = .returned (.tuple #[sv k v n, .string ⟨#[]⟩, .int .i64 1]) ∧ Below w.heap.size w w' := by
  by_cases h0 : m < 0
  · exact rbytes_lo k v x n m w h0
  · by_cases h1 : m > 8192
    · exact rbytes_hi k v x n m w h0 h1
    · exact rbytes_mo k v x n m w h0 h1 (by unfold asks at h; omega)
set_option maxHeartbeats 8000000 in
set_option maxRecDepth 100000 in
theorem rbytes_nil (k v more k1 v1 : List UInt8) (m : Nat) (n : Int) (h0 : 0 ≤ n) (h1 : n < 1000) (w : World) (_hk : k.length = 32) (_hv : v.length = 32) (hm : m ≤ 8192) (hx : more.length ≤ 1024) (hne : more = []) (hah : dba (k, v) more = (k1, v1)) (hk1 : k1.length = 32) (hv1 : v1.length = 32) :
    Calls Try.prog 47 #[sv k v n, .int .i64 m, .string ⟨more.toArray⟩] w fun e w' => e = .returned (.tuple #[sv (served (k, v) m more).1 (served (k, v) m more).2 (n + 1), .string ⟨(told (k, v) m more).toArray⟩, .int .i64 0]) ∧ Below w.heap.size w w' := by
  have HA := Lib.hid hah
  obtain ⟨R, hR⟩ : ∃ R, rnds m = R := ⟨_, rfl⟩
  have hR1 : m ≤ 32 * R := by rw [← hR]; unfold rnds; omega
  have hR2 : 32 * R < m + 32 := by rw [← hR]; unfold rnds; omega
  have HR := Lib.hid hR
  have d1 : decide ((m : Int) < 0) = false := decide_eq_false (by omega)
  have d2 : decide ((m : Int) > 8192) = false := decide_eq_false (by omega)
  have d3 : decide ((more.length : Int) > 1024) = false := decide_eq_false (by omega)
  have d4 : decide (n ≥ 1000) = false := decide_eq_false (by omega)
  have d5 : (more != []) = false := by simpa using hne
  have d6 : more.isEmpty = true := by simpa using hne
  have HKK : Hid (k = k1 ∧ v = v1) := Lib.hid (by
    have : dba (k, v) more = (k, v) := by unfold dba; rw [if_pos hne]
    rw [this] at hah
    injection hah with a1 a2
    exact ⟨a1, a2⟩)
  clear hR hah hne
  go_enter Try.func47, Try.ntmps47
  go_upto_region 1 with (fail)
  obtain ⟨c, hc⟩ : ∃ c, c = w.heap.size := ⟨_, rfl⟩
  obtain ⟨g, hg⟩ : ∃ g, g = w.heap.size + 1 := ⟨_, rfl⟩
  have k0 : Below w.heap.size w ((w.alloc (.cells (sc k v n).toArray 64)).alloc (.cells (sc [] [] 0).toArray 64)) := ((Below.refl _ _).alloc (Nat.le_refl _) _).alloc (by simp) _
  have i0 : Blk.Is ((w.alloc (.cells (sc k v n).toArray 64)).alloc (.cells (sc [] [] 0).toArray 64)) c (sc k v n) 64 := by
    rw [hc]
    exact (Blk.new w _ 64).alloc _
  have j0 : Blk.Is ((w.alloc (.cells (sc k v n).toArray 64)).alloc (.cells (sc [] [] 0).toArray 64)) g (sc [] [] 0) 64 := by
    rw [hg]
    exact Blk.new' _ _ 64 _ (by simp)
  rw [← hg, ← hc]
  generalize (w.alloc (.cells (sc k v n).toArray 64)).alloc (.cells (sc [] [] 0).toArray 64) = W at k0 i0 j0 ⊢
  have hwg : w.heap.size ≤ g := by omega
  have hcg : c ≠ g := by omega
  clear hc hg
  have I0 := Lib.hid i0
  have J0 := Lib.hid j0
  clear i0 j0
  have c2 : W.cell? ⟨c, 2, none⟩ = some (.int .i64 n) := I0.out.cell 2
  have hcl : c < W.heap.size := I0.out.lt
  go_upto_region 6 with (first | (refine Blk.load_row 64 (.tmp 3) rfl (by rfl) c rfl 64 (sc k v n) _ I0.out Try.underlying64 rfl (by kernel_rfl) ?_) | fail)
  obtain ⟨d, hd⟩ : ∃ d, d = W.heap.size := ⟨_, rfl⟩
  have hwd : w.heap.size ≤ d := by rw [hd]; exact k0.size
  have hgd : g ≠ d := by have := J0.out.lt; omega
  have hcd : c ≠ d := by omega
  have d3' := Blk.new' W (sc k v n) 64 d hd
  have i3 := I0.out.alloc (.cells (sc k v n).toArray 64)
  have j3 := J0.out.alloc (.cells (sc k v n).toArray 64)
  have k3 := k0.alloc k0.size (.cells (sc k v n).toArray 64)
  rw [← hd]
  generalize W.alloc (.cells (sc k v n).toArray 64) = W3 at k3 d3' i3 j3 ⊢
  have D3 := Lib.hid d3'
  have I3 := Lib.hid i3
  have J3 := Lib.hid j3
  clear d3' i3 j3 k0 I0 J0 c2 hd hcl
  have K5 := k3
  have D5 : Hid (Blk.Is W3 d (sc k1 v1 n) 64) := Lib.hid (by rw [← HKK.out.1, ← HKK.out.2]; exact D3.out)
  have I5 := I3
  have J5 := J3
  clear k3 D3 I3 J3
  go_wp2_with fail
  go_loopg [10] R (fun j s wr => ∃ i : Nat, i + j = R ∧ s = .string ⟨(dbo k1 v1 i).toArray⟩ ∧ Blk.Is wr d (sc k1 (dbv k1 v1 i) n) 64 ∧ Blk.Is wr c (sc k v n) 64 ∧ Blk.Is wr g (sc [] [] 0) 64 ∧ Below w.heap.size w wr)
  case atStart => exact ⟨0, by omega, (by rw [dbo]), (by rw [dbv]; exact D5.out), I5.out, J5.out, K5⟩
  case round =>
    clear D5 I5 J5 K5
    obtain ⟨i, hij, rfl, d6', i6, j6, k6⟩ := hrel
    obtain ⟨x, hxx⟩ : ∃ x, dbv k1 v1 i = x := ⟨_, rfl⟩
    obtain ⟨y, hy⟩ : ∃ y, dbo k1 v1 i = y := ⟨_, rfl⟩
    obtain ⟨L, hL⟩ : ∃ L, L = 32 * i := ⟨_, rfl⟩
    rw [hxx] at d6'
    rw [hy]
    have hxl : x.length = 32 := by rw [← hxx]; exact dbv_length k1 v1 hv1 i
    have hyl : y.length = L := by rw [← hy, hL]; exact dbo_length k1 v1 hv1 i
    have HX := Lib.hid hxx
    have HY := Lib.hid hy
    have D6 := Lib.hid d6'
    have I6 := Lib.hid i6
    have J6 := Lib.hid j6
    have c0 : wr.cell? ⟨d, 0, none⟩ = some (.string ⟨k1.toArray⟩) := D6.out.cell 0
    have c1 : wr.cell? ⟨d, 1, none⟩ = some (.string ⟨x.toArray⟩) := D6.out.cell 1
    clear hxx hy d6' i6 j6
    by_cases hlt : i < R
    · have hcd2 : decide ((L : Int) < (m : Int)) = true := decide_eq_true (by omega)
      go_wp2_with fail
      refine (rhsum_any k1 x _ (by omega) (by omega)).mono ?_
      rintro e w7 ⟨rfl, k7⟩
      generalize hz : hmac k1 x = z
      have HZ := Lib.hid hz
      have hzl : z.length = 32 := by rw [← hz]; exact hmac_length _ _
      have d7 := D6.out.below k7
      have i7 := I6.out.below k7
      have j7 := J6.out.below k7
      have k7 := k6.trans (k7.mono k6.size)
      have c1 : w7.cell? ⟨d, 1, none⟩ = some (.string ⟨x.toArray⟩) := d7.cell 1
      have f1 := d7.frozen 1
      have d8 := d7.set 1 (.string ⟨z.toArray⟩)
      have i8 := i7.other (a := ⟨d, 1, none⟩) hcd (.string ⟨z.toArray⟩)
      have j8 := j7.other (a := ⟨d, 1, none⟩) hgd (.string ⟨z.toArray⟩)
      have k8 := k7.setCell (p := ⟨d, 1, none⟩) hwd (.string ⟨z.toArray⟩)
      have D8 := Lib.hid d8
      have I8 := Lib.hid i8
      have J8 := Lib.hid j8
      clear hz c0 k6 d7 i7 j7 k7 d8 i8 j8 D6 I6 J6
      go_wp2_with fail
      clear c1 f1
      generalize w7.setCell ⟨d, 1, none⟩ (.string ⟨z.toArray⟩) = w8 at D8 I8 J8 k8 ⊢
      have c8 : w8.cell? ⟨d, 1, none⟩ = some (.string ⟨z.toArray⟩) := D8.out.cell 1
      have hyz : y.length + z.length ≤ 140737488355328 := by omega
      have HCAT := Lib.hid (cat_bytes y z)
      have e1 := Lib.hid (dbv_succ k1 v1 x z i HX.out HZ.out)
      have e2 := Lib.hid (dbo_succ k1 v1 z y i e1.out HY.out)
      go_wp2
      go_roundg (R - (i + 1))
      case measure => omega
      case rel =>
        refine ⟨i + 1, by omega, ?_, ?_, I8.out, J8.out, k8⟩
        · rw [e2.out, ← HCAT.out]
        · rw [e1.out]
          exact D8.out
    · have hcd2 : decide ((L : Int) < (m : Int)) = false := decide_eq_false (by omega)
      obtain rfl : i = R := by omega
      clear c0 c1
      go_wp2_with (first | (refine Blk.load_row 64 (.tmp 9) rfl (by rfl) d rfl 64 (sc k1 x n) _ D6.out Try.underlying64 rfl (by kernel_rfl) ?_) | fail)
      have SS := stirred_any k1 x more n wr (by omega) (by omega) (by omega)
      rw [show stir (k1, x) more = served (k, v) m more by unfold served; rw [HA.out, HR.out, ← HX.out]] at SS
      generalize hsv : served (k, v) m more = sx at SS
      have HSV := Lib.hid hsv
      clear hsv
      refine SS.mono ?_
      rintro e w7 ⟨rfl, k7⟩
      have D7 := Lib.hid (D6.out.below k7)
      have i7 := I6.out.below k7
      have j7 := J6.out.below k7
      have k7 := k6.trans (k7.mono k6.size)
      have I7 := Lib.hid i7
      have J7 := Lib.hid j7
      clear SS i7 j7 k6 D6 I6 J6
      go_upto_region 13 with (first | (refine Blk.store_row 64 (.tmp 9) (.tmp 49) rfl rfl d 0 (sc sx.1 sx.2 n) rfl rfl D7.out (by exact Nat.le_refl 3) (by kernel_rfl) (sc_one _ _ _) ?_) | fail)
      have d8 := Blk.Is.setCells (sc sx.1 sx.2 n) D7.out 0 (by exact Nat.le_refl 3)
      rw [put_sc] at d8
      have i8 := Blk.Is.setCellsOther (sc sx.1 sx.2 n) I7.out hcd 0
      have j8 := Blk.Is.setCellsOther (sc sx.1 sx.2 n) J7.out hgd 0
      have k8 := Blk.below_setCells (sc sx.1 sx.2 n) k7 hwd 0
      generalize w7.setCells d 0 (sc sx.1 sx.2 n) = w8 at d8 i8 j8 k8 ⊢
      have c8 : w8.cell? ⟨c, 2, none⟩ = some (.int .i64 n) := i8.cell 2
      have e8 : w8.cell? ⟨d, 2, none⟩ = some (.int .i64 n) := d8.cell 2
      have f8 := d8.frozen 2
      have hn1 : n + 1 ≤ 1000 := by omega
      have d9 := d8.set 2 (.int .i64 (n + 1))
      have j9 := j8.other (a := ⟨d, 2, none⟩) hgd (.int .i64 (n + 1))
      have k9 := k8.setCell (p := ⟨d, 2, none⟩) hwd (.int .i64 (n + 1))
      have D9 : Hid (Blk.Is (w8.setCell ⟨d, 2, none⟩ (.int .i64 (n + 1))) d (sc sx.1 sx.2 (n + 1)) 64) := Lib.hid d9
      have J9 := Lib.hid j9
      clear d8 i8 j8 k8 d9 j9 D7 I7 J7 k7
      go_wp2_with fail
      clear c8 e8 f8
      generalize w8.setCell ⟨d, 2, none⟩ (.int .i64 (n + 1)) = w9 at D9 J9 k9 ⊢
      have g1 : (m : Int) ≤ (y.length : Int) := by rw [hyl]; omega
      have HT : Hid (told (k, v) m more = y.take m) := Lib.hid (by unfold told; rw [HA.out, HR.out, ← HY.out])
      have HTC := Lib.hid (text_cut y m)
      have D9a : Hid (Blk.Is w9.drew d (sc sx.1 sx.2 (n + 1)) 64) := Lib.hid D9.out
      have J9a : Hid (Blk.Is w9.drew g (sc [] [] 0) 64) := Lib.hid J9.out
      have a0 : w9.drew.cell? ⟨d, 0, none⟩ = some (.string ⟨sx.1.toArray⟩) := D9a.out.cell 0
      have a1 : w9.drew.cell? ⟨d, 1, none⟩ = some (.string ⟨sx.2.toArray⟩) := D9a.out.cell 1
      have a2 : w9.drew.cell? ⟨d, 2, none⟩ = some (.int .i64 (n + 1)) := D9a.out.cell 2
      have b0 : w9.drew.cell? ⟨g, 0, none⟩ = some (.string ⟨#[]⟩) := J9a.out.cell 0
      have b1 : w9.drew.cell? ⟨g, 1, none⟩ = some (.string ⟨#[]⟩) := J9a.out.cell 1
      have b2 : w9.drew.cell? ⟨g, 2, none⟩ = some (.int .i64 0) := J9a.out.cell 2
      have u0 := J9a.out.frozen 0
      have u1 := J9a.out.frozen 1
      have u2 := J9a.out.frozen 2
      have a0' : w9.cell? ⟨d, 0, none⟩ = some (.string ⟨sx.1.toArray⟩) := D9.out.cell 0
      have a1' : w9.cell? ⟨d, 1, none⟩ = some (.string ⟨sx.2.toArray⟩) := D9.out.cell 1
      have a2' : w9.cell? ⟨d, 2, none⟩ = some (.int .i64 (n + 1)) := D9.out.cell 2
      have b0' : w9.cell? ⟨g, 0, none⟩ = some (.string ⟨#[]⟩) := J9.out.cell 0
      have b1' : w9.cell? ⟨g, 1, none⟩ = some (.string ⟨#[]⟩) := J9.out.cell 1
      have b2' : w9.cell? ⟨g, 2, none⟩ = some (.int .i64 0) := J9.out.cell 2
      have u0' := J9.out.frozen 0
      have u1' := J9.out.frozen 1
      have u2' := J9.out.frozen 2
      have hdg : d ≠ g := fun e => hgd e.symm
      have i11 := Blk.Is.setCells (sc sx.1 sx.2 (n + 1)) J9.out 0 (by exact Nat.le_refl 3)
      rw [put_sc] at i11
      have I11 := Lib.hid i11
      have K11 := Lib.hid (Blk.below_setCells (sc sx.1 sx.2 (n + 1)) k9 hwg 0)
      clear i11 k9
      go_region
      clear a0 a1 a2 b0 b1 b2 u0 u1 u2 a0' a1' a2' b0' b1' b2' u0' u1' u2' D9 J9 D9a J9a
      have W11 : Hid (w9.setCells g 0 (sc sx.1 sx.2 (n + 1)) = ((w9.setCell ⟨g, 0, none⟩ (.string ⟨sx.1.toArray⟩)).setCell ⟨g, 1, none⟩ (.string ⟨sx.2.toArray⟩)).setCell ⟨g, 2, none⟩ (.int .i64 (n + 1))) := Lib.hid rfl
      rw [← W11.out]
      generalize w9.setCells g 0 (sc sx.1 sx.2 (n + 1)) = w11 at I11 K11 ⊢
      clear W11
      go_wp2
      exact bodyPost_ret (results_row3 rfl _ _ g 64 (sc sx.1 sx.2 (n + 1)) rfl I11.out.drew _ Try.underlying64 rfl (by kernel_rfl) _ rfl _ rfl) rfl ⟨by rw [HSV.out, HT.out, ← HTC.out]; rfl, K11.out.drew⟩
set_option maxHeartbeats 8000000 in
set_option maxRecDepth 100000 in
theorem rbytes_cons (k v more k1 v1 : List UInt8) (m : Nat) (n : Int) (h0 : 0 ≤ n) (h1 : n < 1000) (w : World) (hk : k.length = 32) (hv : v.length = 32) (hm : m ≤ 8192) (hx : more.length ≤ 1024) (hne : more ≠ []) (hah : dba (k, v) more = (k1, v1)) (hk1 : k1.length = 32) (hv1 : v1.length = 32) :
    Calls Try.prog 47 #[sv k v n, .int .i64 m, .string ⟨more.toArray⟩] w fun e w' => e = .returned (.tuple #[sv (served (k, v) m more).1 (served (k, v) m more).2 (n + 1), .string ⟨(told (k, v) m more).toArray⟩, .int .i64 0]) ∧ Below w.heap.size w w' := by
  have HA := Lib.hid hah
  obtain ⟨R, hR⟩ : ∃ R, rnds m = R := ⟨_, rfl⟩
  have hR1 : m ≤ 32 * R := by rw [← hR]; unfold rnds; omega
  have hR2 : 32 * R < m + 32 := by rw [← hR]; unfold rnds; omega
  have HR := Lib.hid hR
  have d1 : decide ((m : Int) < 0) = false := decide_eq_false (by omega)
  have d2 : decide ((m : Int) > 8192) = false := decide_eq_false (by omega)
  have d3 : decide ((more.length : Int) > 1024) = false := decide_eq_false (by omega)
  have d4 : decide (n ≥ 1000) = false := decide_eq_false (by omega)
  have d5 : (more != []) = true := by simpa using hne
  have d6 : more.isEmpty = false := by simpa using hne
  have HST : Hid (stir (k, v) more = (k1, v1)) := Lib.hid (by rw [← hah]; unfold dba; rw [if_neg hne])
  clear hR hah hne
  go_enter Try.func47, Try.ntmps47
  go_upto_region 1 with (fail)
  obtain ⟨c, hc⟩ : ∃ c, c = w.heap.size := ⟨_, rfl⟩
  obtain ⟨g, hg⟩ : ∃ g, g = w.heap.size + 1 := ⟨_, rfl⟩
  have k0 : Below w.heap.size w ((w.alloc (.cells (sc k v n).toArray 64)).alloc (.cells (sc [] [] 0).toArray 64)) := ((Below.refl _ _).alloc (Nat.le_refl _) _).alloc (by simp) _
  have i0 : Blk.Is ((w.alloc (.cells (sc k v n).toArray 64)).alloc (.cells (sc [] [] 0).toArray 64)) c (sc k v n) 64 := by
    rw [hc]
    exact (Blk.new w _ 64).alloc _
  have j0 : Blk.Is ((w.alloc (.cells (sc k v n).toArray 64)).alloc (.cells (sc [] [] 0).toArray 64)) g (sc [] [] 0) 64 := by
    rw [hg]
    exact Blk.new' _ _ 64 _ (by simp)
  rw [← hg, ← hc]
  generalize (w.alloc (.cells (sc k v n).toArray 64)).alloc (.cells (sc [] [] 0).toArray 64) = W at k0 i0 j0 ⊢
  have hwg : w.heap.size ≤ g := by omega
  have hcg : c ≠ g := by omega
  clear hc hg
  have I0 := Lib.hid i0
  have J0 := Lib.hid j0
  clear i0 j0
  have c2 : W.cell? ⟨c, 2, none⟩ = some (.int .i64 n) := I0.out.cell 2
  have hcl : c < W.heap.size := I0.out.lt
  go_upto_region 6 with (first | (refine Blk.load_row 64 (.tmp 3) rfl (by rfl) c rfl 64 (sc k v n) _ I0.out Try.underlying64 rfl (by kernel_rfl) ?_) | fail)
  obtain ⟨d, hd⟩ : ∃ d, d = W.heap.size := ⟨_, rfl⟩
  have hwd : w.heap.size ≤ d := by rw [hd]; exact k0.size
  have hgd : g ≠ d := by have := J0.out.lt; omega
  have hcd : c ≠ d := by omega
  have d3' := Blk.new' W (sc k v n) 64 d hd
  have i3 := I0.out.alloc (.cells (sc k v n).toArray 64)
  have j3 := J0.out.alloc (.cells (sc k v n).toArray 64)
  have k3 := k0.alloc k0.size (.cells (sc k v n).toArray 64)
  rw [← hd]
  generalize W.alloc (.cells (sc k v n).toArray 64) = W3 at k3 d3' i3 j3 ⊢
  have D3 := Lib.hid d3'
  have I3 := Lib.hid i3
  have J3 := Lib.hid j3
  clear d3' i3 j3 k0 I0 J0 c2 hd hcl
  go_wp2_with (first | (refine Blk.load_row 64 (.tmp 9) rfl (by rfl) d rfl 64 (sc k v n) _ D3.out Try.underlying64 rfl (by kernel_rfl) ?_) | fail)
  have SS := stirred_any k v more n W3 (by omega) (by omega) (by omega)
  rw [HST.out] at SS
  refine SS.mono ?_
  rintro e w4 ⟨rfl, k4⟩
  have D4 := Lib.hid (D3.out.below k4)
  have I4 := Lib.hid (I3.out.below k4)
  have J4 := Lib.hid (J3.out.below k4)
  have k4 := k3.trans (k4.mono k3.size)
  clear SS D3 I3 J3 k3
  go_upto_region 8 with (first | (refine Blk.store_row 64 (.tmp 9) (.tmp 32) rfl rfl d 0 (sc k1 v1 n) rfl rfl D4.out (by exact Nat.le_refl 3) (by kernel_rfl) (sc_one _ _ _) ?_) | fail)
  have d5' := Blk.Is.setCells (sc k1 v1 n) D4.out 0 (by exact Nat.le_refl 3)
  rw [put_sc] at d5'
  have i5 := Blk.Is.setCellsOther (sc k1 v1 n) I4.out hcd 0
  have j5 := Blk.Is.setCellsOther (sc k1 v1 n) J4.out hgd 0
  have K5 := Blk.below_setCells (sc k1 v1 n) k4 hwd 0
  generalize w4.setCells d 0 (sc k1 v1 n) = W5 at d5' i5 j5 K5 ⊢
  have D5 := Lib.hid d5'
  have I5 := Lib.hid i5
  have J5 := Lib.hid j5
  clear d5' i5 j5 k4 D4 I4 J4
  go_wp2_with fail
  go_loopg [10] R (fun j s wr => ∃ i : Nat, i + j = R ∧ s = .string ⟨(dbo k1 v1 i).toArray⟩ ∧ Blk.Is wr d (sc k1 (dbv k1 v1 i) n) 64 ∧ Blk.Is wr c (sc k v n) 64 ∧ Blk.Is wr g (sc [] [] 0) 64 ∧ Below w.heap.size w wr)
  case atStart => exact ⟨0, by omega, (by rw [dbo]), (by rw [dbv]; exact D5.out), I5.out, J5.out, K5⟩
  case round =>
    clear D5 I5 J5 K5
    obtain ⟨i, hij, rfl, d6', i6, j6, k6⟩ := hrel
    obtain ⟨x, hxx⟩ : ∃ x, dbv k1 v1 i = x := ⟨_, rfl⟩
    obtain ⟨y, hy⟩ : ∃ y, dbo k1 v1 i = y := ⟨_, rfl⟩
    obtain ⟨L, hL⟩ : ∃ L, L = 32 * i := ⟨_, rfl⟩
    rw [hxx] at d6'
    rw [hy]
    have hxl : x.length = 32 := by rw [← hxx]; exact dbv_length k1 v1 hv1 i
    have hyl : y.length = L := by rw [← hy, hL]; exact dbo_length k1 v1 hv1 i
    have HX := Lib.hid hxx
    have HY := Lib.hid hy
    have D6 := Lib.hid d6'
    have I6 := Lib.hid i6
    have J6 := Lib.hid j6
    have c0 : wr.cell? ⟨d, 0, none⟩ = some (.string ⟨k1.toArray⟩) := D6.out.cell 0
    have c1 : wr.cell? ⟨d, 1, none⟩ = some (.string ⟨x.toArray⟩) := D6.out.cell 1
    clear hxx hy d6' i6 j6
    by_cases hlt : i < R
    · have hcd2 : decide ((L : Int) < (m : Int)) = true := decide_eq_true (by omega)
      go_wp2_with fail
      refine (rhsum_any k1 x _ (by omega) (by omega)).mono ?_
      rintro e w7 ⟨rfl, k7⟩
      generalize hz : hmac k1 x = z
      have HZ := Lib.hid hz
      have hzl : z.length = 32 := by rw [← hz]; exact hmac_length _ _
      have d7 := D6.out.below k7
      have i7 := I6.out.below k7
      have j7 := J6.out.below k7
      have k7 := k6.trans (k7.mono k6.size)
      have c1 : w7.cell? ⟨d, 1, none⟩ = some (.string ⟨x.toArray⟩) := d7.cell 1
      have f1 := d7.frozen 1
      have d8 := d7.set 1 (.string ⟨z.toArray⟩)
      have i8 := i7.other (a := ⟨d, 1, none⟩) hcd (.string ⟨z.toArray⟩)
      have j8 := j7.other (a := ⟨d, 1, none⟩) hgd (.string ⟨z.toArray⟩)
      have k8 := k7.setCell (p := ⟨d, 1, none⟩) hwd (.string ⟨z.toArray⟩)
      have D8 := Lib.hid d8
      have I8 := Lib.hid i8
      have J8 := Lib.hid j8
      clear hz c0 k6 d7 i7 j7 k7 d8 i8 j8 D6 I6 J6
      go_wp2_with fail
      clear c1 f1
      generalize w7.setCell ⟨d, 1, none⟩ (.string ⟨z.toArray⟩) = w8 at D8 I8 J8 k8 ⊢
      have c8 : w8.cell? ⟨d, 1, none⟩ = some (.string ⟨z.toArray⟩) := D8.out.cell 1
      have hyz : y.length + z.length ≤ 140737488355328 := by omega
      have HCAT := Lib.hid (cat_bytes y z)
      have e1 := Lib.hid (dbv_succ k1 v1 x z i HX.out HZ.out)
      have e2 := Lib.hid (dbo_succ k1 v1 z y i e1.out HY.out)
      go_wp2
      go_roundg (R - (i + 1))
      case measure => omega
      case rel =>
        refine ⟨i + 1, by omega, ?_, ?_, I8.out, J8.out, k8⟩
        · rw [e2.out, ← HCAT.out]
        · rw [e1.out]
          exact D8.out
    · have hcd2 : decide ((L : Int) < (m : Int)) = false := decide_eq_false (by omega)
      obtain rfl : i = R := by omega
      clear c0 c1
      go_wp2_with (first | (refine Blk.load_row 64 (.tmp 9) rfl (by rfl) d rfl 64 (sc k1 x n) _ D6.out Try.underlying64 rfl (by kernel_rfl) ?_) | fail)
      have SS := stirred_any k1 x more n wr (by omega) (by omega) (by omega)
      rw [show stir (k1, x) more = served (k, v) m more by unfold served; rw [HA.out, HR.out, ← HX.out]] at SS
      generalize hsv : served (k, v) m more = sx at SS
      have HSV := Lib.hid hsv
      clear hsv
      refine SS.mono ?_
      rintro e w7 ⟨rfl, k7⟩
      have D7 := Lib.hid (D6.out.below k7)
      have i7 := I6.out.below k7
      have j7 := J6.out.below k7
      have k7 := k6.trans (k7.mono k6.size)
      have I7 := Lib.hid i7
      have J7 := Lib.hid j7
      clear SS i7 j7 k6 D6 I6 J6
      go_upto_region 13 with (first | (refine Blk.store_row 64 (.tmp 9) (.tmp 49) rfl rfl d 0 (sc sx.1 sx.2 n) rfl rfl D7.out (by exact Nat.le_refl 3) (by kernel_rfl) (sc_one _ _ _) ?_) | fail)
      have d8 := Blk.Is.setCells (sc sx.1 sx.2 n) D7.out 0 (by exact Nat.le_refl 3)
      rw [put_sc] at d8
      have i8 := Blk.Is.setCellsOther (sc sx.1 sx.2 n) I7.out hcd 0
      have j8 := Blk.Is.setCellsOther (sc sx.1 sx.2 n) J7.out hgd 0
      have k8 := Blk.below_setCells (sc sx.1 sx.2 n) k7 hwd 0
      generalize w7.setCells d 0 (sc sx.1 sx.2 n) = w8 at d8 i8 j8 k8 ⊢
      have c8 : w8.cell? ⟨c, 2, none⟩ = some (.int .i64 n) := i8.cell 2
      have e8 : w8.cell? ⟨d, 2, none⟩ = some (.int .i64 n) := d8.cell 2
      have f8 := d8.frozen 2
      have hn1 : n + 1 ≤ 1000 := by omega
      have d9 := d8.set 2 (.int .i64 (n + 1))
      have j9 := j8.other (a := ⟨d, 2, none⟩) hgd (.int .i64 (n + 1))
      have k9 := k8.setCell (p := ⟨d, 2, none⟩) hwd (.int .i64 (n + 1))
      have D9 : Hid (Blk.Is (w8.setCell ⟨d, 2, none⟩ (.int .i64 (n + 1))) d (sc sx.1 sx.2 (n + 1)) 64) := Lib.hid d9
      have J9 := Lib.hid j9
      clear d8 i8 j8 k8 d9 j9 D7 I7 J7 k7
      go_wp2_with fail
      clear c8 e8 f8
      generalize w8.setCell ⟨d, 2, none⟩ (.int .i64 (n + 1)) = w9 at D9 J9 k9 ⊢
      have g1 : (m : Int) ≤ (y.length : Int) := by rw [hyl]; omega
      have HT : Hid (told (k, v) m more = y.take m) := Lib.hid (by unfold told; rw [HA.out, HR.out, ← HY.out])
      have HTC := Lib.hid (text_cut y m)
      have D9a : Hid (Blk.Is w9.drew d (sc sx.1 sx.2 (n + 1)) 64) := Lib.hid D9.out
      have J9a : Hid (Blk.Is w9.drew g (sc [] [] 0) 64) := Lib.hid J9.out
      have a0 : w9.drew.cell? ⟨d, 0, none⟩ = some (.string ⟨sx.1.toArray⟩) := D9a.out.cell 0
      have a1 : w9.drew.cell? ⟨d, 1, none⟩ = some (.string ⟨sx.2.toArray⟩) := D9a.out.cell 1
      have a2 : w9.drew.cell? ⟨d, 2, none⟩ = some (.int .i64 (n + 1)) := D9a.out.cell 2
      have b0 : w9.drew.cell? ⟨g, 0, none⟩ = some (.string ⟨#[]⟩) := J9a.out.cell 0
      have b1 : w9.drew.cell? ⟨g, 1, none⟩ = some (.string ⟨#[]⟩) := J9a.out.cell 1
      have b2 : w9.drew.cell? ⟨g, 2, none⟩ = some (.int .i64 0) := J9a.out.cell 2
      have u0 := J9a.out.frozen 0
      have u1 := J9a.out.frozen 1
      have u2 := J9a.out.frozen 2
      have a0' : w9.cell? ⟨d, 0, none⟩ = some (.string ⟨sx.1.toArray⟩) := D9.out.cell 0
      have a1' : w9.cell? ⟨d, 1, none⟩ = some (.string ⟨sx.2.toArray⟩) := D9.out.cell 1
      have a2' : w9.cell? ⟨d, 2, none⟩ = some (.int .i64 (n + 1)) := D9.out.cell 2
      have b0' : w9.cell? ⟨g, 0, none⟩ = some (.string ⟨#[]⟩) := J9.out.cell 0
      have b1' : w9.cell? ⟨g, 1, none⟩ = some (.string ⟨#[]⟩) := J9.out.cell 1
      have b2' : w9.cell? ⟨g, 2, none⟩ = some (.int .i64 0) := J9.out.cell 2
      have u0' := J9.out.frozen 0
      have u1' := J9.out.frozen 1
      have u2' := J9.out.frozen 2
      have hdg : d ≠ g := fun e => hgd e.symm
      have i11 := Blk.Is.setCells (sc sx.1 sx.2 (n + 1)) J9.out 0 (by exact Nat.le_refl 3)
      rw [put_sc] at i11
      have I11 := Lib.hid i11
      have K11 := Lib.hid (Blk.below_setCells (sc sx.1 sx.2 (n + 1)) k9 hwg 0)
      clear i11 k9
      go_region
      clear a0 a1 a2 b0 b1 b2 u0 u1 u2 a0' a1' a2' b0' b1' b2' u0' u1' u2' D9 J9 D9a J9a
      have W11 : Hid (w9.setCells g 0 (sc sx.1 sx.2 (n + 1)) = ((w9.setCell ⟨g, 0, none⟩ (.string ⟨sx.1.toArray⟩)).setCell ⟨g, 1, none⟩ (.string ⟨sx.2.toArray⟩)).setCell ⟨g, 2, none⟩ (.int .i64 (n + 1))) := Lib.hid rfl
      rw [← W11.out]
      generalize w9.setCells g 0 (sc sx.1 sx.2 (n + 1)) = w11 at I11 K11 ⊢
      clear W11
      go_wp2
      exact bodyPost_ret (results_row3 rfl _ _ g 64 (sc sx.1 sx.2 (n + 1)) rfl I11.out.drew _ Try.underlying64 rfl (by kernel_rfl) _ rfl _ rfl) rfl ⟨by rw [HSV.out, HT.out, ← HTC.out]; rfl, K11.out.drew⟩
theorem rbytes_any (k v more : List UInt8) (m : Nat) (n : Int) (h0 : 0 ≤ n) (h1 : n < 1000) (w : World) (hk : k.length = 32) (hv : v.length = 32) (hm : m ≤ 8192) (hx : more.length ≤ 1024) :
    Calls Try.prog 47 #[sv k v n, .int .i64 m, .string ⟨more.toArray⟩] w fun e w' => e = .returned (.tuple #[sv (served (k, v) m more).1 (served (k, v) m more).2 (n + 1), .string ⟨(told (k, v) m more).toArray⟩, .int .i64 0]) ∧ Below w.heap.size w w' := by
  by_cases h : more = []
  · exact rbytes_nil k v more k v m n h0 h1 w hk hv hm hx h (by unfold dba; rw [if_pos h]) hk hv
  · have hl := stir_length (k, v) more
    exact rbytes_cons k v more (stir (k, v) more).1 (stir (k, v) more).2 m n h0 h1 w hk hv hm hx h (by unfold dba; rw [if_neg h]) hl.1 hl.2
end Go.Proofs.Yticegglphmgoaaa.Sha
