/- Audits: the law that of no states all is true, walked. Conditions: none. -/
import Derived.Test.YthkibccfdpbojaaAuT
namespace Go.Proofs.Ythkibccfdpbojaa.Au
open Go Go.RowKit
/-- A system that nobody made, as cells. -/
abbrev clus : List Value := [nilS, .int .u64 0, .int .u64 0, .int .u64 0, .int .u64 0, .int .i64 0, .int .i64 0, nilS, .string ⟨#[]⟩, .string ⟨#[]⟩, .int .i64 0, .map none, .map none, .pointer none, .int .i64 0, nilS, nilS, nilS, .map none, .map none, .bool false, .map none, .bool false]
set_option maxHeartbeats 8000000 in
set_option maxRecDepth 100000 in
theorem nothing_walk (t m : Int) (k : List UInt8) (w : World) : Calls Try.prog 3 #[.int .i64 t, .int .i64 m, txt k] w fun e w' => e = .returned (.bool true) ∧ Below w.heap.size w w' := by
  by_cases h20 : 20 < k.length
  · have d1 : decide (20 < (k.length : Int)) = true := decide_eq_true (by omega)
    have d2 : 20 < (k.length : Int) := by omega
    go_enter Try.func3, Try.ntmps3
    go_wp2_with fail
    refine (awake_any _).mono ?_
    rintro e w1 ⟨rfl, k1⟩
    go_wp2
    exact bodyPost_ret (results_tmp rfl _ _ _) rfl ⟨rfl, k1⟩
  · have d1 : decide (20 < (k.length : Int)) = false := decide_eq_false (by omega)
    have d2 : ¬ 20 < (k.length : Int) := by omega
    go_enter Try.func3, Try.ntmps3
    go_wp2_with fail
    refine (last_nil k _).mono ?_
    rintro e w1 ⟨rfl, k1⟩
    go_upto_region 5 with (fail)
    have T1 := Lib.hid (((Blk.new w1 [.int .i64 0, .int .i64 0] 24).alloc (.cells clus.toArray 46)).alloc (.cells #[.pointer none, .pointer (some ⟨w1.heap.size + 1, 0, none⟩)] 27))
    have CB := Lib.hid ((Blk.new' (w1.alloc (.cells #[.int .i64 0, .int .i64 0] 24)) clus 46 (w1.heap.size + 1) (by simp)).alloc (.cells #[.pointer none, .pointer (some ⟨w1.heap.size + 1, 0, none⟩)] 27))
    have SB := Lib.hid (Blk.new' ((w1.alloc (.cells #[.int .i64 0, .int .i64 0] 24)).alloc (.cells clus.toArray 46)) [.pointer none, .pointer (some ⟨w1.heap.size + 1, 0, none⟩)] 27 (w1.heap.size + 1 + 1) (by simp))
    have KV : Below w.heap.size w (((w1.alloc (.cells #[.int .i64 0, .int .i64 0] 24)).alloc (.cells clus.toArray 46)).alloc (.cells #[.pointer none, .pointer (some ⟨w1.heap.size + 1, 0, none⟩)] 27)) := k1.trans ((((Below.refl w1.heap.size w1).alloc (Nat.le_refl _) _).alloc (by simp) _).alloc (by simp; omega) _ |>.mono k1.size)
    obtain ⟨V, hV⟩ : ∃ V, V = ((w1.alloc (.cells #[.int .i64 0, .int .i64 0] 24)).alloc (.cells clus.toArray 46)).alloc (.cells #[.pointer none, .pointer (some ⟨w1.heap.size + 1, 0, none⟩)] 27) := ⟨_, rfl⟩
    obtain ⟨sb, hs⟩ : ∃ z, z = w1.heap.size + 1 + 1 := ⟨_, rfl⟩
    obtain ⟨c, hc⟩ : ∃ z, z = w1.heap.size + 1 := ⟨_, rfl⟩
    obtain ⟨p, hp⟩ : ∃ z, z = w1.heap.size := ⟨_, rfl⟩
    rw [← hV] at T1 CB SB KV ⊢
    rw [← hs] at SB ⊢
    rw [← hc] at CB SB ⊢
    rw [← hp] at T1 ⊢
    clear hV hs hc hp k1
    have KW := Lib.hid KV
    clear KV
    go_wp2_with fail
    go_loopw [10] (fun vi wr => ∃ i : Nat, vi = .int .i64 i ∧ i ≤ 2 ∧ Below V.heap.size V wr) (fun vi _ => 2 - (intOf vi).toNat)
    case atStart => exact ⟨0, rfl, by omega, Below.refl _ _⟩
    case round =>
      obtain ⟨i, rfl, hi, k2⟩ := hrel
      match i, hi with
      | 0, _ =>
        have s0 := (SB.out.below k2).cell 0
        simp only [List.getElem?_cons_zero] at s0
        have HC := Lib.hid (image_of (.pointer none) wr (fun W' hb => given_nil W'))
        go_wp2_with fail
        clear s0
        refine HC.out.mono ?_
        rintro e v1 ⟨rfl, j1⟩
        have k3 : Below V.heap.size V v1 := k2.trans (j1.mono k2.size)
        clear HC j1 k2
        go_wp2_with fail
        refine (same_none _).mono ?_
        rintro e v2 ⟨rfl, j2⟩
        have k4 : Below V.heap.size V v2 := k3.trans (j2.mono k3.size)
        clear j2 k3
        go_wp2_with fail
        go_roundw
        case rel => exact ⟨1, by go_num, by omega, k4⟩
        case measure => simp [intOf]
      | 1, _ =>
        have s0 := (SB.out.below k2).cell 1
        simp only [List.getElem?_cons_zero, List.getElem?_cons_succ] at s0
        have HC := Lib.hid (image_of (.pointer (some ⟨c, 0, none⟩)) wr (fun W' hb => given_none c W' (((CB.out.below k2).below hb).cell 10)))
        go_wp2_with fail
        clear s0
        refine HC.out.mono ?_
        rintro e v1 ⟨rfl, j1⟩
        have k3 : Below V.heap.size V v1 := k2.trans (j1.mono k2.size)
        clear HC j1 k2
        go_wp2_with fail
        refine (same_none _).mono ?_
        rintro e v2 ⟨rfl, j2⟩
        have k4 : Below V.heap.size V v2 := k3.trans (j2.mono k3.size)
        clear j2 k3
        go_wp2_with fail
        go_roundw
        case rel => exact ⟨2, by go_num, by omega, k4⟩
        case measure => simp [intOf]
      | 2, _ =>
        have q0 := k2
        clear k2
        go_wp2_with fail
        refine (agree_nil _).mono ?_
        rintro e v1 ⟨rfl, j1⟩
        have q1 : Below V.heap.size V v1 := q0.trans (j1.mono q0.size)
        clear j1 q0
        go_wp2_with fail
        refine (steps_nil t _).mono ?_
        rintro e v2 ⟨rfl, j1⟩
        have q2 : Below V.heap.size V v2 := q1.trans (j1.mono q1.size)
        clear j1 q1
        go_wp2_with fail
        refine (shares_nil t _).mono ?_
        rintro e v3 ⟨rfl, j1⟩
        have q3 : Below V.heap.size V v3 := q2.trans (j1.mono q2.size)
        clear j1 q2
        go_wp2_with fail
        refine (bounds_nil m _).mono ?_
        rintro e v4 ⟨rfl, j1⟩
        have q4 : Below V.heap.size V v4 := q3.trans (j1.mono q3.size)
        clear j1 q3
        go_wp2_with fail
        refine (keys_nil _).mono ?_
        rintro e v5 ⟨rfl, j1⟩
        have q5 : Below V.heap.size V v5 := q4.trans (j1.mono q4.size)
        clear j1 q4
        have TB := Lib.hid (T1.out.below q5)
        have t0 := TB.out.cell 0
        have t1 := TB.out.cell 1
        simp only [List.getElem?_cons_zero, List.getElem?_cons_succ] at t0 t1
        clear TB T1 CB SB
        go_wp2_with fail
        refine (awake_any _).mono ?_
        rintro e v6 ⟨rfl, j1⟩
        have q6 : Below w.heap.size w v6 := KW.out.trans ((q5.trans (j1.mono q5.size)).mono KW.out.size)
        clear j1 q5 t0 t1 KW
        go_wp2
        exact bodyPost_ret (results_tmp rfl _ _ _) rfl ⟨rfl, q6⟩
      | i + 3, h => omega
end Go.Proofs.Ythkibccfdpbojaa.Au
