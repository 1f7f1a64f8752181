/- Audits: shares of what is held, walked. Conditions: those that are named. -/
import Derived.Test.YthkibccfdpbojaaAuM
namespace Go.Proofs.Ythkibccfdpbojaa.Au
open Go Go.RowKit
theorem keys_nil (w : World) : Calls Try.prog 12 #[nilS] w fun e w' => e = .returned nilS ∧ Below w.heap.size w w' :=
  keys_none nilS w fun W _ _ _ _ _ hm hh => (each_nil 35 _ W).mono fun _ _ ⟨h1, h2⟩ => ⟨h1, hm.below h2, hh.below h2, But.of h2⟩
theorem keys_two (g u1 r1 u2 r2 : Nat) (n1 n2 : Int) (d1 d2 : List UInt8) (w : World) (hg : Blk.Is w g (ims n1 u1 r1 ++ ims n2 u2 r2) 51) (h1 : Blk.Is w r1 (rcs [107] 1 1 d1) 66) (h2 : Blk.Is w r2 (rcs [107] 1 1 d2) 66) :
    Calls Try.prog 12 #[.slice (some ⟨g, 0, none⟩) 2 2] w fun e w' => ∃ h cap, e = .returned (.slice (some ⟨h, 0, none⟩) 1 cap) ∧ w'.cell? ⟨h, 0, none⟩ = some (txt [107]) ∧ Below w.heap.size w w' := by
  refine keys_one _ w fun W m ch hk hwm hmc hm hh => ?_
  have lg := hg.lt
  have lr1 := h1.lt
  have lr2 := h2.lt
  refine (each_two 35 _ g u1 r1 u2 r2 n1 n2 [107] [107] d1 d2 1 1 1 1 W (fun i w' => Blk.Is w' g (ims n1 u1 r1 ++ ims n2 u2 r2) 51 ∧ Blk.Is w' r1 (rcs [107] 1 1 d1) 66 ∧ Blk.Is w' r2 (rcs [107] 1 1 d2) 66 ∧ Blk.Is w' ch [.map (some m)] 94 ∧
      (i = 0 → MIs w' m #[] 0) ∧ (i ≠ 0 → MIs w' m #[ent] 1) ∧ But [m] W w')
    enter35 (fun i w' h => ⟨h.1, h.2.1, h.2.2.1⟩) (fun i w' w'' h hb => ⟨h.1.below hb, h.2.1.below hb, h.2.2.1.below hb, h.2.2.2.1.below hb, fun hi => (h.2.2.2.2.1 hi).below hb, fun hi => (h.2.2.2.2.2.1 hi).below hb, h.2.2.2.2.2.2.trans (But.of hb)⟩) ?_ ?_ ?_).mono ?_
  · rintro w' ⟨a1, a2, a3, a4, a5, a6, a7⟩
    refine (keys1_of n1 u1 r1 m 0 1 ch #[] #[ent] d1 w' a4 (a5 rfl) (fun W' hm' => upd94_new W' m 0 _ hm')).mono ?_
    rintro e w'' ⟨e1, e2, e3⟩
    exact ⟨e1, is_but a1 e3 (by simp; omega), is_but a2 e3 (by simp; omega), is_but a3 e3 (by simp; omega), is_but a4 e3 (by simp; omega), by simp, fun _ => e2, a7.trans e3⟩
  · rintro w' ⟨a1, a2, a3, a4, a5, a6, a7⟩
    refine (keys1_of n2 u2 r2 m 1 1 ch #[ent] #[ent] d2 w' a4 (a6 (by simp)) (fun W' hm' => upd94_old W' m 1 0 _ _ hm')).mono ?_
    rintro e w'' ⟨e1, e2, e3⟩
    exact ⟨e1, is_but a1 e3 (by simp; omega), is_but a2 e3 (by simp; omega), is_but a3 e3 (by simp; omega), is_but a4 e3 (by simp; omega), by simp, fun _ => e2, a7.trans e3⟩
  · exact ⟨hg.below hk, h1.below hk, h2.below hk, hh, fun _ => hm, by simp, But.refl _ _⟩
  · rintro e w' ⟨e1, a1, a2, a3, a4, a5, a6, a7⟩
    exact ⟨e1, a6 (by simp), a4, a7⟩
/-- Is something held with shares? It has none. -/
theorem has1_any (d : List UInt8) (cs cd : Nat) (w : World) (hs : Blk.Is w cs [.int .i64 1, .int .i64 1] 24) (hd : Blk.Is w cd [txt d] 9) :
    Calls Try.prog 49 #[.agg (gcs 1 1 d).toArray, .pointer (some ⟨cs, 0, none⟩), .pointer (some ⟨cd, 0, none⟩)] w fun e w' => e = .returned (.bool false) ∧ Below w.heap.size w w' := by
  have kw : Below w.heap.size w (w.alloc (.cells (gcs 1 1 d).toArray 62)) := (Below.refl _ _).alloc (Nat.le_refl _) _
  have GB := Lib.hid (Blk.new w (gcs 1 1 d) 62)
  have HS := Lib.hid (hs.below kw)
  have HD := Lib.hid (hd.below kw)
  have KW := Lib.hid kw
  clear hs hd kw
  go_enter Try.func49, Try.ntmps49
  go_upto_region 1 with (fail)
  obtain ⟨W, hW⟩ : ∃ W, W = w.alloc (.cells (gcs 1 1 d).toArray 62) := ⟨_, rfl⟩
  obtain ⟨p, hp⟩ : ∃ p, p = w.heap.size := ⟨_, rfl⟩
  rw [← hW] at GB HS HD KW ⊢
  rw [← hp] at GB ⊢
  clear hW hp
  have a := fun i => GB.out.cell i
  have a0 := a 0; have a1 := a 1; have a2 := a 2; have a3 := a 3; have a4 := a 4
  have b0 := HS.out.cell 0; have b1 := HS.out.cell 1
  have c0 := HD.out.cell 0
  simp only [List.getElem?_cons_zero, List.getElem?_cons_succ] at a0 a1 a2 a3 a4 b0 b1 c0
  clear a GB HS HD
  go_wp2
  exact bodyPost_ret (results_tmp rfl _ _ _) rfl ⟨rfl, KW.out⟩
set_option maxHeartbeats 4000000 in
set_option maxRecDepth 100000 in
theorem index_told (f : Value) (w : World) : Calls Try.prog 64 #[nilS, f] w fun e w' => e = .returned (.int .i64 (-1)) ∧ w = w' := by
  go_enter Try.func64, Try.ntmps64
  go_wp2_with fail
  go_loopw [5, 8] (fun _ vi wr => vi = .int .i64 0 ∧ wr = w) (fun _ _ _ => 0)
  case atStart => exact ⟨rfl, rfl⟩
  case round =>
    obtain ⟨rfl, rfl⟩ := hrel
    go_wp2
    exact bodyPost_ret (results_tmp rfl _ _ _) rfl ⟨rfl, rfl⟩
set_option maxHeartbeats 4000000 in
set_option maxRecDepth 100000 in
theorem contains_told (f : Value) (w : World) : Calls Try.prog 50 #[nilS, f] w fun e w' => e = .returned (.bool false) ∧ w = w' := by
  go_enter Try.func50, Try.ntmps50
  go_wp2_with fail
  refine (index_told f _).mono ?_
  rintro e w1 ⟨rfl, rfl⟩
  go_wp2
  exact bodyPost_ret (results_tmp rfl _ _ _) rfl ⟨rfl, rfl⟩
end Go.Proofs.Ythkibccfdpbojaa.Au
