/- Audits: what is held last of states, walked. Conditions: those that are named. -/
import Derived.Test.YthkibccfdpbojaaAuC
namespace Go.Proofs.Ythkibccfdpbojaa.Au
open Go.RowKit
/-- One result, a struct that lies in a block. -/
theorem results_row {P : Program} {fn : Func} {p : Tmp} {ty : TypeId} (h : fn.results = #[.cell p ty]) (tmps : Array Value) (w : World) (g : Nat) (t : TypeId) (cs : List Value) (hp : tmps.getD p undef = .pointer (some ⟨g, 0, none⟩)) (hg : Blk.Is w g cs t) (d : TypeDesc)
    (hu : P.underlying ty = some d) (hd : (match d with | .struct _ | .array _ _ => true | _ => false) = true) (hi : (P.info? ty).map (·.size) = some cs.length) : (results fn tmps).run P w = .ok (.agg cs.toArray) w := by
  simp only [results, h]
  simp only [Array.getD_eq_getD_getElem?] at hp
  simp [hp, asAddr, run_loadVar_row w g t ty cs.toArray (0, 0) d hg hu hd (by simpa using hi)]
/-- Two results, the first of them a struct that lies in a block. -/
theorem results_row2 {P : Program} {fn : Func} {p u : Tmp} {ty : TypeId} (h : fn.results = #[.cell p ty, .tmp u]) (tmps : Array Value) (w : World) (g : Nat) (t : TypeId) (cs : List Value) (hp : tmps.getD p undef = .pointer (some ⟨g, 0, none⟩)) (hg : Blk.Is w g cs t) (d : TypeDesc)
    (hu : P.underlying ty = some d) (hd : (match d with | .struct _ | .array _ _ => true | _ => false) = true) (hi : (P.info? ty).map (·.size) = some cs.length) (v : Value) (hv : tmps.getD u undef = v) : (results fn tmps).run P w = .ok (.tuple #[.agg cs.toArray, v]) w := by
  subst hv
  rw [results_cell_tmp h, hp]
  simp [asAddr, Result.andThen, run_loadVar_row w g t ty cs.toArray (0, 0) d hg hu hd (by simpa using hi)]
theorem enter15 (args : Array Value) (w : World) : (callFunc 15 args).run Try.prog w = .ok (.enter 15 args) w := by kernel_rfl
set_option maxHeartbeats 4000000 in
set_option maxRecDepth 100000 in
theorem last_of (l : Value) (k : List UInt8) (s c : Int) (d : List UInt8) (w : World)
    (H : ∀ W ck cl, Below w.heap.size w W → w.heap.size ≤ ck → ck < cl → Blk.Is W ck [.string ⟨k.toArray⟩] 9 → Blk.Is W cl (gcs 0 0 []) 62 →
      Calls Try.prog 14 #[l, .func (.func 15) #[] #[.pointer (some ⟨ck, 0, none⟩), .pointer (some ⟨cl, 0, none⟩)]] W fun e w' => e = .returned (.tuple #[]) ∧ Blk.Is w' cl (gcs s c d) 62 ∧ But [cl] W w') :
    Calls Try.prog 5 #[l, .string ⟨k.toArray⟩] w fun e w' => e = .returned (.tuple #[.agg #[.int .i64 s, .int .i64 c], .string ⟨d.toArray⟩]) ∧ Below w.heap.size w w' := by
  have kw : Below w.heap.size w (((w.alloc (.cells #[.string ⟨k.toArray⟩] 9)).alloc (.cells #[.int .i64 0, .int .i64 0] 24)).alloc (.cells (gcs 0 0 []).toArray 62)) := (((Below.refl _ _).alloc (Nat.le_refl _) _).alloc (by simp) _).alloc (by simp; omega) _
  have B3 := Lib.hid (((Blk.new w [.string ⟨k.toArray⟩] 9).alloc (.cells #[.int .i64 0, .int .i64 0] 24)).alloc (.cells (gcs 0 0 []).toArray 62))
  have B4 := Lib.hid ((Blk.new' (w.alloc (.cells #[.string ⟨k.toArray⟩] 9)) [.int .i64 0, .int .i64 0] 24 (w.heap.size + 1) (by simp)).alloc (.cells (gcs 0 0 []).toArray 62))
  have B6 := Lib.hid (Blk.new' ((w.alloc (.cells #[.string ⟨k.toArray⟩] 9)).alloc (.cells #[.int .i64 0, .int .i64 0] 24)) (gcs 0 0 []) 62 (w.heap.size + 1 + 1) (by simp))
  have HH := Lib.hid (H _ _ _ kw (Nat.le_refl _) (by omega) B3.out B6.out)
  have KW := Lib.hid kw
  clear H kw B3
  go_enter Try.func5, Try.ntmps5
  go_upto_region 2 with (fail)
  obtain ⟨W, hW⟩ : ∃ W, W = ((w.alloc (.cells #[.string ⟨k.toArray⟩] 9)).alloc (.cells #[.int .i64 0, .int .i64 0] 24)).alloc (.cells (gcs 0 0 []).toArray 62) := ⟨_, rfl⟩
  obtain ⟨p, hp⟩ : ∃ p, p = w.heap.size + 1 := ⟨_, rfl⟩
  obtain ⟨q, hq⟩ : ∃ q, q = w.heap.size + 1 + 1 := ⟨_, rfl⟩
  rw [← hW] at B4 B6 HH KW ⊢
  rw [← hq] at B6 HH ⊢
  rw [← hp] at B4 ⊢
  have bp : w.heap.size ≤ p ∧ p < q := by omega
  clear hW hp hq
  go_wp2_with fail
  refine HH.out.mono ?_
  rintro e w1 ⟨rfl, i6, k1⟩
  have I4 := Lib.hid (is_but B4.out k1 (by simp; omega))
  have I6 := Lib.hid i6
  have K1 : Below w.heap.size w w1 := KW.out.trans (k1.below (by simp; omega) (KW.out.size))
  clear B4 B6 HH KW i6 k1
  go_upto_region 3 with (fail)
  have q0 := I6.out.cell 0; have q1 := I6.out.cell 1; have q2 := I6.out.cell 2
  have p0 := I4.out.cell 0; have p1 := I4.out.cell 1; have f0 := I4.out.frozen 0; have f1 := I4.out.frozen 1
  have q0' := I6.out.drew.cell 0; have q1' := I6.out.drew.cell 1; have q2' := I6.out.drew.cell 2
  have p0' := I4.out.drew.cell 0; have p1' := I4.out.drew.cell 1; have f0' := I4.out.drew.frozen 0; have f1' := I4.out.drew.frozen 1
  simp only [List.getElem?_cons_zero, List.getElem?_cons_succ] at q0 q1 q2 p0 p1 q0' q1' q2' p0' p1'
  have P9 : Hid (Blk.Is ((w1.setCell ⟨p, 0, none⟩ (.int .i64 s)).setCell ⟨p, 1, none⟩ (.int .i64 c)).drew p [.int .i64 s, .int .i64 c] 24) := Lib.hid (((I4.out.set 0 _).set 1 _).drew)
  have K9 : Hid (Below w.heap.size w ((w1.setCell ⟨p, 0, none⟩ (.int .i64 s)).setCell ⟨p, 1, none⟩ (.int .i64 c)).drew) := Lib.hid (((K1.setCell bp.1 _).setCell bp.1 _).drew)
  go_region
  clear q0 q1 q2 p0 p1 q0' q1' q2' p0' p1' f0 f1 f0' f1'
  generalize ((w1.setCell ⟨p, 0, none⟩ (.int .i64 s)).setCell ⟨p, 1, none⟩ (.int .i64 c)).drew = w9 at P9 K9 ⊢
  go_wp2
  exact bodyPost_ret (results_row2 rfl _ _ p 24 [.int .i64 s, .int .i64 c] rfl P9.out _ Try.underlying24 rfl (by kernel_rfl) _ rfl) rfl ⟨rfl, K9.out⟩
theorem last_nil (k : List UInt8) (w : World) : Calls Try.prog 5 #[nilS, .string ⟨k.toArray⟩] w fun e w' => e = .returned (.tuple #[.agg #[.int .i64 0, .int .i64 0], .string ⟨([] : List UInt8).toArray⟩]) ∧ Below w.heap.size w w' :=
  last_of nilS k 0 0 [] w fun W _ _ _ _ _ _ h => (each_nil 15 _ W).mono fun _ _ ⟨h1, h2⟩ => ⟨h1, h.below h2, But.of h2⟩
/-- Two states with one record each, of the same key and stamp: the first one's digest. -/
theorem last_two (g u1 r1 u2 r2 : Nat) (n1 n2 : Int) (k d1 d2 : List UInt8) (w : World) (hg : Blk.Is w g (ims n1 u1 r1 ++ ims n2 u2 r2) 51) (h1 : Blk.Is w r1 (rcs k 1 1 d1) 66) (h2 : Blk.Is w r2 (rcs k 1 1 d2) 66) :
    Calls Try.prog 5 #[.slice (some ⟨g, 0, none⟩) 2 2, .string ⟨k.toArray⟩] w fun e w' => e = .returned (.tuple #[.agg #[.int .i64 1, .int .i64 1], .string ⟨d1.toArray⟩]) ∧ Below w.heap.size w w' := by
  refine last_of _ k 1 1 d1 w fun W ck cl hk hkc hcl bk bl => ?_
  have lg := hg.lt
  have lr1 := h1.lt
  have lr2 := h2.lt
  refine (each_two 15 _ g u1 r1 u2 r2 n1 n2 k k d1 d2 1 1 1 1 W (fun i w' => Blk.Is w' g (ims n1 u1 r1 ++ ims n2 u2 r2) 51 ∧ Blk.Is w' r1 (rcs k 1 1 d1) 66 ∧ Blk.Is w' r2 (rcs k 1 1 d2) 66 ∧ Blk.Is w' ck [.string ⟨k.toArray⟩] 9 ∧ Blk.Is w' cl (if i = 0 then gcs 0 0 [] else gcs 1 1 d1) 62 ∧ But [cl] W w')
    enter15 (fun i w' h => ⟨h.1, h.2.1, h.2.2.1⟩) (fun i w' w'' h hb => ⟨h.1.below hb, h.2.1.below hb, h.2.2.1.below hb, h.2.2.2.1.below hb, h.2.2.2.2.1.below hb, h.2.2.2.2.2.trans (But.of hb)⟩) ?_ ?_ ?_).mono ?_
  · rintro w' ⟨a1, a2, a3, a4, a5, a6⟩
    refine (last1_any n1 u1 r1 ck cl k d1 [] 1 1 0 0 w' a4 a5).mono ?_
    rintro e w'' ⟨e1, e2, e3⟩
    exact ⟨e1, is_but a1 e3 (by simp; omega), is_but a2 e3 (by simp; omega), is_but a3 e3 (by simp; omega), is_but a4 e3 (by simp; omega), e2, a6.trans e3⟩
  · rintro w' ⟨a1, a2, a3, a4, a5, a6⟩
    refine (last1_any n2 u2 r2 ck cl k d2 d1 1 1 1 1 w' a4 a5).mono ?_
    rintro e w'' ⟨e1, e2, e3⟩
    exact ⟨e1, is_but a1 e3 (by simp; omega), is_but a2 e3 (by simp; omega), is_but a3 e3 (by simp; omega), is_but a4 e3 (by simp; omega), e2, a6.trans e3⟩
  · exact ⟨hg.below hk, h1.below hk, h2.below hk, bk, bl, But.refl _ _⟩
  · rintro e w' ⟨e1, a1, a2, a3, a4, a5, a6⟩
    exact ⟨e1, a5, a6⟩
end Go.Proofs.Ythkibccfdpbojaa.Au
