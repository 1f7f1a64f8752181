/- Audits: whether states agree, walked. Conditions: those that are named. -/
import Derived.Test.YthkibccfdpbojaaAuF
namespace Go.Proofs.Ythkibccfdpbojaa.Au
open Go Go.RowKit
theorem enter20 (args : Array Value) (w : World) : (callFunc 20 args).run Try.prog w = .ok (.enter 20 args) w := by kernel_rfl
set_option maxHeartbeats 4000000 in
set_option maxRecDepth 100000 in
theorem agree_of (l : Value) (β : Bool) (w : World)
    (H : ∀ W m ch cr co, Below w.heap.size w W → w.heap.size ≤ m → m < ch → ch < co → MIs W m #[] 0 → Blk.Is W ch [.map (some m)] 75 → Blk.Is W co [.bool true] 4 →
      Calls Try.prog 14 #[l, .func (.func 20) #[] #[.pointer (some ⟨ch, 0, none⟩), .pointer (some ⟨co, 0, none⟩), .pointer (some ⟨cr, 0, none⟩)]] W fun e w' => e = .returned (.tuple #[]) ∧ Blk.Is w' co [.bool β] 4 ∧ But [m, co] W w') :
    Calls Try.prog 8 #[l] w fun e w' => e = .returned (.bool β) ∧ Below w.heap.size w w' := by
  have hmm := @run_makeMap Try.prog
  obtain ⟨V, hV⟩ : ∃ V, V = ((((w.alloc (.map #[] 0)).alloc (.map #[] 0)).alloc (.cells #[.map (some w.heap.size)] 75)).alloc (.cells #[.map (some (w.heap.size + 1))] 75)).alloc (.cells #[.bool true] 4) := ⟨_, rfl⟩
  have kw : Below w.heap.size w V := by
    rw [hV]
    exact (((((Below.refl _ _).alloc (Nat.le_refl _) _).alloc (by simp) _).alloc (by simp; omega) _).alloc (by simp; omega) _).alloc (by simp; omega) _
  have hm : MIs V w.heap.size #[] 0 := by
    rw [hV]
    exact (MIs.new w).below ((((((Below.refl _ _).alloc (Nat.le_refl _) _)).alloc (by simp) _).alloc (by simp) _).alloc (by simp) _)
  have hh : Blk.Is V (w.heap.size + 1 + 1) [.map (some w.heap.size)] 75 := by
    rw [hV]
    exact ((Blk.new' ((w.alloc (.map #[] 0)).alloc (.map #[] 0)) [.map (some w.heap.size)] 75 (w.heap.size + 1 + 1) (by simp)).alloc _).alloc _
  have ho : Blk.Is V (w.heap.size + 1 + 1 + 1 + 1) [.bool true] 4 := by
    rw [hV]
    exact Blk.new' ((((w.alloc (.map #[] 0)).alloc (.map #[] 0)).alloc (.cells #[.map (some w.heap.size)] 75)).alloc (.cells #[.map (some (w.heap.size + 1))] 75)) [.bool true] 4 _ (by simp)
  have HH := Lib.hid (H V w.heap.size _ (w.heap.size + 1 + 1 + 1) _ kw (Nat.le_refl _) (by omega) (by omega) hm hh ho)
  have KW := Lib.hid kw
  clear H kw hm hh ho
  have HV := Lib.hid hV
  clear hV
  go_enter Try.func8, Try.ntmps8
  go_upto_region 3 with (fail)
  rw [← HV.out]
  clear HV
  obtain ⟨o, ho⟩ : ∃ o, o = w.heap.size + 1 + 1 + 1 + 1 := ⟨_, rfl⟩
  obtain ⟨h2, hh2⟩ : ∃ h, h = w.heap.size + 1 + 1 := ⟨_, rfl⟩
  obtain ⟨h3, hh3⟩ : ∃ h, h = w.heap.size + 1 + 1 + 1 := ⟨_, rfl⟩
  rw [← ho, ← hh3, ← hh2] at HH ⊢
  have bo : w.heap.size < o := by omega
  clear ho hh2 hh3
  go_wp2_with fail
  refine HH.out.mono ?_
  rintro e w1 ⟨rfl, o1, k1⟩
  have K1 : Below w.heap.size w w1 := KW.out.trans (k1.below (by simp; omega) KW.out.size)
  have o0 := o1.cell 0
  simp only [List.getElem?_cons_zero] at o0
  clear HH KW o1 k1
  go_wp2
  exact bodyPost_ret (results_tmp rfl _ _ _) rfl ⟨rfl, K1⟩
theorem agree_nil (w : World) : Calls Try.prog 8 #[nilS] w fun e w' => e = .returned (.bool true) ∧ Below w.heap.size w w' :=
  agree_of nilS true w fun W _ _ _ _ _ _ _ _ _ _ ho => (each_nil 20 _ W).mono fun _ _ ⟨h1, h2⟩ => ⟨h1, ho.below h2, But.of h2⟩
/-- Two states with one record each of the same place. -/
theorem agree_two (g u1 r1 u2 r2 : Nat) (n1 n2 : Int) (d1 d2 : List UInt8) (β : Bool) (w : World) (hg : Blk.Is w g (ims n1 u1 r1 ++ ims n2 u2 r2) 51) (h1 : Blk.Is w r1 (rcs [107] 1 1 d1) 66) (h2 : Blk.Is w r2 (rcs [107] 1 1 d2) 66)
    (es' : Array MapEntry) (hsaid : ∀ W m, MIs W m #[⟨plc, txt d1, 0⟩] 1 → Calls Try.prog 21 #[.map (some m), plc, txt d2] W fun e w' => e = .returned (.bool β) ∧ MIs w' m es' 1 ∧ But [m] W w') :
    Calls Try.prog 8 #[.slice (some ⟨g, 0, none⟩) 2 2] w fun e w' => e = .returned (.bool β) ∧ Below w.heap.size w w' := by
  refine agree_of _ β w fun W m ch cr co hk hwm hmc hco hm hh ho => ?_
  have lg := hg.lt
  have lr1 := h1.lt
  have lr2 := h2.lt
  refine (each_two 20 _ g u1 r1 u2 r2 n1 n2 [107] [107] d1 d2 1 1 1 1 W (fun i w' => Blk.Is w' g (ims n1 u1 r1 ++ ims n2 u2 r2) 51 ∧ Blk.Is w' r1 (rcs [107] 1 1 d1) 66 ∧ Blk.Is w' r2 (rcs [107] 1 1 d2) 66 ∧ Blk.Is w' ch [.map (some m)] 75 ∧
      (i = 0 → MIs w' m #[] 0) ∧ (i = 1 → MIs w' m #[⟨plc, txt d1, 0⟩] 1) ∧ Blk.Is w' co [.bool (if i = 2 then β else true)] 4 ∧ But [m, co] W w')
    enter20 (fun i w' h => ⟨h.1, h.2.1, h.2.2.1⟩) (fun i w' w'' h hb => ⟨h.1.below hb, h.2.1.below hb, h.2.2.1.below hb, h.2.2.2.1.below hb, fun hi => (h.2.2.2.2.1 hi).below hb, fun hi => (h.2.2.2.2.2.1 hi).below hb, h.2.2.2.2.2.2.1.below hb, h.2.2.2.2.2.2.2.trans (But.of hb)⟩) ?_ ?_ ?_).mono ?_
  · rintro w' ⟨a1, a2, a3, a4, a5, a6, a7, a8⟩
    refine (agree1_of n1 u1 r1 m 0 1 ch co cr #[] #[⟨plc, txt d1, 0⟩] true d1 w' a4 a7 (a5 rfl) (by omega) (fun W' hm' => said_new m 0 d1 W' hm')).mono ?_
    rintro e w'' ⟨e1, e2, e3, e4⟩
    exact ⟨e1, is_but a1 e4 (by simp; omega), is_but a2 e4 (by simp; omega), is_but a3 e4 (by simp; omega), is_but a4 e4 (by simp; omega), by simp, fun _ => e2, e3, a8.trans e4⟩
  · rintro w' ⟨a1, a2, a3, a4, a5, a6, a7, a8⟩
    refine (agree1_of n2 u2 r2 m 1 1 ch co cr #[⟨plc, txt d1, 0⟩] es' β d2 w' a4 a7 (a6 rfl) (by omega) (fun W' hm' => hsaid W' m hm')).mono ?_
    rintro e w'' ⟨e1, e2, e3, e4⟩
    exact ⟨e1, is_but a1 e4 (by simp; omega), is_but a2 e4 (by simp; omega), is_but a3 e4 (by simp; omega), is_but a4 e4 (by simp; omega), by simp, by simp, e3, a8.trans e4⟩
  · exact ⟨hg.below hk, h1.below hk, h2.below hk, hh, fun _ => hm, by simp, ho, But.refl _ _⟩
  · rintro e w' ⟨e1, a1, a2, a3, a4, a5, a6, a7, a8⟩
    exact ⟨e1, a7, a8⟩
end Go.Proofs.Ythkibccfdpbojaa.Au
