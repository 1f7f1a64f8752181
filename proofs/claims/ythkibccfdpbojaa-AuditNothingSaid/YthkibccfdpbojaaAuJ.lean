/- Audits: whether no number is skipped, of states, walked. Conditions: those that are named. -/
import Derived.Test.YthkibccfdpbojaaAuI
namespace Go.Proofs.Ythkibccfdpbojaa.Au
open Go Go.RowKit
theorem enter22 (args : Array Value) (w : World) : (callFunc 22 args).run Try.prog w = .ok (.enter 22 args) w := by kernel_rfl
set_option maxHeartbeats 4000000 in
set_option maxRecDepth 100000 in
theorem steps_of (ao : Option Addr) (n cap : Nat) (t : Int) (β : Bool) (w : World)
    (H : ∀ W co cs ct, Below w.heap.size w W → w.heap.size ≤ co → cs < ct → ct < co → Blk.Is W co [.bool true] 4 → Blk.Is W cs [.slice ao n cap] 67 → Blk.Is W ct [.int .i64 t] 3 →
      Calls Try.prog 14 #[.slice ao n cap, .func (.func 22) #[] #[.pointer (some ⟨co, 0, none⟩), .pointer (some ⟨cs, 0, none⟩), .pointer (some ⟨ct, 0, none⟩)]] W fun e w' => e = .returned (.tuple #[]) ∧ Blk.Is w' co [.bool β] 4 ∧ But [co] W w') :
    Calls Try.prog 9 #[.slice ao n cap, .int .i64 t] w fun e w' => e = .returned (.bool β) ∧ Below w.heap.size w w' := by
  obtain ⟨V, hV⟩ : ∃ V, V = ((w.alloc (.cells #[.slice ao n cap] 67)).alloc (.cells #[.int .i64 t] 3)).alloc (.cells #[.bool true] 4) := ⟨_, rfl⟩
  have kw : Below w.heap.size w V := by
    rw [hV]
    exact (((Below.refl _ _).alloc (Nat.le_refl _) _).alloc (by simp) _).alloc (by simp; omega) _
  have hs : Blk.Is V w.heap.size [.slice ao n cap] 67 := by
    rw [hV]
    exact ((Blk.new w [.slice ao n cap] 67).alloc _).alloc _
  have ht : Blk.Is V (w.heap.size + 1) [.int .i64 t] 3 := by
    rw [hV]
    exact (Blk.new' (w.alloc (.cells #[.slice ao n cap] 67)) [.int .i64 t] 3 (w.heap.size + 1) (by simp)).alloc _
  have ho : Blk.Is V (w.heap.size + 1 + 1) [.bool true] 4 := by
    rw [hV]
    exact Blk.new' ((w.alloc (.cells #[.slice ao n cap] 67)).alloc (.cells #[.int .i64 t] 3)) [.bool true] 4 _ (by simp)
  have HH := Lib.hid (H V (w.heap.size + 1 + 1) w.heap.size (w.heap.size + 1) kw (by omega) (by omega) (by omega) ho hs ht)
  have KW := Lib.hid kw
  have HSS := Lib.hid hs
  have HV := Lib.hid hV
  clear H kw hs ht ho hV
  go_enter Try.func9, Try.ntmps9
  go_upto_region 2 with (fail)
  rw [← HV.out]
  clear HV
  obtain ⟨o, ho⟩ : ∃ o, o = w.heap.size + 1 + 1 := ⟨_, rfl⟩
  obtain ⟨h1, hh1⟩ : ∃ h, h = w.heap.size + 1 := ⟨_, rfl⟩
  rw [← ho] at HH ⊢
  rw [← hh1] at HH ⊢
  have bo : w.heap.size < o := by omega
  clear ho hh1
  have s0 := HSS.out.cell 0
  simp only [List.getElem?_cons_zero] at s0
  go_wp2_with fail
  refine HH.out.mono ?_
  rintro e w1 ⟨rfl, o1, k1⟩
  have K1 : Below w.heap.size w w1 := KW.out.trans (k1.below (by simp; omega) KW.out.size)
  have o0 := o1.cell 0
  simp only [List.getElem?_cons_zero] at o0
  clear HH KW o1 k1 HSS s0
  go_wp2
  exact bodyPost_ret (results_tmp rfl _ _ _) rfl ⟨rfl, K1⟩
theorem steps_nil (t : Int) (w : World) : Calls Try.prog 9 #[nilS, .int .i64 t] w fun e w' => e = .returned (.bool true) ∧ Below w.heap.size w w' :=
  steps_of none 0 0 t true w fun W _ _ _ _ _ _ _ ho _ _ => (each_nil 22 _ W).mono fun _ _ ⟨h1, h2⟩ => ⟨h1, ho.below h2, But.of h2⟩
theorem steps_one (g u1 r1 : Nat) (n1 : Int) (d1 : List UInt8) (w : World) (hg : Blk.Is w g (ims n1 u1 r1) 51) (h1 : Blk.Is w r1 (rcs [107] 1 1 d1) 66) :
    Calls Try.prog 9 #[.slice (some ⟨g, 0, none⟩) 1 1, .int .i64 1] w fun e w' => e = .returned (.bool false) ∧ Below w.heap.size w w' := by
  refine steps_of _ _ _ 1 false w fun W co cs ct hk hwo hst hto ho hs ht => ?_
  have lg := hg.lt
  have lr1 := h1.lt
  refine (each_one 22 _ g u1 r1 n1 [107] d1 1 1 W (fun i w' => Blk.Is w' g (ims n1 u1 r1) 51 ∧ Blk.Is w' r1 (rcs [107] 1 1 d1) 66 ∧ Blk.Is w' cs [.slice (some ⟨g, 0, none⟩) 1 1] 67 ∧ Blk.Is w' ct [.int .i64 1] 3 ∧ Blk.Is w' co [.bool (decide (i = 0))] 4 ∧ But [co] W w')
    enter22 (fun i w' h => ⟨h.1, h.2.1⟩) (fun i w' w'' h hb => ⟨h.1.below hb, h.2.1.below hb, h.2.2.1.below hb, h.2.2.2.1.below hb, h.2.2.2.2.1.below hb, h.2.2.2.2.2.trans (But.of hb)⟩) ?_ ?_).mono ?_
  · rintro w' ⟨a1, a2, a3, a4, a5, a6⟩
    refine (steps1_of n1 u1 r1 co cs ct d1 _ 1 1 false w' a5 a3 a4 (by decide) (fun f W' hb => count_one_true g u1 r1 n1 [107] d1 1 1 [107] f W' (a1.below hb) (a2.below hb))).mono ?_
    rintro e w'' ⟨e1, e2, e3⟩
    exact ⟨e1, is_but a1 e3 (by simp; omega), is_but a2 e3 (by simp; omega), is_but a3 e3 (by simp; omega), is_but a4 e3 (by simp; omega), e2, a6.trans e3⟩
  · exact ⟨hg.below hk, h1.below hk, hs, ht, ho, But.refl _ _⟩
  · rintro e w' ⟨e1, a1, a2, a3, a4, a5, a6⟩
    exact ⟨e1, a5, a6⟩
theorem steps_two (g u1 r1 u2 r2 : Nat) (n1 n2 : Int) (d1 d2 : List UInt8) (w : World) (hg : Blk.Is w g (ims n1 u1 r1 ++ ims n2 u2 r2) 51) (h1 : Blk.Is w r1 (rcs [107] 1 1 d1) 66) (h2 : Blk.Is w r2 (rcs [107] 1 1 d2) 66) :
    Calls Try.prog 9 #[.slice (some ⟨g, 0, none⟩) 2 2, .int .i64 1] w fun e w' => e = .returned (.bool true) ∧ Below w.heap.size w w' := by
  refine steps_of _ _ _ 1 true w fun W co cs ct hk hwo hst hto ho hs ht => ?_
  have lg := hg.lt
  have lr1 := h1.lt
  have lr2 := h2.lt
  refine (each_two 22 _ g u1 r1 u2 r2 n1 n2 [107] [107] d1 d2 1 1 1 1 W (fun i w' => Blk.Is w' g (ims n1 u1 r1 ++ ims n2 u2 r2) 51 ∧ Blk.Is w' r1 (rcs [107] 1 1 d1) 66 ∧ Blk.Is w' r2 (rcs [107] 1 1 d2) 66 ∧ Blk.Is w' cs [.slice (some ⟨g, 0, none⟩) 2 2] 67 ∧ Blk.Is w' ct [.int .i64 1] 3 ∧ Blk.Is w' co [.bool true] 4 ∧ But [co] W w')
    enter22 (fun i w' h => ⟨h.1, h.2.1, h.2.2.1⟩) (fun i w' w'' h hb => ⟨h.1.below hb, h.2.1.below hb, h.2.2.1.below hb, h.2.2.2.1.below hb, h.2.2.2.2.1.below hb, h.2.2.2.2.2.1.below hb, h.2.2.2.2.2.2.trans (But.of hb)⟩) ?_ ?_ ?_).mono ?_
  · rintro w' ⟨a1, a2, a3, a4, a5, a6, a7⟩
    refine (steps1_of n1 u1 r1 co cs ct d1 _ 2 1 true w' a6 a4 a5 (by decide) (fun f W' hb => count_two_true g u1 r1 u2 r2 n1 n2 [107] d1 [107] d2 1 1 1 1 [107] f W' (a1.below hb) (a2.below hb) (a3.below hb))).mono ?_
    rintro e w'' ⟨e1, e2, e3⟩
    exact ⟨e1, is_but a1 e3 (by simp; omega), is_but a2 e3 (by simp; omega), is_but a3 e3 (by simp; omega), is_but a4 e3 (by simp; omega), is_but a5 e3 (by simp; omega), e2, a7.trans e3⟩
  · rintro w' ⟨a1, a2, a3, a4, a5, a6, a7⟩
    refine (steps1_of n2 u2 r2 co cs ct d2 _ 2 1 true w' a6 a4 a5 (by decide) (fun f W' hb => count_two_true g u1 r1 u2 r2 n1 n2 [107] d1 [107] d2 1 1 1 1 [107] f W' (a1.below hb) (a2.below hb) (a3.below hb))).mono ?_
    rintro e w'' ⟨e1, e2, e3⟩
    exact ⟨e1, is_but a1 e3 (by simp; omega), is_but a2 e3 (by simp; omega), is_but a3 e3 (by simp; omega), is_but a4 e3 (by simp; omega), is_but a5 e3 (by simp; omega), e2, a7.trans e3⟩
  · exact ⟨hg.below hk, h1.below hk, h2.below hk, hs, ht, ho, But.refl _ _⟩
  · rintro e w' ⟨e1, a1, a2, a3, a4, a5, a6, a7⟩
    exact ⟨e1, a6, a7⟩
end Go.Proofs.Ythkibccfdpbojaa.Au
