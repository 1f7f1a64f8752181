/- Audits: the keys of states, walked. Conditions: those that are named. -/
import Derived.Test.YthkibccfdpbojaaAuL
import Derived.OwnWalk
namespace Go.Proofs.Ythkibccfdpbojaa.Au
open Go Go.RowKit
theorem info9 : ∃ i, Try.prog.info? 9 = some i ∧ i.zero = some (.string ByteArray.empty) ∧ i.size = 1 ∧ i.bytes = 16 := by
  have h : (Try.prog.info? 9).map (fun i => (i.zero, i.size, i.bytes)) = some (some (.string ByteArray.empty), 1, 16) := by kernel_rfl
  cases hq : Try.prog.info? 9 with
  | none => simp [hq] at h
  | some i =>
    simp [hq] at h
    exact ⟨i, rfl, h.1, h.2.1, h.2.2⟩
/-- One text is appended to none. -/
theorem sappend_one {w : World} {ops : Array Oper} {rest : List Oper} {o : Oper} {a : Act} {Q : Exit → Act → World → Prop} (hgd : o.guard = none) (s x : Operand)
    (ho : o.op = .call { callee := .builtin .append, args := #[s, x], argTypes := #[55, 55] }) (hs : a.eval s = nilS) (ad : Addr) (c : Nat) (y : List UInt8) (hx : a.eval x = .slice (some ad) 1 c) (hnew : w.cell? ad = some (txt y))
    (h : ∀ g cap w', w.heap.size ≤ g → w'.cell? ⟨g, 0, none⟩ = some (txt y) → Below w.heap.size w w' → wpList Try.prog ops Q rest (a.put o.dst (.slice (some ⟨g, 0, none⟩) 1 cap)) w') : wpList Try.prog ops Q (o :: rest) a w := by
  obtain ⟨i, hi, hz, hsz, hby⟩ := info9
  refine wpList_append_own w hgd s x 55 ho w.heap.size 9 i (.string ByteArray.empty) 1 16 (by kernel_rfl) hi hz hsz hby rfl (by decide) nilS 0 [] hs (World.ownsRow_nil w w.heap.size 9 1) ad 1 c [txt y] hx rfl (by
    intro j u hj
    cases j with
    | zero => obtain rfl := Option.some.inj hj; exact hnew
    | succ j => cases j <;> cases hj) (by intro u hu; rcases List.mem_singleton.1 hu with rfl; rfl)
    (by simp only [maxLen]; omega) (by omega) (Nat.le_refl _) ?_
  intro v' w' h1 h2 h3
  have hc := fun g (hg : v'.ownBlock = some g) => World.ownsRow.cells h1 (g := g) hg
  have hb : Below w.heap.size w w' := (Below.refl _ _).grown h2 (Nat.le_refl _) (fun k hk => by cases hk)
  rcases h1.2 with ⟨rfl, h0⟩ | ⟨g, cap, cur, rfl, hbb, hg, r1, r2, r3, r4⟩
  · omega
  · refine h g cap w' hbb ?_ hb
    have := hc g rfl 0 (txt y) rfl
    simpa [Addr.add] using this
/-- How long a slice is. -/
def lenOf : Value → Nat
  | .slice _ n _ => n
  | _ => 0
theorem RIs.new (w : World) (m n : Nat) : RIs (w.alloc (.mapIter (some m) n #[] n)) w.heap.size m n #[] n := by
  show (w.heap.push _)[w.heap.size]? = _
  simp
theorem RIs.set {w : World} {r m n l : Nat} {s : Array Nat} (h : RIs w r m n s l) (s' : Array Nat) (l' : Nat) : RIs (setMap w r (.mapIter (some m) n s' l')) r m n s' l' := by
  have hl : r < w.heap.size := (Array.getElem?_eq_some_iff.1 h).1
  unfold RIs setMap
  simp [hl]
theorem RIs.lt {w : World} {r m n l : Nat} {s : Array Nat} (h : RIs w r m n s l) : r < w.heap.size := (Array.getElem?_eq_some_iff.1 h).1
theorem RIs.below {w w' : World} {r m n l : Nat} {s : Array Nat} (h : RIs w r m n s l) (hb : Below w.heap.size w w') : RIs w' r m n s l := by
  have hl := h.lt
  unfold RIs at h ⊢
  rw [hb.block r hl]
  exact h
set_option maxHeartbeats 4000000 in
set_option maxRecDepth 100000 in
theorem keys_none (l : Value) (w : World)
    (H : ∀ W m ch, Below w.heap.size w W → w.heap.size ≤ m → m < ch → MIs W m #[] 0 → Blk.Is W ch [.map (some m)] 94 →
      Calls Try.prog 14 #[l, .func (.func 35) #[] #[.pointer (some ⟨ch, 0, none⟩)]] W fun e w' => e = .returned (.tuple #[]) ∧ MIs w' m #[] 0 ∧ Blk.Is w' ch [.map (some m)] 94 ∧ But [m] W w') :
    Calls Try.prog 12 #[l] w fun e w' => e = .returned nilS ∧ Below w.heap.size w w' := by
  have hmm := @run_makeMap Try.prog
  obtain ⟨V, hV⟩ : ∃ V, V = (w.alloc (.map #[] 0)).alloc (.cells #[.map (some w.heap.size)] 94) := ⟨_, rfl⟩
  have kw : Below w.heap.size w V := by
    rw [hV]
    exact ((Below.refl _ _).alloc (Nat.le_refl _) _).alloc (by simp) _
  have hm : MIs V w.heap.size #[] 0 := by
    rw [hV]
    exact (MIs.new w).below ((Below.refl _ _).alloc (Nat.le_refl _) _)
  have hh : Blk.Is V (w.heap.size + 1) [.map (some w.heap.size)] 94 := by
    rw [hV]
    exact Blk.new' (w.alloc (.map #[] 0)) [.map (some w.heap.size)] 94 (w.heap.size + 1) (by simp)
  have HH := Lib.hid (H V w.heap.size (w.heap.size + 1) kw (Nat.le_refl _) (by omega) hm hh)
  have KW := Lib.hid kw
  have HV := Lib.hid hV
  clear H kw hm hh hV
  go_enter Try.func12, Try.ntmps12
  go_upto_region 2 with (fail)
  rw [← HV.out]
  clear HV hmm
  obtain ⟨h1, hh1⟩ : ∃ h, h = w.heap.size + 1 := ⟨_, rfl⟩
  rw [← hh1] at HH ⊢
  clear hh1
  go_wp2_with fail
  refine HH.out.mono ?_
  rintro e w1 ⟨rfl, m1, c1, k1⟩
  have K1 : Below w.heap.size w w1 := KW.out.trans (k1.below (by simp) KW.out.size)
  have K2 : Below w.heap.size w (w1.alloc (.mapIter (some w.heap.size) 0 #[] 0)) := K1.alloc K1.size _
  have o0 := c1.cell 0
  simp only [List.getElem?_cons_zero] at o0
  have hr := range_is m1
  have R1 := Lib.hid (RIs.new w1 w.heap.size 0)
  have M1 := Lib.hid (m1.below ((Below.refl _ _).alloc (Nat.le_refl _) (.mapIter (some w.heap.size) 0 #[] 0)))
  clear HH KW c1 k1 K1 m1
  go_upto_region 5 with (fail)
  obtain ⟨W2, hW2⟩ : ∃ W2, W2 = w1.alloc (.mapIter (some w.heap.size) 0 #[] 0) := ⟨_, rfl⟩
  obtain ⟨p, hp⟩ : ∃ p, p = w1.heap.size := ⟨_, rfl⟩
  rw [← hW2] at K2 R1 M1 ⊢
  rw [← hp] at R1 ⊢
  clear hW2 hp hr o0
  have hne := fun ty => next_none W2 ty p w.heap.size R1.out M1.out
  go_loopw [4, 5] (fun v4 _ wr => v4 = nilS ∧ wr = W2) (fun _ _ _ => 0)
  case atStart => exact ⟨rfl, rfl⟩
  case round =>
    obtain ⟨rfl, rfl⟩ := hrel
    go_wp2_with fail
    refine (sort_nil _).mono ?_
    rintro e w3 ⟨rfl, rfl⟩
    go_wp2
    exact bodyPost_ret (results_tmp rfl _ _ _) rfl ⟨rfl, K2⟩
set_option maxHeartbeats 4000000 in
set_option maxRecDepth 100000 in
theorem keys_one (l : Value) (w : World)
    (H : ∀ W m ch, Below w.heap.size w W → w.heap.size ≤ m → m < ch → MIs W m #[] 0 → Blk.Is W ch [.map (some m)] 94 →
      Calls Try.prog 14 #[l, .func (.func 35) #[] #[.pointer (some ⟨ch, 0, none⟩)]] W fun e w' => e = .returned (.tuple #[]) ∧ MIs w' m #[ent] 1 ∧ Blk.Is w' ch [.map (some m)] 94 ∧ But [m] W w') :
    Calls Try.prog 12 #[l] w fun e w' => ∃ g cap, e = .returned (.slice (some ⟨g, 0, none⟩) 1 cap) ∧ w'.cell? ⟨g, 0, none⟩ = some (txt [107]) ∧ Below w.heap.size w w' := by
  have hmm := @run_makeMap Try.prog
  obtain ⟨V, hV⟩ : ∃ V, V = (w.alloc (.map #[] 0)).alloc (.cells #[.map (some w.heap.size)] 94) := ⟨_, rfl⟩
  have kw : Below w.heap.size w V := by
    rw [hV]
    exact ((Below.refl _ _).alloc (Nat.le_refl _) _).alloc (by simp) _
  have hm : MIs V w.heap.size #[] 0 := by
    rw [hV]
    exact (MIs.new w).below ((Below.refl _ _).alloc (Nat.le_refl _) _)
  have hh : Blk.Is V (w.heap.size + 1) [.map (some w.heap.size)] 94 := by
    rw [hV]
    exact Blk.new' (w.alloc (.map #[] 0)) [.map (some w.heap.size)] 94 (w.heap.size + 1) (by simp)
  have HH := Lib.hid (H V w.heap.size (w.heap.size + 1) kw (Nat.le_refl _) (by omega) hm hh)
  have KW := Lib.hid kw
  have HV := Lib.hid hV
  clear H kw hm hh hV
  go_enter Try.func12, Try.ntmps12
  go_upto_region 2 with (fail)
  rw [← HV.out]
  clear HV hmm
  obtain ⟨h1, hh1⟩ : ∃ h, h = w.heap.size + 1 := ⟨_, rfl⟩
  rw [← hh1] at HH ⊢
  clear hh1
  go_wp2_with fail
  refine HH.out.mono ?_
  rintro e w1 ⟨rfl, m1, c1, k1⟩
  have K1 : Below w.heap.size w w1 := KW.out.trans (k1.below (by simp) KW.out.size)
  have K2 : Below w.heap.size w (w1.alloc (.mapIter (some w.heap.size) 1 #[] 1)) := K1.alloc K1.size _
  have o0 := c1.cell 0
  simp only [List.getElem?_cons_zero] at o0
  have hr := range_is m1
  have R1 := Lib.hid (RIs.new w1 w.heap.size 1)
  have M1 := Lib.hid (m1.below ((Below.refl _ _).alloc (Nat.le_refl _) (.mapIter (some w.heap.size) 1 #[] 1)))
  have hwp : w.heap.size < w1.heap.size := m1.lt
  clear HH KW c1 k1 K1 m1
  go_upto_region 5 with (fail)
  obtain ⟨W2, hW2⟩ : ∃ W2, W2 = w1.alloc (.mapIter (some w.heap.size) 1 #[] 1) := ⟨_, rfl⟩
  obtain ⟨p, hp⟩ : ∃ p, p = w1.heap.size := ⟨_, rfl⟩
  rw [← hW2] at K2 R1 M1 ⊢
  rw [← hp] at R1 hwp ⊢
  clear hW2 hp hr o0
  go_loopw [4, 5] (fun v4 _ wr => (v4 = nilS ∧ wr = W2) ∨ ∃ g cap, v4 = .slice (some ⟨g, 0, none⟩) 1 cap ∧ wr.cell? ⟨g, 0, none⟩ = some (txt [107]) ∧ RIs wr p w.heap.size 1 #[0] 1 ∧ MIs wr w.heap.size #[ent] 1 ∧ Below w.heap.size w wr) (fun v4 _ _ => 1 - lenOf v4)
  case atStart => exact .inl ⟨rfl, rfl⟩
  case round =>
    rcases hrel with ⟨rfl, hw⟩ | ⟨g, cap, rfl, hc, R2, M2, K3⟩
    · subst hw
      have hne := fun ty => next_one wr ty p w.heap.size R1.out M1.out
      have R2 := Lib.hid (R1.out.set #[0] 1)
      have M2 : Hid (MIs (setMap wr p (.mapIter (some w.heap.size) 1 #[0] 1)) w.heap.size #[ent] 1) := Lib.hid (M1.out.but (setMap_but wr p _ [p] (by simp)) (by simp; omega))
      have K3 : Below w.heap.size w (setMap wr p (.mapIter (some w.heap.size) 1 #[0] 1)) := K2.trans ((setMap_but wr p _ [p] (by simp)).below (by simp; omega) K2.size)
      clear K2
      go_upto_region 6 with (fail)
      generalize setMap wr p (.mapIter (some w.heap.size) 1 #[0] 1) = W3 at R2 M2 K3 ⊢
      have he := entry_one W3 p w.heap.size R2.out M2.out
      clear hne
      go_wp2_with (first | (refine sappend_one rfl (.tmp 16) (.tmp 18) rfl rfl ⟨W3.heap.size, 0, none⟩ 1 [107] rfl ((Blk.new W3 [txt [107]] 9).cell 0) ?_) | fail)
      intro g cap w5 hg hc hb
      have k5 : Below W3.heap.size W3 w5 := ((Below.refl _ _).alloc (Nat.le_refl _) _).trans (hb.mono (by simp))
      have R5 := Lib.hid (R2.out.below k5)
      have M5 := Lib.hid (M2.out.below k5)
      have K5 : Below w.heap.size w w5 := K3.trans (k5.mono K3.size)
      have HC5 := Lib.hid hc
      clear hg hb k5 he K3 hc
      go_wp2_with fail
      go_roundw
      case rel => exact .inr ⟨g, cap, rfl, HC5.out, R5.out, M5.out, K5⟩
      case measure => simp [lenOf]
    · have hne := fun ty => next_over wr ty p w.heap.size R2 M2
      have HC := Lib.hid hc
      clear R2 M2 hc
      go_wp2_with fail
      refine (sort_one g cap _).mono ?_
      rintro e w3 ⟨rfl, rfl⟩
      go_wp2
      exact bodyPost_ret (results_tmp rfl _ _ _) rfl ⟨g, cap, rfl, HC.out, K3⟩
end Go.Proofs.Ythkibccfdpbojaa.Au
