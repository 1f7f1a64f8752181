/- Audits: what was said of a place, walked. Conditions: those that are named. -/
import Derived.Test.YthkibccfdpbojaaAuE
namespace Go.Proofs.Ythkibccfdpbojaa.Au
open Go Go.RowKit
/-- A text as a value. -/
abbrev txt (d : List UInt8) : Value := .string ⟨d.toArray⟩
set_option maxHeartbeats 4000000 in
set_option maxRecDepth 100000 in
theorem said_new (m n : Nat) (d : List UInt8) (w : World) (hm : MIs w m #[] n) : Calls Try.prog 21 #[.map (some m), plc, txt d] w fun e w' => e = .returned (.bool true) ∧ MIs w' m #[⟨plc, txt d, n⟩] (n + 1) ∧ But [m] w w' := by
  have kw : Below w.heap.size w (w.alloc (.cells #[txt [107], .int .i64 1, .int .i64 1] 78)) := (Below.refl _ _).alloc (Nat.le_refl _) _
  have hm1 := hm.below kw
  have hl := look75_no _ m n hm1
  have hu := upd75_new _ m n (txt d) hm1
  have HM := Lib.hid (hm1.set #[⟨plc, txt d, n⟩] (n + 1))
  have HB := Lib.hid ((But.of (S := [m]) kw).trans (setMap_but _ m (.map #[⟨plc, txt d, n⟩] (n + 1)) [m] (by simp)))
  clear hm hm1 kw
  go_enter Try.func21, Try.ntmps21
  go_wp2
  exact bodyPost_ret (results_tmp rfl _ _ _) rfl ⟨rfl, HM.out, HB.out⟩
set_option maxHeartbeats 4000000 in
set_option maxRecDepth 100000 in
theorem said_same (m n b : Nat) (d : List UInt8) (w : World) (hm : MIs w m #[⟨plc, txt d, b⟩] n) : Calls Try.prog 21 #[.map (some m), plc, txt d] w fun e w' => e = .returned (.bool true) ∧ MIs w' m #[⟨plc, txt d, b⟩] n ∧ But [m] w w' := by
  have kw : Below w.heap.size w (w.alloc (.cells #[txt [107], .int .i64 1, .int .i64 1] 78)) := (Below.refl _ _).alloc (Nat.le_refl _) _
  have hm1 := hm.below kw
  have hl := look75_yes _ m n b _ hm1
  have hu := upd75_old _ m n b _ (txt d) hm1
  have HM := Lib.hid (hm1.set #[⟨plc, txt d, b⟩] n)
  have HB := Lib.hid ((But.of (S := [m]) kw).trans (setMap_but _ m (.map #[⟨plc, txt d, b⟩] n) [m] (by simp)))
  clear hm hm1 kw
  go_enter Try.func21, Try.ntmps21
  go_wp2
  exact bodyPost_ret (results_tmp rfl _ _ _) rfl ⟨rfl, HM.out, HB.out⟩
set_option maxHeartbeats 4000000 in
set_option maxRecDepth 100000 in
theorem said_other (m n b : Nat) (w : World) (hm : MIs w m #[⟨plc, txt [100], b⟩] n) : Calls Try.prog 21 #[.map (some m), plc, txt [101]] w fun e w' => e = .returned (.bool false) ∧ MIs w' m #[⟨plc, txt [101], b⟩] n ∧ But [m] w w' := by
  have kw : Below w.heap.size w (w.alloc (.cells #[txt [107], .int .i64 1, .int .i64 1] 78)) := (Below.refl _ _).alloc (Nat.le_refl _) _
  have hm1 := hm.below kw
  have hl := look75_yes _ m n b _ hm1
  have hu := upd75_old _ m n b _ (txt [101]) hm1
  have HM := Lib.hid (hm1.set #[⟨plc, txt [101], b⟩] n)
  have HB := Lib.hid ((But.of (S := [m]) kw).trans (setMap_but _ m (.map #[⟨plc, txt [101], b⟩] n) [m] (by simp)))
  clear hm hm1 kw
  go_enter Try.func21, Try.ntmps21
  go_wp2
  exact bodyPost_ret (results_tmp rfl _ _ _) rfl ⟨rfl, HM.out, HB.out⟩
set_option maxHeartbeats 4000000 in
set_option maxRecDepth 100000 in
theorem agree1_of (x : Int) (u r m n n' ch co cr : Nat) (es es' : Array MapEntry) (β : Bool) (d : List UInt8) (w : World) (hh : Blk.Is w ch [.map (some m)] 75) (ho : Blk.Is w co [.bool true] 4) (hm : MIs w m es n) (hcm : m ≠ co)
    (hsaid : ∀ W, MIs W m es n → Calls Try.prog 21 #[.map (some m), plc, txt d] W fun e w' => e = .returned (.bool β) ∧ MIs w' m es' n' ∧ But [m] W w') :
    Calls Try.prog 20 #[.agg (ims x u r).toArray, .agg (rcs [107] 1 1 d).toArray, .pointer (some ⟨ch, 0, none⟩), .pointer (some ⟨co, 0, none⟩), .pointer (some ⟨cr, 0, none⟩)] w fun e w' =>
      e = .returned (.tuple #[]) ∧ MIs w' m es' n' ∧ Blk.Is w' co [.bool β] 4 ∧ But [m, co] w w' := by
  have kw : Below w.heap.size w ((w.alloc (.cells (ims x u r).toArray 51)).alloc (.cells (rcs [107] 1 1 d).toArray 66)) := ((Below.refl _ _).alloc (Nat.le_refl _) _).alloc (by simp) _
  have RB := Lib.hid (Blk.new' (w.alloc (.cells (ims x u r).toArray 51)) (rcs [107] 1 1 d) 66 (w.heap.size + 1) (by simp))
  have HH := Lib.hid (hh.below kw)
  have HO := Lib.hid (ho.below kw)
  have HM := Lib.hid (hm.below kw)
  have hm_lt := hm.lt
  have ho_lt := ho.lt
  have KW := Lib.hid (But.of (S := [m, co]) kw)
  have HS := Lib.hid hsaid
  clear hh ho hm kw hsaid
  go_enter Try.func20, Try.ntmps20
  go_upto_region 1 with (fail)
  obtain ⟨W, hW⟩ : ∃ W, W = (w.alloc (.cells (ims x u r).toArray 51)).alloc (.cells (rcs [107] 1 1 d).toArray 66) := ⟨_, rfl⟩
  obtain ⟨p, hp⟩ : ∃ p, p = w.heap.size + 1 := ⟨_, rfl⟩
  rw [← hW] at RB HH HO HM KW ⊢
  rw [← hp] at RB ⊢
  have hmp : m ≠ p := by omega
  have hcp : co ≠ p := by omega
  clear hW hp
  have a := fun i => RB.out.cell i
  have a0 := a 0; have a1 := a 1; have a2 := a 2; have a3 := a 3
  have b0 := HH.out.cell 0
  simp only [List.getElem?_cons_zero, List.getElem?_cons_succ] at a0 a1 a2 a3 b0
  clear a
  go_wp2_with fail
  refine (HS.out _ HM.out).mono ?_
  rintro e w1 ⟨rfl, m1, k1⟩
  have HM1 := Lib.hid m1
  have HO1 := Lib.hid (is_but HO.out k1 (by simpa using hcm.symm))
  have RB1 := Lib.hid (is_but RB.out k1 (by simpa using hmp.symm))
  have KW1 := Lib.hid (KW.out.trans (k1.mono (by simp)))
  clear m1 k1 a0 a1 a2 a3 b0 HH HO RB KW HM
  have o0 := HO1.out.cell 0
  have of := HO1.out.frozen 0
  have a8 := RB1.out.cell 8
  have a7 := RB1.out.cell 7
  simp only [List.getElem?_cons_zero, List.getElem?_cons_succ] at o0 a7 a8
  have HO2 := Lib.hid (HO1.out.set 0 (.bool β))
  have HM2 : Hid (MIs (w1.setCell ⟨co, 0, none⟩ (.bool β)) m es' n') := Lib.hid (HM1.out.but ((But.refl [co] w1).setCell (p := ⟨co, 0, none⟩) (by simp) _) (by simpa using hcm))
  have RB2 : Hid (Blk.Is (w1.setCell ⟨co, 0, none⟩ (.bool β)) p (rcs [107] 1 1 d) 66) := Lib.hid (is_but RB1.out ((But.refl [co] w1).setCell (p := ⟨co, 0, none⟩) (by simp) _) (by simpa using hcp.symm))
  have KW2 := Lib.hid (KW1.out.setCell (p := ⟨co, 0, none⟩) (by simp) (.bool β))
  clear a7 a8
  cases β
  · go_upto_region 3 with (fail)
    generalize w1.setCell ⟨co, 0, none⟩ (.bool false) = W3 at HO2 HM2 RB2 KW2 ⊢
    have a8 := RB2.out.cell 8
    simp only [List.getElem?_cons_zero, List.getElem?_cons_succ] at a8
    clear o0 of
    go_wp2_with fail
    go_loopw [8, 31] (fun _ vi wr => vi = .int .i64 0 ∧ wr = W3) (fun _ _ _ => 0)
    case atStart => exact ⟨rfl, rfl⟩
    case round =>
      obtain ⟨rfl, rfl⟩ := hrel
      go_wp2
      exact ⟨rfl, _, results_none rfl _ _ _, rfl, HM2.out, HO2.out, KW2.out⟩
  · go_upto_region 3 with (fail)
    generalize w1.setCell ⟨co, 0, none⟩ (.bool true) = W3 at HO2 HM2 RB2 KW2 ⊢
    have a8 := RB2.out.cell 8
    simp only [List.getElem?_cons_zero, List.getElem?_cons_succ] at a8
    clear o0 of
    go_wp2_with fail
    go_loopw [8, 31] (fun _ vi wr => vi = .int .i64 0 ∧ wr = W3) (fun _ _ _ => 0)
    case atStart => exact ⟨rfl, rfl⟩
    case round =>
      obtain ⟨rfl, rfl⟩ := hrel
      go_wp2
      exact ⟨rfl, _, results_none rfl _ _ _, rfl, HM2.out, HO2.out, KW2.out⟩
end Go.Proofs.Ythkibccfdpbojaa.Au
