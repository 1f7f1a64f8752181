/- Audits: the keys of which servers know, walked. Conditions: those that are named. -/
import Derived.Test.YthkibccfdpbojaaAuK
import Derived.Maps.RangeRun
namespace Go.Proofs.Ythkibccfdpbojaa.Au
open Go Go.RowKit
theorem check94 (b : Bool) (w : World) : (Instr.checkKey b 10000 9 (txt [107])).run Try.prog w = .ok () w := by cases b <;> kernel_rfl
theorem find94_no (w : World) : (Instr.findKey 9 (txt [107]) []).run Try.prog w = .ok none w := by kernel_rfl
theorem find94_yes (v : Value) (b : Nat) (w : World) : (Instr.findKey 9 (txt [107]) [⟨txt [107], v, b⟩]).run Try.prog w = .ok (some (0, v)) w := by kernel_rfl
theorem keep94 (w : World) : (Instr.keyThatStays (txt [107]) (txt [107])).run Try.prog w = .ok (txt [107]) w := by kernel_rfl
theorem upd94_new (w : World) (m n : Nat) (v : Value) (h : MIs w m #[] n) : (Instr.mapUpdate 94 (.map (some m)) (txt [107]) v).run Try.prog w = .ok () (setMap w m (.map #[⟨txt [107], v, n⟩] (n + 1))) := by
  unfold Instr.mapUpdate
  simp [Sem.run_bind, getObj_is h, check94, find94_no, Result.andThen, run_setMap h]
theorem upd94_old (w : World) (m n b : Nat) (v0 v : Value) (h : MIs w m #[⟨txt [107], v0, b⟩] n) : (Instr.mapUpdate 94 (.map (some m)) (txt [107]) v).run Try.prog w = .ok () (setMap w m (.map #[⟨txt [107], v, b⟩] n)) := by
  unfold Instr.mapUpdate
  simp [Sem.run_bind, getObj_is h, check94, find94_yes, keep94, Result.andThen, run_setMap h]
/-- The one entry. -/
abbrev ent : MapEntry := ⟨txt [107], .bool true, 0⟩
set_option maxHeartbeats 4000000 in
set_option maxRecDepth 100000 in
theorem keys1_of (x : Int) (u r m n n' ch : Nat) (es es' : Array MapEntry) (d : List UInt8) (w : World) (hh : Blk.Is w ch [.map (some m)] 94) (hm : MIs w m es n)
    (hu : ∀ W, MIs W m es n → (Instr.mapUpdate 94 (.map (some m)) (txt [107]) (.bool true)).run Try.prog W = .ok () (setMap W m (.map es' n'))) :
    Calls Try.prog 35 #[.agg (ims x u r).toArray, .agg (rcs [107] 1 1 d).toArray, .pointer (some ⟨ch, 0, none⟩)] w fun e w' =>
      e = .returned (.tuple #[]) ∧ MIs w' m es' n' ∧ But [m] w w' := by
  have kw : Below w.heap.size w ((w.alloc (.cells (ims x u r).toArray 51)).alloc (.cells (rcs [107] 1 1 d).toArray 66)) := ((Below.refl _ _).alloc (Nat.le_refl _) _).alloc (by simp) _
  have RB := Lib.hid (Blk.new' (w.alloc (.cells (ims x u r).toArray 51)) (rcs [107] 1 1 d) 66 (w.heap.size + 1) (by simp))
  have HH := Lib.hid (hh.below kw)
  have HM := Lib.hid (hm.below kw)
  have KW := Lib.hid (But.of (S := [m]) kw)
  have HU := Lib.hid hu
  clear hh hm kw hu
  go_enter Try.func35, Try.ntmps35
  go_upto_region 1 with (fail)
  obtain ⟨W, hW⟩ : ∃ W, W = (w.alloc (.cells (ims x u r).toArray 51)).alloc (.cells (rcs [107] 1 1 d).toArray 66) := ⟨_, rfl⟩
  obtain ⟨p, hp⟩ : ∃ p, p = w.heap.size + 1 := ⟨_, rfl⟩
  rw [← hW] at RB HH HM KW ⊢
  rw [← hp] at RB ⊢
  clear hW hp
  have a0 := RB.out.cell 0
  have b0 := HH.out.cell 0
  simp only [List.getElem?_cons_zero] at a0 b0
  have hu := HU.out W HM.out
  have HM2 := Lib.hid (HM.out.set es' n')
  have KW2 := Lib.hid (KW.out.trans (setMap_but W m (.map es' n') [m] (by simp)))
  clear HM KW RB HH HU
  go_wp2
  exact ⟨rfl, _, results_none rfl _ _ _, rfl, HM2.out, KW2.out⟩
theorem enter35 (args : Array Value) (w : World) : (callFunc 35 args).run Try.prog w = .ok (.enter 35 args) w := by kernel_rfl
/-- A run over a map. -/
def RIs (w : World) (r m since : Nat) (seen : Array Nat) (last : Nat) : Prop := w.heap[r]? = some (.mapIter (some m) since seen last)
theorem range_is {w : World} {m n : Nat} {es : Array MapEntry} (h : MIs w m es n) : (Instr.range 94 (.map (some m))).run Try.prog w = .ok (.pointer (some ⟨w.heap.size, 0, none⟩)) (w.alloc (.mapIter (some m) n #[] n)) :=
  run_range_map w 94 9 4 m es n Try.underlying94 h
theorem next_none (w : World) (ty : TypeId) (r m : Nat) (hr : RIs w r m 0 #[] 0) (hm : MIs w m #[] 0) : (Instr.next (.pointer (some ⟨r, 0, none⟩)) false ty).run Try.prog w = .ok (.tuple #[.bool false]) w := by
  unfold RIs at hr
  unfold MIs at hm
  simp [Instr.next, getObj, Sem.run_bind, Sem.run, hr, hm, Result.andThen, choose, Question.forced]
theorem next_one (w : World) (ty : TypeId) (r m : Nat) (hr : RIs w r m 1 #[] 1) (hm : MIs w m #[ent] 1) : (Instr.next (.pointer (some ⟨r, 0, none⟩)) false ty).run Try.prog w = .ok (.tuple #[.bool true, txt [107], .bool true]) (setMap w r (.mapIter (some m) 1 #[0] 1)) := by
  unfold RIs at hr
  unfold MIs at hm
  simp [Instr.next, getObj, Sem.run_bind, Sem.run, hr, hm, Result.andThen, choose, Question.forced, setObj, setMap]
theorem next_over (w : World) (ty : TypeId) (r m : Nat) (hr : RIs w r m 1 #[0] 1) (hm : MIs w m #[ent] 1) : (Instr.next (.pointer (some ⟨r, 0, none⟩)) false ty).run Try.prog w = .ok (.tuple #[.bool false]) w := by
  unfold RIs at hr
  unfold MIs at hm
  simp [Instr.next, getObj, Sem.run_bind, Sem.run, hr, hm, Result.andThen, choose, Question.forced]
theorem entry_one (w : World) (r m : Nat) (hr : RIs w r m 1 #[0] 1) (hm : MIs w m #[ent] 1) : (Instr.entry (.pointer (some ⟨r, 0, none⟩))).run Try.prog w = .ok (.tuple #[txt [107], .bool true]) w := by
  unfold RIs at hr
  unfold MIs at hm
  simp [Instr.entry, getObj, Sem.run_bind, Sem.run, hr, hm, Result.andThen]
end Go.Proofs.Ythkibccfdpbojaa.Au
