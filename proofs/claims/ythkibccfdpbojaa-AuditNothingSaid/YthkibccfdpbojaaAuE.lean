/- Audits: maps of one entry, as run. Conditions: those that are named. -/
import Derived.Test.YthkibccfdpbojaaAuD
namespace Go.Proofs.Ythkibccfdpbojaa.Au
open Go Go.RowKit
/-- A map's block. -/
def MIs (w : World) (m : Nat) (es : Array MapEntry) (n : Nat) : Prop := w.heap[m]? = some (.map es n)
theorem MIs.lt {w : World} {m n : Nat} {es : Array MapEntry} (h : MIs w m es n) : m < w.heap.size := (Array.getElem?_eq_some_iff.1 h).1
theorem MIs.but {S : List Nat} {w w' : World} {m n : Nat} {es : Array MapEntry} (h : MIs w m es n) (hb : But S w w') (hn : m ∉ S) : MIs w' m es n := by
  have hl := h.lt
  unfold MIs at h ⊢
  rw [hb.block m hl hn]
  exact h
theorem MIs.below {w w' : World} {m n : Nat} {es : Array MapEntry} (h : MIs w m es n) (hb : Below w.heap.size w w') : MIs w' m es n := h.but (S := []) (But.of hb) (by simp)
theorem MIs.new (w : World) : MIs (w.alloc (.map #[] 0)) w.heap.size #[] 0 := by
  show (w.heap.push _)[w.heap.size]? = _
  simp
/-- The place of the key k and the stamp 1, 1. -/
abbrev plc : Value := .agg #[.string ⟨([107] : List UInt8).toArray⟩, .int .i64 1, .int .i64 1]
theorem getObj_is {w : World} {m n : Nat} {es : Array MapEntry} (h : MIs w m es n) : (getObj m).run Try.prog w = .ok (.map es n) w := by
  unfold MIs at h
  simp [getObj, Sem.run, h]
theorem under75 (w : World) : (underlying 75).run Try.prog w = .ok (.map 78 9) w := by kernel_rfl
theorem under94 (w : World) : (underlying 94).run Try.prog w = .ok (.map 9 4) w := by kernel_rfl
theorem check75 (b : Bool) (w : World) : (Instr.checkKey b 10000 78 plc).run Try.prog w = .ok () w := by cases b <;> kernel_rfl
theorem find75_no (w : World) : (Instr.findKey 78 plc []).run Try.prog w = .ok none w := by kernel_rfl
theorem find75_yes (v : Value) (b : Nat) (w : World) : (Instr.findKey 78 plc [⟨plc, v, b⟩]).run Try.prog w = .ok (some (0, v)) w := by kernel_rfl
theorem zero9 (w : World) : (zeroValue 9).run Try.prog w = .ok (.string ByteArray.empty) w := by kernel_rfl
theorem look75_no (w : World) (m n : Nat) (h : MIs w m #[] n) : (Instr.lookup 75 (.map (some m)) plc true).run Try.prog w = .ok (.tuple #[.string ByteArray.empty, .bool false]) w := by
  unfold Instr.lookup
  simp [Sem.run_bind, getObj_is h, check75, find75_no, Result.andThen]
  rfl
theorem look75_yes (w : World) (m n b : Nat) (v : Value) (h : MIs w m #[⟨plc, v, b⟩] n) : (Instr.lookup 75 (.map (some m)) plc true).run Try.prog w = .ok (.tuple #[v, .bool true]) w := by
  unfold Instr.lookup
  simp [Sem.run_bind, getObj_is h, check75, find75_yes, Result.andThen]
/-- A block set. -/
def setMap (w : World) (m : Nat) (o : Obj) : World := { w with heap := w.heap.set! m o }
theorem run_setMap {w : World} {m n : Nat} {es : Array MapEntry} (h : MIs w m es n) (o : Obj) : (setObj m o).run Try.prog w = .ok () (setMap w m o) := by
  unfold MIs at h
  simp [setObj, Sem.run, setMap, h]
theorem MIs.set {w : World} {m n : Nat} {es : Array MapEntry} (h : MIs w m es n) (es' : Array MapEntry) (n' : Nat) : MIs (setMap w m (.map es' n')) m es' n' := by
  have hl := h.lt
  unfold MIs setMap
  simp [hl]
theorem setMap_but (w : World) (m : Nat) (o : Obj) (S : List Nat) (hm : m ∈ S) : But S w (setMap w m o) :=
  ⟨rfl, rfl, rfl, by simp [setMap], fun k hk hn => by
    have : m ≠ k := fun e => hn (e ▸ hm)
    simp [setMap, this]⟩
theorem keep75 (w : World) : (Instr.keyThatStays plc plc).run Try.prog w = .ok plc w := by kernel_rfl
theorem upd75_new (w : World) (m n : Nat) (v : Value) (h : MIs w m #[] n) : (Instr.mapUpdate 75 (.map (some m)) plc v).run Try.prog w = .ok () (setMap w m (.map #[⟨plc, v, n⟩] (n + 1))) := by
  unfold Instr.mapUpdate
  simp [Sem.run_bind, getObj_is h, check75, find75_no, Result.andThen, run_setMap h]
theorem upd75_old (w : World) (m n b : Nat) (v0 v : Value) (h : MIs w m #[⟨plc, v0, b⟩] n) : (Instr.mapUpdate 75 (.map (some m)) plc v).run Try.prog w = .ok () (setMap w m (.map #[⟨plc, v, b⟩] n)) := by
  unfold Instr.mapUpdate
  simp [Sem.run_bind, getObj_is h, check75, find75_yes, keep75, Result.andThen, run_setMap h]
end Go.Proofs.Ythkibccfdpbojaa.Au
