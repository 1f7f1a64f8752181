/- All operations that make or write memory. No condition. -/
import Derived.Test.YtlagmjdifilheaaGreatExJ
namespace Go.Proofs.YtlagmjdifilheaaGreat.Exe
open Go Go.RowKit
section all
variable {E : Env} {P : Program} {B : Nat → Prop} {w0 w : World} {h : Hp} {η : Operand → Value} {a : Act}
theorem lenQ_ok {v x : Value} {n : Nat} (hq : lenQ v = some n) (hr : Rel E v x) (w : World) : (Builtin.lenOf x).run P w = .ok n w := by
  unfold lenQ at hq
  split at hq
  · cases hq
    obtain ⟨a', cap', rfl, _⟩ := hr.to_slice'
    rfl
  · cases hq
    obtain rfl := hr.of_string
    rfl
  · cases hq
theorem wrap_small {m : Int} (h : 0 ≤ m ∧ m ≤ 2 ^ 20) : IntKind.i64.wrap m = m := by
  have h1 : m % (2 ^ 64 : Int) = m := Int.emod_eq_of_lt h.1 (by omega)
  show (if IntKind.i64.signed && m % (2 ^ IntKind.i64.bits : Int) ≥ (2 ^ (IntKind.i64.bits - 1) : Int) then m % (2 ^ IntKind.i64.bits : Int) - (2 ^ IntKind.i64.bits : Int) else m % (2 ^ IntKind.i64.bits : Int)) = m
  have h2 : (2 ^ IntKind.i64.bits : Int) = 2 ^ 64 := rfl
  have h3 : (2 ^ (IntKind.i64.bits - 1) : Int) = 2 ^ 63 := rfl
  rw [h2, h3, h1]
  simp
  intro _ h
  omega
theorem makeSlice_ok {t e : TypeId} {k k' : IntKind} {n m : Int} {z : Nat} {v : Value} (hu : P.underlying t = some (.slice e)) (hz : szQ P e = some z) (hv : zeroQ P e = some v) (hc : 0 ≤ n ∧ n ≤ m ∧ m ≤ 2 ^ 20 ∧ (bytesQ P e).getD (2 ^ 30) ≤ 2 ^ 20 ∧ v.cells.size = z) :
    (Instr.makeSlice t (.int k n) (.int k' m)).run P w = .ok (.slice (some ⟨w.heap.size, 0, none⟩) n.toNat m.toNat) (w.alloc (.cells (zerosL v.cells.toList m.toNat).toArray e)) := by
  obtain ⟨h0, h1, h2, h3, h4⟩ := hc
  have hzr : ∀ w, (zeroValue e).run P w = .ok v w := fun w => (run_zero hv).1
  obtain ⟨i, hi, hib⟩ : ∃ i, P.info? e = some i ∧ i.bytes ≤ 2 ^ 20 := by
    unfold bytesQ at h3
    cases hi : P.info? e with
    | none => rw [hi] at h3; simp at h3
    | some i => exact ⟨i, rfl, by simpa [hi] using h3⟩
  have hti : ∀ w, (typeInfo e).run P w = .ok i w := fun w => by simp [typeInfo, hi]
  have hm : (i.bytes : Int) * m ≤ 2 ^ 20 * 2 ^ 20 := Int.mul_le_mul (by omega) h2 (by omega) (by omega)
  have hw1 := wrap_small (m := n) ⟨h0, by omega⟩
  have hw2 := wrap_small (m := m) ⟨by omega, h2⟩
  have a1 : ¬ m < 0 := by omega
  have a2 : ¬ ((2 : Int) ^ 48 < (i.bytes : Int) * m) := by omega
  have a3 : ¬ n < 0 := by omega
  have a4 : ¬ m < n := by omega
  have a2' : ¬ ((281474976710656 : Int) < (i.bytes : Int) * m) := by simpa using a2
  have hzz := zeros_run (zs := v.cells) (n := z) (len := m.toNat) h4
  by_cases hn : m.toNat * z = 0
  · simp only [hn, if_true] at hzz
    simp [Instr.makeSlice, run_und hu, asInt, asIntOf, hti, hw1, hw2, a1, a2', a3, a4, run_size hz, hn, newRow]
    exact congrArg (fun c => w.alloc (.cells c e)) (by simpa using hzz)
  · simp only [hn, if_false] at hzz
    simp [Instr.makeSlice, run_und hu, asInt, asIntOf, hti, hw1, hw2, a1, a2', a3, a4, run_size hz, hn, hzr, newRow]
    exact congrArg (fun c => w.alloc (.cells c e)) (by simpa using hzz)
theorem buildSlice_ok {t e : TypeId} {len z : Nat} {v : Value} {ps : Array (Nat × Value)} {cs : Array Value} (hu : P.underlying t = some (.slice e)) (hz : szQ P e = some z) (hv : zeroQ P e = some v) (hb : ¬ 2 ^ 24 < len * z) (hs : v.cells.size = z)
    (hf : Instr.fill (fun i => some (i * z, z)) (zerosL v.cells.toList len).toArray ps.toList = some cs) :
    (Instr.buildSlice t len ps).run P w = .ok (.slice (some ⟨w.heap.size, 0, none⟩) len len) (w.alloc (.cells cs e)) := by
  have hzr : ∀ w, (zeroValue e).run P w = .ok v w := fun w => (run_zero hv).1
  have hzz := zeros_run (zs := v.cells) (n := z) (len := len) hs
  rw [← hzz] at hf
  by_cases hn : len * z = 0
  · simp only [hn, if_true] at hf
    simp at hf
    simp only [Instr.buildSlice, Sem.run_bind, run_und hu, Result.andThen_ok, run_size hz, Sem.run_ite, hn, if_true, Sem.run_pure]
    simp [hf, newRow]
  · simp only [hn, if_false] at hf
    simp only [Instr.buildSlice, Sem.run_bind, run_und hu, Result.andThen_ok, run_size hz, Sem.run_ite, hb, hn, if_false, Sem.run_pure, hzr]
    simp [hf, newRow]
end all
end Go.Proofs.YtlagmjdifilheaaGreat.Exe
