/- append: what the executor tells of it is what the model does. No condition. -/
import Derived.Test.YtlagmjdifilheaaGreatExH
import Derived.Laws.Append
namespace Go.Proofs.YtlagmjdifilheaaGreat.Exe
open Go Go.RowKit
section app
variable {E : Env} {P : Program} {B : Nat → Prop} {w0 w : World} {h : Hp} {η : Operand → Value} {a : Act}
/-- How what is appended is told: how many, and its cells. -/
structure App (P : Program) (ts tx e : TypeId) (z n : Nat) (x : Value) (app : Sem (Array Value)) : Prop where
  inp : ∀ (ty : TypeId) (s : Addr) (len cap : Nat) (xs : Array Value) (w w' : World), len + n ≤ cap → app.run P w = .ok xs w → (storeCells (s.add (len * z)) xs.toList).run P w = .ok () w' →
    (Builtin.append_ #[ts, tx] ty #[.slice (some s) len cap, x]).run P w = .ok (.slice (some s) (len + n) cap) w'
  nil : ∀ (ty : TypeId) (w : World), n = 0 → app.run P w = .ok #[] w → (Builtin.append_ #[ts, tx] ty #[.slice none 0 0, x]).run P w = .ok (.slice none 0 0) w
  grow : ∀ (ty : TypeId) (s : Option Addr) (len cap : Nat) (old xs : Array Value) (zv : Value) (bs : Nat) (w : World), ¬ len + n ≤ cap → bytesQ P e = some bs → bs ≠ 0 → (len + n) * bs ≤ 2 ^ 47 → len + n ≤ 2 ^ 24 → zeroQ P e = some zv →
    (Builtin.firstCells z len (.slice s len cap)).run P w.drew = .ok old w.drew → app.run P w.drew = .ok xs w.drew →
    ∃ c, len + n ≤ c ∧ (Builtin.append_ #[ts, tx] ty #[.slice s len cap, x]).run P w = .ok (.slice (some ⟨w.heap.size, 0, none⟩) (len + n) c) (w.drew.alloc (.cells (old ++ xs ++ Builtin.zeroCells zv.cells (c - (len + n))) e))
theorem app_list {ts tx e : TypeId} {z n : Nat} {x : Value} {d : TypeDesc} (hts : P.underlying ts = some (.slice e)) (htx : P.underlying tx = some d) (hd : ∀ k, d ≠ .int k) (hz : szQ P e = some z) (hlen : ∀ w, (Builtin.lenOf x).run P w = .ok n w) :
    App P ts tx e z n x (Builtin.firstCells z n x) := by
  refine ⟨fun ty s len cap xs w w' h1 h2 h3 => ?_, fun ty w h1 h2 => ?_, fun ty s len cap old xs zv bs w h1 h2 h3 h4 h5 h6 h7 h8 => ?_⟩
  · simp [Builtin.append_, run_und hts, run_und htx, run_size hz, hlen, h1, h2, h3]
  · subst h1
    simp [Builtin.append_, run_und hts, run_und htx, run_size hz, hlen, h2]
  · have hg : ¬ (2 ^ 48 < Builtin.nextslicecap (len + n) cap * bs) := Nat.not_lt.2 (growslice_fits (by omega) (by simpa using h4))
    obtain ⟨i, hi, hib⟩ : ∃ i, P.info? e = some i ∧ i.bytes = bs := by
      unfold bytesQ at h2
      cases hi : P.info? e with
      | none => simp [hi] at h2
      | some i => exact ⟨i, rfl, by simpa [hi] using h2⟩
    have hti : ∀ w, (typeInfo e).run P w = .ok i w := fun w => by simp [typeInfo, hi]
    refine ⟨Question.cut (.appendCap (len + n) cap e) (w.tape w.drawn (.appendCap (len + n) cap e)), by simp [Question.cut], ?_⟩
    simp [Builtin.append_, run_und hts, run_und htx, run_size hz, hlen, h1, h3, hti, hib, hg, h7, h8, (run_zero (w := w.drew) h6).1, newRow, Question.forced]
theorem app_zeros {ts tx e : TypeId} {z : Nat} {k j : IntKind} {m : Int} (hts : P.underlying ts = some (.slice e)) (htx : P.underlying tx = some (.int j)) (hz : szQ P e = some z) (hm : 0 ≤ m ∧ m ≤ 2 ^ 20) {bs : Nat} (hbs : bytesQ P e = some bs) (hb : bs ≤ 2 ^ 20) {zv0 : Value} (hzv : zeroQ P e = some zv0) :
    App P ts tx e z m.toNat (.int k m) (pure (if m.toNat * z = 0 then #[] else Builtin.zeroCells zv0.cells m.toNat)) := by
  obtain ⟨i, hi, hib⟩ : ∃ i, P.info? e = some i ∧ i.bytes = bs := by
    unfold bytesQ at hbs
    cases hi : P.info? e with
    | none => simp [hi] at hbs
    | some i => exact ⟨i, rfl, by simpa [hi] using hbs⟩
  have hti : ∀ w, (typeInfo e).run P w = .ok i w := fun w => by simp [typeInfo, hi]
  have hwrap : IntKind.i64.wrap m = m := by
    have h1 : m % (2 ^ 64 : Int) = m := Int.emod_eq_of_lt hm.1 (by omega)
    show (if IntKind.i64.signed && m % (2 ^ IntKind.i64.bits : Int) ≥ (2 ^ (IntKind.i64.bits - 1) : Int) then m % (2 ^ IntKind.i64.bits : Int) - (2 ^ IntKind.i64.bits : Int) else m % (2 ^ IntKind.i64.bits : Int)) = m
    have h2 : (2 ^ IntKind.i64.bits : Int) = 2 ^ 64 := rfl
    have h3 : (2 ^ (IntKind.i64.bits - 1) : Int) = 2 ^ 63 := rfl
    rw [h2, h3, h1]
    simp
    intro _ h
    omega
  have hn0 : ¬ m < 0 := by omega
  have hzr : ∀ w, (zeroValue e).run P w = .ok zv0 w := fun w => (run_zero hzv).1
  have hbig : ¬ ((2 : Int) ^ 48 < m * (bs : Int)) := by
    have h1 : m * (bs : Int) ≤ 2 ^ 20 * 2 ^ 20 := Int.mul_le_mul hm.2 (by omega) (by omega) (by omega)
    omega
  have hbig' : ¬ (281474976710656 < m * (bs : Int)) := by simpa using hbig
  refine ⟨fun ty s len cap xs w w' h1 h2 h3 => ?_, fun ty w h1 h2 => ?_, fun ty s len cap old xs zv bs' w h1 h2 h3 h4 h5 h6 h7 h8 => ?_⟩
  · simp only [Sem.run_pure, Result.ok.injEq, and_true] at h2
    subst h2
    by_cases h0 : m.toNat * z = 0
    · simp only [h0, if_true] at h3
      simp [Builtin.append_, run_und hts, run_und htx, run_size hz, asInt, asIntOf, hwrap, hn0, hti, hib, hbig', h1, h3, h0]
    · simp only [h0, if_false] at h3
      simp [Builtin.append_, run_und hts, run_und htx, run_size hz, asInt, asIntOf, hwrap, hn0, hti, hib, hbig', h1, h3, h0, hzr]
  · have h0 : m ≤ 0 := by omega
    simp [Builtin.append_, run_und hts, run_und htx, run_size hz, asInt, asIntOf, hwrap, hn0, hti, hib, hbig', h0, h1]
  · obtain rfl : bs = bs' := Option.some.inj (hbs.symm.trans h2)
    have hg : ¬ (2 ^ 48 < Builtin.nextslicecap (len + m.toNat) cap * bs) := Nat.not_lt.2 (growslice_fits (by omega) (by simpa using h4))
    have hI : ¬ (9223372036854775807 < (len : Int) + max m 0) := by omega
    obtain rfl : zv0 = zv := Option.some.inj (hzv.symm.trans h6)
    refine ⟨Question.cut (.appendCap (len + m.toNat) cap e) (w.tape w.drawn (.appendCap (len + m.toNat) cap e)), by simp [Question.cut], ?_⟩
    simp only [Sem.run_pure, Result.ok.injEq, and_true] at h8
    subst h8
    by_cases h0 : m.toNat * z = 0
    · simp [Builtin.append_, run_und hts, run_und htx, run_size hz, asInt, asIntOf, hwrap, hn0, hti, hib, hbig', h1, hI, hg, h7, hzr, newRow, Question.forced, h0]
    · simp [Builtin.append_, run_und hts, run_und htx, run_size hz, asInt, asIntOf, hwrap, hn0, hti, hib, hbig', h1, hI, hg, h7, hzr, newRow, Question.forced, h0]
end app
end Go.Proofs.YtlagmjdifilheaaGreat.Exe
