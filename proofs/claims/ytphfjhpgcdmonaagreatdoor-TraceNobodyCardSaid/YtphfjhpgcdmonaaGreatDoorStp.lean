/- A step of a system, a struct by value of six fields of which the last is a struct of four, opened. Conditions: the types' numbers. -/
import Derived.WalkKit
import Derived.ProofKit
import Derived.OpenShut
import Derived.ShutString
import Derived.Lib.SmallJoins
namespace Go.Proofs.YtphfjhpgcdmonaaGreatDoor.Stp
open Go Go.RowKit Go.ChangeShapes Go.WideShapes Go.ChangeAt Go.Joins
variable {H : Type} {enc : TypeId × Value → H} {P : Program} {w : World} {base : Nat} {spare : Nat → Bool} {held : Bool}
theorem array9 {α : Type} {cs : Array α} (h : cs.size = 9) : ∃ c0 c1 c2 c3 c4 c5 c6 c7 c8, cs = #[c0, c1, c2, c3, c4, c5, c6, c7, c8] := by
  obtain ⟨l⟩ := cs
  match l, h with
  | [c0, c1, c2, c3, c4, c5, c6, c7, c8], _ => exact ⟨c0, c1, c2, c3, c4, c5, c6, c7, c8, rfl⟩
theorem one_int {ti : TypeId} {n : Nat} {c : Value} {y : DataW H × List MemPlace} (hi : P.underlying ti = some (.int .i64)) (h : DataW.trod enc P w base spare held n ti [c] = some y) : ∃ a, c = .int .i64 a := by
  obtain ⟨a, e, _⟩ := DataW.trod_int hi h
  simp at e
  exact ⟨a, e⟩
theorem one_str {ts : TypeId} {n : Nat} {c : Value} {y : DataW H × List MemPlace} (hs : P.underlying ts = some .string) (h : DataW.trod enc P w base spare held n ts [c] = some y) : ∃ a, c = .string a := by
  obtain ⟨a, e, _⟩ := DataW.trod_string hs h
  simp at e
  exact ⟨a, e⟩
theorem open_step {r : Reach} {b0 : Nat} {t tf ti ts : TypeId} {f0 f1 f2 f3 f4 f5 g0 g1 g2 g3 : Field} {v : Value} {d : DataW H} {p : List MemPlace}
    (hs : P.underlying t = some (.struct #[f0, f1, f2, f3, f4, f5])) (hf : P.underlying tf = some (.struct #[g0, g1, g2, g3])) (hi : P.underlying ti = some (.int .i64)) (hst : P.underlying ts = some .string)
    (e0 : f0.type = ti ∧ f0.offset = 0) (e1 : f1.type = ti ∧ f1.offset = 1) (e2 : f2.type = ti ∧ f2.offset = 2) (e3 : f3.type = ts ∧ f3.offset = 3) (e4 : f4.type = ts ∧ f4.offset = 4) (e5 : f5.type = tf ∧ f5.offset = 5)
    (k0 : g0.type = ti ∧ g0.offset = 0) (k1 : g1.type = ti ∧ g1.offset = 1) (k2 : g2.type = ts ∧ g2.offset = 2) (k3 : g3.type = ts ∧ g3.offset = 3)
    (hC : P.cellsOf t = 9) (hCf : P.cellsOf tf = 4) (hci : P.cellsOf ti = 1) (hcs : P.cellsOf ts = 1)
    (hv : Value.okWide P w r b0 t v) (h : DataW.Trod enc P w base spare held t v d p) :
    ∃ (kd a b : Int) (key val : ByteArray) (x y : Int) (bd tg : ByteArray), v = .agg #[.int .i64 kd, .int .i64 a, .int .i64 b, .string key, .string val, .int .i64 x, .int .i64 y, .string bd, .string tg] := by
  obtain ⟨cs, rfl, hsz⟩ := okWide_struct hs hv
  obtain ⟨c0, c1, c2, c3, c4, c5, c6, c7, c8, rfl⟩ := array9 (hsz.trans hC)
  obtain ⟨fuel, hq⟩ := h
  obtain ⟨xs, n, _, _, hl, hlen, hq⟩ := DataW.trod_struct hs hq
  match xs, hlen with
  | [y0, y1, y2, y3, y4, y5], _ =>
  have q0 := hq 0 f0 rfl
  have q1 := hq 1 f1 rfl
  have q2 := hq 2 f2 rfl
  have q3 := hq 3 f3 rfl
  have q4 := hq 4 f4 rfl
  have q5 := hq 5 f5 rfl
  simp only [e0.1, e0.2, hci] at q0
  simp only [e1.1, e1.2, hci] at q1
  simp only [e2.1, e2.2, hci] at q2
  simp only [e3.1, e3.2, hcs] at q3
  simp only [e4.1, e4.2, hcs] at q4
  simp only [e5.1, e5.2, hCf] at q5
  obtain ⟨a0, rfl⟩ := one_int (c := c0) hi (by simpa [Value.cells] using q0)
  obtain ⟨a1, rfl⟩ := one_int (c := c1) hi (by simpa [Value.cells] using q1)
  obtain ⟨a2, rfl⟩ := one_int (c := c2) hi (by simpa [Value.cells] using q2)
  obtain ⟨a3, rfl⟩ := one_str (c := c3) hst (by simpa [Value.cells] using q3)
  obtain ⟨a4, rfl⟩ := one_str (c := c4) hst (by simpa [Value.cells] using q4)
  have q5' : DataW.trod enc P w base spare held n tf [c5, c6, c7, c8] = some y5 := by simpa [Value.cells] using q5
  obtain ⟨xs2, n2, _, _, hl2, hlen2, hq2⟩ := DataW.trod_struct hf q5'
  match xs2, hlen2 with
  | [z0, z1, z2, z3], _ =>
  have q0 := hq2 0 g0 rfl
  have q1 := hq2 1 g1 rfl
  have q2 := hq2 2 g2 rfl
  have q3 := hq2 3 g3 rfl
  simp only [k0.1, k0.2, hci] at q0
  simp only [k1.1, k1.2, hci] at q1
  simp only [k2.1, k2.2, hcs] at q2
  simp only [k3.1, k3.2, hcs] at q3
  obtain ⟨a5, rfl⟩ := one_int (c := c5) hi (by simpa using q0)
  obtain ⟨a6, rfl⟩ := one_int (c := c6) hi (by simpa using q1)
  obtain ⟨a7, rfl⟩ := one_str (c := c7) hst (by simpa using q2)
  obtain ⟨a8, rfl⟩ := one_str (c := c8) hst (by simpa using q3)
  exact ⟨a0, a1, a2, a3, a4, a5, a6, a7, a8, rfl⟩
end Go.Proofs.YtphfjhpgcdmonaaGreatDoor.Stp
