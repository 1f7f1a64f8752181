/- The law on the least of any floats and their order, walked. Conditions: none. -/
import Derived.Test.YtagjgofnaplefaaXe
import Derived.ProofKit
import Derived.OpenShut
import Derived.Lib.SmallJoins
namespace Go.Proofs.Ytagjgofnaplefaa.Wei
open Go.ChangeShapes Go.WideShapes Go.ChangeAt Go.RowKit Go.Joins
open Flo
/-- A slice of words that came in. -/
def WordsIn (w : World) (v : Value) (l : List Nat) : Prop := ∃ ao cap, v = .slice ao l.length cap ∧ (∀ (i a : Nat), l[i]? = some a → ∃ x : Addr, ao = some x ∧ w.cell? (x.add i) = some (.int .u64 (a : Int))) ∧ ∀ a ∈ l, a < 18446744073709551616
section
variable {H : Type} {enc : TypeId × Value → H} {P : Program} {w : World} {base : Nat} {spare : Nat → Bool} {held : Bool}
theorem open_words {r : Reach} {b0 : Nat} {t e : TypeId} {v : Value} {d : DataW H} {p : List MemPlace} (hs : P.underlying t = some (.slice e)) (he : P.underlying e = some (.int .u64)) (hce : P.cellsOf e = 1)
    (hv : Value.okWide P w r b0 t v) (h : DataW.Trod enc P w base spare held t v d p) : ∃ l, WordsIn w v l := by
  obtain ⟨a, len, cap, rfl⟩ := okWide_slice hs hv
  obtain ⟨fuel, hf⟩ := h
  rcases open_ints hs he hce hf with ⟨hcs, _⟩ | ⟨x, l, c, zs, hcs, _, hl, hm, hz, _, hcell, hwz⟩
  · simp [Value.cells] at hcs
    obtain ⟨rfl, rfl, rfl⟩ := hcs
    exact ⟨[], none, 0, rfl, fun i a h => (by simp at h), fun a h => (by cases h)⟩
  · simp [Value.cells] at hcs
    obtain ⟨rfl, rfl, rfl⟩ := hcs
    have hz' : len ≤ zs.length := by rw [hz]; split <;> omega
    have hnat : ∀ z ∈ zs, 0 ≤ z ∧ z ≤ 18446744073709551615 := fun z hzz => Go.bounds_u64 (hwz z hzz)
    refine ⟨(zs.take len).map Int.toNat, some x, cap, by rw [List.length_map, List.length_take, Nat.min_eq_left (by omega)], fun i a hi => ⟨x, rfl, ?_⟩, fun a ha => ?_⟩
    · rw [List.getElem?_map] at hi
      cases hq : (zs.take len)[i]? with
      | none => rw [hq] at hi; cases hi
      | some u =>
        rw [hq] at hi
        simp only [Option.map_some, Option.some.injEq] at hi
        have hil : i < len := by
          have := (List.getElem?_eq_some_iff.1 hq).1
          rw [List.length_take] at this
          omega
        rw [List.getElem?_take_of_lt hil] at hq
        have hu := hnat u (List.mem_of_getElem? hq)
        rw [hcell i (by omega), List.getD_eq_getElem?_getD, hq, ← hi]
        simp only [Option.getD_some]
        rw [Int.toNat_of_nonneg hu.1]
    · obtain ⟨z, hz1, rfl⟩ := List.mem_map.1 ha
      have := hnat z (List.mem_of_mem_take hz1)
      omega
end
set_option maxHeartbeats 4000000 in
set_option maxRecDepth 100000 in
theorem orders_walk (v : Value) (l : List Nat) (w : World) (hv : WordsIn w v l) : Calls Try.prog 5 #[v] w fun e w' => e = .returned (.bool true) ∧ Below w.heap.size w w' := by
  have hv' := hv
  obtain ⟨ao, cap, rfl, hc, hb⟩ := hv
  by_cases h40 : 40 < l.length
  · have d1 : decide (40 < (l.length : Int)) = true := decide_eq_true (by omega)
    have d2 : 40 < (l.length : Int) := by omega
    clear hc hb hv'
    go_enter Try.func5, Try.ntmps5
    go_wp2_with fail
    refine (awake_any _).mono ?_
    rintro e w1 ⟨rfl, k1⟩
    go_wp2
    exact bodyPost_ret (results_tmp rfl _ _ _) rfl ⟨rfl, k1⟩
  · have d1 : decide (40 < (l.length : Int)) = false := decide_eq_false (by omega)
    have d2 : ¬ 40 < (l.length : Int) := by omega
    have hw : Words w (.slice ao l.length cap) l := ⟨ao, cap, rfl, by omega, hc, hb⟩
    have HCL := Lib.hid (floats_any _ l w hw)
    have HB := Lib.hid hb
    have H40 := Lib.hid h40
    clear hc hb hv' hw
    go_enter Try.func5, Try.ntmps5
    go_wp2_with fail
    refine HCL.out.mono ?_
    rintro e w1 ⟨u, rfl, row, k1⟩
    have hf := Lib.hid (row.flos (by have := H40.out; omega) HB.out)
    clear row HCL d1 d2
    have HL := Lib.hid (least_any u l w1 hf.out)
    have HR := Lib.hid (rleast_any u l w1 hf.out)
    generalize leastOf l l.length = z at HL HR
    go_wp2_with fail
    refine HL.out.mono ?_
    rintro e w2 ⟨rfl, rfl⟩
    go_wp2_with fail
    refine HR.out.mono ?_
    rintro e w2 ⟨rfl, k2⟩
    have k3 : Below w.heap.size w w2 := k1.trans (k2.mono k1.size)
    have hf2 := Lib.hid (hf.out.below k2)
    clear hf HL HR k1 k2
    have HO := Lib.hid (order_any u l w2 hf2.out (by have := H40.out; omega))
    go_wp2_with fail
    refine HO.out.mono ?_
    rintro e w3 ⟨p, l1, rfl, hn1, ho1, k4⟩
    have k5 : Below w.heap.size w w3 := k3.trans (k4.mono k3.size)
    have hf3 := Lib.hid (hf2.out.below k4)
    have HN1 := Lib.hid hn1
    have HO1 := Lib.hid ho1
    clear hf2 HO k3 k4 hn1 ho1
    have HRO := Lib.hid (rorder_any u l w3 hf3.out (by have := H40.out; omega))
    go_wp2_with fail
    refine HRO.out.mono ?_
    rintro e w4 ⟨q, l2, rfl, hn2, ho2, k6⟩
    have k7 : Below w.heap.size w w4 := k5.trans (k6.mono k5.size)
    have heq : l1 = l2 := ord_one HO1.out.ord ho2
    have HNN := Lib.hid (numbers_any p q l1 l2 w4 (HN1.out.below k6) hn2)
    rw [decide_eq_true heq] at HNN
    clear hn2 ho2 heq HRO HN1 HO1 hf3 k5 k6
    go_wp2_with fail
    refine HNN.out.mono ?_
    rintro e w5 ⟨rfl, k8⟩
    have k9 : Below w.heap.size w w5 := k7.trans (k8.mono k7.size)
    clear HNN k7 k8
    go_wp2_with fail
    refine (awake_any _).mono ?_
    rintro e w6 ⟨rfl, k10⟩
    have k11 : Below w.heap.size w w6 := k9.trans (k10.mono k9.size)
    clear k9 k10
    go_wp2
    exact bodyPost_ret (results_tmp rfl _ _ _) rfl ⟨rfl, k11⟩
end Go.Proofs.Ytagjgofnaplefaa.Wei
