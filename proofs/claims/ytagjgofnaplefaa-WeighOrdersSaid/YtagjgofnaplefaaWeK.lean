/- Whether numbers are the same, walked. Conditions: so many as an address space may hold. -/
import Derived.Test.YtagjgofnaplefaaWeJ
import Derived.BigQuiet
import Derived.Deep.Cut
namespace Go.Proofs.Ytagjgofnaplefaa.Wei
open Go.RowKit
open Flo
/-- A slice of numbers that is there. -/
def Nums (w : World) (v : Value) (l : List Nat) : Prop := ∃ ao cap, v = .slice ao l.length cap ∧ l.length ≤ 1000000 ∧ (∀ (i a : Nat), l[i]? = some a → ∃ g : Nat, ao = some ⟨g, 0, none⟩ ∧ w.cell? ⟨g, i, none⟩ = some (.int .i64 (a : Int)))
theorem Nums.below {w w' : World} {v : Value} {l : List Nat} (h : Nums w v l) (hb : Below w.heap.size w w') : Nums w' v l := by
  obtain ⟨ao, cap, h1, h2, h3⟩ := h
  refine ⟨ao, cap, h1, h2, fun i a hi => ?_⟩
  obtain ⟨x, hx, hc⟩ := h3 i a hi
  exact ⟨x, hx, (hb.cell (World.block_lt_of_cell? _ _ hc)).trans hc⟩
theorem getD_eq_of {l m : List Nat} (h : l.length = m.length) (he : ∀ i, i < l.length → l.getD i 0 = m.getD i 0) : l = m := by
  apply List.ext_getElem? 
  intro i
  by_cases hi : i < l.length
  · rw [getD_mem l i hi, getD_mem m i (h ▸ hi), he i hi]
  · rw [List.getElem?_eq_none (by omega), List.getElem?_eq_none (by omega)]
set_option maxHeartbeats 4000000 in
set_option maxRecDepth 100000 in
theorem numbers_any (u v : Value) (l m : List Nat) (w : World) (hu : Nums w u l) (hv : Nums w v m) : Calls Try.prog 16 #[u, v] w fun e w' => e = .returned (.bool (decide (l = m))) ∧ Below w.heap.size w w' := by
  obtain ⟨ao, cap, rfl, hl, hc⟩ := hu
  obtain ⟨bo, cap', rfl, hl', hc'⟩ := hv
  have HC := Lib.hid hc
  have HC' := Lib.hid hc'
  clear hc hc' hl'
  by_cases hne : l.length = m.length
  · have d0 : ((l.length : Int) != (m.length : Int)) = false := by simp [hne]
    rw [← hne]
    have HE := Lib.hid hne
    generalize hn : l.length = n at *
    have HN := Lib.hid hn
    have k0 : Below w.heap.size w w := Below.refl _ _
    clear hne hn
    go_enter Try.func16, Try.ntmps16
    go_wp2_with fail
    go_loopw [5] (fun i wr => ∃ k : Nat, k ≤ n ∧ i = .int .i64 k ∧ (∀ j, j < k → l.getD j 0 = m.getD j 0) ∧ Below w.heap.size w wr) (fun i _ => n - (intOf i).toNat)
    case atStart => exact ⟨0, by omega, rfl, fun j hj => by omega, k0⟩
    case round =>
      clear k0
      obtain ⟨k, hkn, rfl, hall, k1⟩ := hrel
      by_cases hlt : k < n
      · have hlt' : (k : Int) < (n : Int) := by omega
        have hl1 := getD_mem l k (by rw [HN.out]; exact hlt)
        have hl2 := getD_mem m k (by rw [← HE.out]; exact hlt)
        obtain ⟨g, hg, hc⟩ := HC.out k _ hl1
        obtain ⟨h, hh, hc'⟩ := HC'.out k _ hl2
        subst hg hh
        have c1 := (k1.cell (World.block_lt_of_cell? _ _ hc)).trans hc
        have c2 := (k1.cell (World.block_lt_of_cell? _ _ hc')).trans hc'
        clear hc hc' hl1 hl2
        by_cases hx : l.getD k 0 = m.getD k 0
        · have hd : (((l.getD k 0 : Nat) : Int) != ((m.getD k 0 : Nat) : Int)) = false := by rw [hx]; exact bne_self_eq_false _
          have hall' : ∀ j, j < k + 1 → l.getD j 0 = m.getD j 0 := fun j hj => by
            by_cases hjk : j = k
            · subst hjk; exact hx
            · exact hall j (by omega)
          have HALL := Lib.hid hall'
          clear hall hall' hx
          generalize l.getD k 0 = a at *
          generalize m.getD k 0 = b at *
          go_upto_region 6 with (fail)
          go_quiet (fail)
          have k2 : Below w.heap.size w (wr.drewN nq) := k1.trans ⟨rfl, rfl, rfl, Nat.le_refl _, fun _ _ => rfl⟩
          go_wp2_with fail
          go_roundw
          case rel => exact ⟨k + 1, by omega, by go_num, HALL.out, k2⟩
          case measure => simp [intOf]; omega
        · have hd : (((l.getD k 0 : Nat) : Int) != ((m.getD k 0 : Nat) : Int)) = true := by
            rw [bne_iff_ne]
            omega
          have hno : l ≠ m := fun h => hx (by rw [h])
          have HD := Lib.hid (decide_eq_false hno)
          clear hall hx hno
          generalize l.getD k 0 = a at *
          generalize m.getD k 0 = b at *
          go_upto_region 6 with (fail)
          go_quiet (fail)
          have k2 : Below w.heap.size w (wr.drewN nq) := k1.trans ⟨rfl, rfl, rfl, Nat.le_refl _, fun _ _ => rfl⟩
          go_wp2_with fail
          exact bodyPost_ret (results_tmp rfl _ _ _) rfl ⟨by rw [HD.out]; rfl, k2⟩
      · have hk' : k = n := by omega
        have hd6 : decide ((k : Int) < (n : Int)) = false := decide_eq_false (by omega)
        have HD := Lib.hid (decide_eq_true (getD_eq_of (HN.out.trans HE.out) (fun i hi => hall i (by rw [hk', ← HN.out]; exact hi))))
        clear hk' hall
        go_wp2
        exact bodyPost_ret (results_tmp rfl _ _ _) rfl ⟨by rw [HD.out]; rfl, k1⟩
  · have d0 : ((l.length : Int) != (m.length : Int)) = true := by
      rw [bne_iff_ne]
      omega
    have hno : l ≠ m := fun h => hne (by rw [h])
    have HD := Lib.hid (decide_eq_false hno)
    have k0 : Below w.heap.size w w := Below.refl _ _
    clear hne hno
    go_enter Try.func16, Try.ntmps16
    go_wp2
    exact bodyPost_ret (results_tmp rfl _ _ _) rfl ⟨by rw [HD.out]; rfl, k0⟩
end Go.Proofs.Ytagjgofnaplefaa.Wei
