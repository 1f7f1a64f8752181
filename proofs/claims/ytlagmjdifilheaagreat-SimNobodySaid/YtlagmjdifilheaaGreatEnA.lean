/- wire.Take, where nothing is wrong. Condition: that calls are told rightly. -/
import Derived.Test.YtlagmjdifilheaaGreatEhA
import Derived.Tactics
import Derived.Tactics2
import Derived.Defers
import Derived.Recover
import Derived.Laws.Pointers
namespace Go.Proofs.YtlagmjdifilheaaGreat.En
open Go Go.RowKit Go.Shelf Exe
set_option maxRecDepth 100000 in
set_option maxHeartbeats 1000000 in
theorem caught_nil (w : World) : Calls Tryz.prog 108 #[.nilIface] w fun e w' => e = .returned (.bool false) ∧ Below w.heap.size w w' := by
  have hta : ∀ w, (Instr.typeAssert .nilIface 20 205 true).run Tryz.prog w = .ok (.tuple #[.agg #[], .bool false]) w := fun _ => by kernel_rfl
  go_enter Tryz.func108, Tryz.ntmps108
  go_wp2
  exact bodyPost_ret (results_tmp rfl _ _ _) rfl ⟨rfl, (Below.refl _ w).alloc (Nat.le_refl _) _⟩
theorem catch_idle (p q : Addr) (w : World) : CallsD Tryz.prog 107 #[.pointer (some p), .pointer (some q)] .returning w fun e u' w' => e = .returned (.tuple #[]) ∧ u' = .returning ∧ Below w.heap.size w w' := by
  refine callsD_of_wpS Tryz.func107 rfl fun c₀ cs hu => ?_
  apply wpS_seq
  apply wpS_region
  simp [wpOpsS, go_sem, recoverD, hu, Tryz.ntmps107, Exit.thenS]
  refine (caught_nil w).mono ?_
  rintro e w' ⟨rfl, hk⟩
  refine wpS_cond (t := false) (by simp [Act.eval, Array.replicate]) ?_
  simp only [Bool.false_eq_true, if_false]
  refine wpS_of_wp (wp_skip ?_)
  cases c₀
  simp_all [bodyPostS, results, Tryz.results107]
theorem msg_rel {E : Env} {a b d e : Int} {c f : ByteArray} {g1 i1 : Option Addr} {g2 g3 i2 i3 : Nat} {x : Value} (h : Rel E (.agg #[.int .i64 a, .int .i64 b, .string c, .int .i64 d, .int .i64 e, .string f, .slice g1 g2 g3, .slice i1 i2 i3]) x) :
    ∃ g1' g3' i1' i3', x = .agg #[.int .i64 a, .int .i64 b, .string c, .int .i64 d, .int .i64 e, .string f, .slice g1' g2 g3', .slice i1' i2 i3'] := by
  obtain ⟨cs, rfl, hl⟩ := h.to_agg
  obtain ⟨ys, rfl⟩ : ∃ ys : List Value, cs = ys.toArray := ⟨cs.toList, by simp⟩
  match ys, hl with
  | [y0, y1, y2, y3, y4, y5, y6, y7], hl =>
    obtain ⟨h0, h1, h2, h3, h4, h5, h6, h7, _⟩ := hl
    obtain rfl := h0.of_flat rfl
    obtain rfl := h1.of_flat rfl
    obtain rfl := h2.of_flat rfl
    obtain rfl := h3.of_flat rfl
    obtain rfl := h4.of_flat rfl
    obtain rfl := h5.of_flat rfl
    obtain ⟨g1', g3', rfl, _⟩ := h6.to_slice'
    obtain ⟨i1', i3', rfl, _⟩ := h7.to_slice'
    exact ⟨_, _, _, _, rfl⟩
theorem set8 {W : World} {b : Nat} {t : TypeId} {fr : Nat × Nat} {a0 a1 a2 a3 a4 a5 a6 a7 : Value} (v0 v1 v2 v3 v4 v5 v6 v7 : Value) (hb : W.heap[b]? = some (.cells #[a0, a1, a2, a3, a4, a5, a6, a7] t fr)) :
    (((((((W.setCell ⟨b, 0, none⟩ v0).setCell ⟨b, 1, none⟩ v1).setCell ⟨b, 2, none⟩ v2).setCell ⟨b, 3, none⟩ v3).setCell ⟨b, 4, none⟩ v4).setCell ⟨b, 5, none⟩ v5).setCell ⟨b, 6, none⟩ v6).setCell ⟨b, 7, none⟩ v7 = W.putObj b (.cells #[v0, v1, v2, v3, v4, v5, v6, v7] t fr) := by
  have hlt := (Array.getElem?_eq_some_iff.1 hb).1
  rw [setCell_put hb]
  simp only [List.setIfInBounds_toArray, List.set_cons_zero]
  rw [setCell_put (World.putObj_heap_same hlt), putObj_putObj]
  simp only [List.setIfInBounds_toArray, List.set_cons_zero, List.set_cons_succ]
  rw [setCell_put (World.putObj_heap_same hlt), putObj_putObj]
  simp only [List.setIfInBounds_toArray, List.set_cons_zero, List.set_cons_succ]
  rw [setCell_put (World.putObj_heap_same hlt), putObj_putObj]
  simp only [List.setIfInBounds_toArray, List.set_cons_zero, List.set_cons_succ]
  rw [setCell_put (World.putObj_heap_same hlt), putObj_putObj]
  simp only [List.setIfInBounds_toArray, List.set_cons_zero, List.set_cons_succ]
  rw [setCell_put (World.putObj_heap_same hlt), putObj_putObj]
  simp only [List.setIfInBounds_toArray, List.set_cons_zero, List.set_cons_succ]
  rw [setCell_put (World.putObj_heap_same hlt), putObj_putObj]
  simp only [List.setIfInBounds_toArray, List.set_cons_zero, List.set_cons_succ]
  rw [setCell_put (World.putObj_heap_same hlt), putObj_putObj]
  simp only [List.setIfInBounds_toArray, List.set_cons_zero, List.set_cons_succ]
theorem cells8 {W : World} {b : Nat} {t : TypeId} {a0 a1 a2 a3 a4 a5 a6 a7 : Value} (hb : W.heap[b]? = some (.cells #[a0, a1, a2, a3, a4, a5, a6, a7] t (0, 0))) :
    (W.cell? ⟨b, 0, none⟩ = some a0 ∧ W.cell? ⟨b, 1, none⟩ = some a1 ∧ W.cell? ⟨b, 2, none⟩ = some a2 ∧ W.cell? ⟨b, 3, none⟩ = some a3 ∧ W.cell? ⟨b, 4, none⟩ = some a4 ∧ W.cell? ⟨b, 5, none⟩ = some a5 ∧ W.cell? ⟨b, 6, none⟩ = some a6 ∧ W.cell? ⟨b, 7, none⟩ = some a7) ∧
    W.frozen? ⟨b, 0, none⟩ = false ∧ W.frozen? ⟨b, 1, none⟩ = false ∧ W.frozen? ⟨b, 2, none⟩ = false ∧ W.frozen? ⟨b, 3, none⟩ = false ∧ W.frozen? ⟨b, 4, none⟩ = false ∧ W.frozen? ⟨b, 5, none⟩ = false ∧ W.frozen? ⟨b, 6, none⟩ = false ∧ W.frozen? ⟨b, 7, none⟩ = false := by
  simp [World.cell?, World.frozen?, hb]
abbrev msg0 : Obj := .cells #[.int .i64 0, .int .i64 0, .string ⟨#[]⟩, .int .i64 0, .int .i64 0, .string ⟨#[]⟩, .slice none 0 0, .slice none 0 0] 47
abbrev err0 : Obj := .cells #[.int .i64 0] 34
set_option maxRecDepth 100000 in
set_option maxHeartbeats 2000000 in
theorem takeT_ok (F : CallC) (hF : CallSound Tryz.prog F) : OneSound Tryz.prog 51 (takeT 109 167 F) := by
  have en51 : ∀ args w, (callFunc 51 args).run Tryz.prog w = .ok (.enter 51 args) w := enters_of Tryz.func51 (by kernel_rfl) rfl
  have en109 : ∀ args w, (callFunc 109 args).run Tryz.prog w = .ok (.enter 109 args) w := enters_of Tryz.func109 (by kernel_rfl) rfl
  intro args h k hr
  unfold takeT at hr
  split at hr
  · rename_i s
    cases hs : Nat.ble s.size 8192 with
    | false => rw [hs] at hr; cases hr
    | true =>
    rw [hs] at hr
    have hs := Nat.le_of_ble_eq_true hs
    cases ha : h.alloc (Blk.of [.string s] 167 false) with
    | none => rw [ha] at hr; cases hr
    | some r =>
    obtain ⟨i, h1⟩ := r
    rw [ha] at hr
    have hr : F 109 [.pointer (some ⟨i, 0, none⟩)] h1 (fun v h2 => msgB v && k (.tuple #[v, .int .i64 0]) h2) = true := hr
    obtain ⟨v, h2, hk, hS⟩ := hF _ _ _ _ hr
    simp only [Bool.and_eq_true] at hk
    obtain ⟨hm, hk⟩ := hk
    obtain ⟨a, b, c, d, e, f, g1, g2, g3, i1, i2, i3, rfl⟩ := msgB_eq hm
    refine ⟨_, h2, hk, fun {B0 w00} E w args' W hA => .inl ⟨en51 _ w, ?_⟩⟩
    match args', hA with
    | [s'], hA =>
      obtain rfl := hA.1.of_flat rfl
      have hs' : ((s.size : Nat) : Int) ≤ 8192 := by omega
      have hmf : ∀ (fn : Fn) (first cap : Array Value) (w : World), (Instr.makeFunc fn first cap).run Tryz.prog w = .ok (.func fn first cap) w := fun _ _ _ _ => rfl
      have W2 : WR E Tryz.prog B0 w00 ((w.alloc msg0).alloc err0) h := (W.plain _).plain _
      have h2s : ((w.alloc msg0).alloc err0).heap.size = w.heap.size + 2 := by simp
      have hO : ObR (E.upd i ((w.alloc msg0).alloc err0).heap.size 0) Tryz.prog i (.row (Blk.of [.string s] 167 false)) (.cells #[.string s] 167) :=
        ⟨#[.string s], (0, 0), rfl, fun k _ => by simp, by rw [Blk.of_cells]; exact RelL.refl_leaf rfl, fun _ => by rw [Blk.of_cells]; rfl, fun hg => by cases hg⟩
      obtain ⟨W3, hle, hρ⟩ := W2.alloc (c := 0) (show h.allocOb (.row (Blk.of [.string s] 167 false)) = some (i, h1) from ha) hO
      have hin := (allocOb_some (show h.allocOb (.row (Blk.of [.string s] 167 false)) = some (i, h1) from ha)).1
      have hEi : E.ρ i = none := by rw [hin]; exact W.fresh _ (Nat.le_refl _)
      have hno : ∀ k, w.heap.size ≤ k → k < w.heap.size + 2 → ¬ MineA (E.upd i ((w.alloc msg0).alloc err0).heap.size 0) h1 (((w.alloc msg0).alloc err0).alloc (.cells #[.string s] 167)) k := by
        rintro k hk1 hk2 (⟨j, hj, hjρ⟩ | hj)
        · by_cases hji : j = i
          · subst hji
            rw [hρ] at hjρ
            cases hjρ
            omega
          · rw [allocOb_other (show h.allocOb (.row (Blk.of [.string s] 167 false)) = some (i, h1) from ha) hji] at hj
            have hjρ' : E.ρ j = some k := by simpa [Env.upd, hji] using hjρ
            have := W.lt hj hjρ'
            omega
        · simp at hj
          omega
      have key : Calls Tryz.prog 109 #[.pointer (some ⟨w.heap.size + 2, 0, none⟩)] (((w.alloc msg0).alloc err0).alloc (.cells #[.string s] 167)) fun ev w' => ∃ x, ev = .returned x ∧
          After Tryz.prog (MineA (E.upd i ((w.alloc msg0).alloc err0).heap.size 0) h1 (((w.alloc msg0).alloc err0).alloc (.cells #[.string s] 167))) (((w.alloc msg0).alloc err0).alloc (.cells #[.string s] 167)) (E.upd i ((w.alloc msg0).alloc err0).heap.size 0) h1
            (.agg #[.int .i64 a, .int .i64 b, .string c, .int .i64 d, .int .i64 e, .string f, .slice g1 g2 g3, .slice i1 i2 i3]) h2 x w' := by
        rcases hS _ _ [.pointer (some ⟨w.heap.size + 2, 0, none⟩)] W3.own ⟨.ptr i _ 0 (by rw [hρ, h2s]), trivial⟩ with ⟨_, h4⟩ | ⟨x, h4, _⟩
        · exact h4
        · rw [en109] at h4
          cases h4
      have key2 : Calls Tryz.prog 109 #[.pointer (some ⟨w.heap.size + 2, 0, none⟩)] (((w.alloc msg0).alloc err0).alloc (.cells #[.string s] 167)) fun ev w' => ∃ g1' g3' i1' i3' E2,
          ev = .returned (.agg #[.int .i64 a, .int .i64 b, .string c, .int .i64 d, .int .i64 e, .string f, .slice g1' g2 g3', .slice i1' i2 i3']) ∧ Grow (E.upd i ((w.alloc msg0).alloc err0).heap.size 0) h1 E2 h2 ∧
          Rel E2 (.agg #[.int .i64 a, .int .i64 b, .string c, .int .i64 d, .int .i64 e, .string f, .slice g1 g2 g3, .slice i1 i2 i3]) (.agg #[.int .i64 a, .int .i64 b, .string c, .int .i64 d, .int .i64 e, .string f, .slice g1' g2 g3', .slice i1' i2 i3']) ∧
          WR E2 Tryz.prog (MineA (E.upd i ((w.alloc msg0).alloc err0).heap.size 0) h1 (((w.alloc msg0).alloc err0).alloc (.cells #[.string s] 167))) (((w.alloc msg0).alloc err0).alloc (.cells #[.string s] 167)) w' h2 ∧
          w'.heap[w.heap.size]? = some msg0 ∧ w'.heap[w.heap.size + 1]? = some err0 := by
        refine key.mono ?_
        rintro ev w' ⟨x, rfl, E2, hG, hx, W4⟩
        obtain ⟨g1', g3', i1', i3', rfl⟩ := msg_rel hx
        refine ⟨g1', g3', i1', i3', E2, rfl, hG, hx, W4, ?_, ?_⟩
        · rw [W4.below.block _ (by simp; omega) (hno _ (by omega) (by omega)), Below.heap_alloc _ _ _ (by simp; omega), Below.heap_alloc _ _ _ (by simp)]
          exact World.alloc_heap_new w _
        · rw [W4.below.block _ (by simp) (hno _ (by omega) (by omega)), Below.heap_alloc _ _ _ (by simp)]
          have := World.alloc_heap_new (w.alloc msg0) err0
          simpa using this
      clear key
      go_enter_defers Tryz.func51, Tryz.ntmps51
      go_wp2_with (go_at_call 109; go_loud (refine key2.mono ?_; rintro ev w' ⟨g1', g3', i1', i3', E2, rfl, hG, hx, W4, hM, hR⟩; obtain ⟨⟨c0, c1, c2, c3, c4, c5, c6, c7⟩, f0, f1, f2, f3, f4, f5, f6, f7⟩ := cells8 hM; have c8 : w'.cell? ⟨w.heap.size + 1, 0, none⟩ = some (.int .i64 0) := (by simp [World.cell?, hR]); have f8 : w'.frozen? ⟨w.heap.size + 1, 0, none⟩ = false := (by simp [World.frozen?, hR])))
      rw [set8 _ _ _ _ _ _ _ _ hM]
      have hlt := (Array.getElem?_eq_some_iff.1 hM).1
      have hR2 : (w'.putObj w.heap.size (.cells #[.int .i64 a, .int .i64 b, .string c, .int .i64 d, .int .i64 e, .string f, .slice g1' g2 g3', .slice i1' i2 i3'] 47 (0, 0))).heap[w.heap.size + 1]? = some err0 := (World.putObj_heap_other (by omega)).trans hR
      rw [setCell_put hR2]
      refine leaves_cons (f := 107) (args := #[.pointer (some ⟨w.heap.size, 0, none⟩), .pointer (some ⟨w.heap.size + 1, 0, none⟩)]) (by simp) (by simp [go_sem]) ?_
      refine (catch_idle _ _ _).mono ?_
      rintro e' u' w'' ⟨rfl, rfl, hk9⟩
      have hlt2 := (Array.getElem?_eq_some_iff.1 hR).1
      have n1 := hk9.block w.heap.size (by simp; omega)
      have n2 := hk9.block (w.heap.size + 1) (by simp; omega)
      rw [World.putObj_heap_other (by omega), World.putObj_heap_same hlt] at n1
      rw [World.putObj_heap_same (by simp; omega)] at n2
      obtain ⟨⟨d0, d1, d2, d3, d4, d5, d6, d7⟩, _⟩ := cells8 n1
      have d8 : w''.cell? ⟨w.heap.size + 1, 0, none⟩ = some (.int .i64 0) := by simp [World.cell?, n2]
      have hun : ∀ k, w.heap.size ≤ k → k < w.heap.size + 2 → ∀ j, (h2.ob j).isSome = true → E2.ρ j ≠ some k := fun k hk1 hk2 j hj hjk => by
        obtain ⟨ob, hob⟩ := Option.isSome_iff_exists.1 hj
        obtain ⟨_, h5, _⟩ := W4.live j ob k hob hjk
        exact hno k hk1 hk2 h5
      have W5 := W3.disown W4
      have W6 := ((W5.cell (W.base' _ (by omega)) (hun _ (by omega) (by omega)) (.cells #[.int .i64 a, .int .i64 b, .string c, .int .i64 d, .int .i64 e, .string f, .slice g1' g2 g3', .slice i1' i2 i3'] 47 (0, 0))).cell (W.base' _ (by omega)) (hun (w.heap.size + 1) (by omega) (by omega)) (.cells #[.int .i64 0] 34 (0, 0))).keep hk9
      have hfin : After Tryz.prog B0 w00 E h (.tuple #[.agg #[.int .i64 a, .int .i64 b, .string c, .int .i64 d, .int .i64 e, .string f, .slice g1 g2 g3, .slice i1 i2 i3], .int .i64 0]) h2 (.tuple #[.agg #[.int .i64 a, .int .i64 b, .string c, .int .i64 d, .int .i64 e, .string f, .slice g1' g2 g3', .slice i1' i2 i3'], .int .i64 0]) w'' :=
        ⟨E2, (Grow.upd hin (allocOb_next ha) hEi).trans hG, relL_tuple ⟨hx, .refl_flat rfl, trivial⟩, W6⟩
      simp [Leaves, settle, results, Tryz.results51, go_sem, d0, d1, d2, d3, d4, d5, d6, d7, d8]
      exact hfin
  · cases hr
end Go.Proofs.YtlagmjdifilheaaGreat.En
