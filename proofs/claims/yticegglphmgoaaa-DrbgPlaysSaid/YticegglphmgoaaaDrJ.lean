/- Whatever is asked, the bytes are the document's. No conditions but those that are named. -/
import Derived.Test.YticegglphmgoaaaDrG
import Derived.Test.YticegglphmgoaaaAcs
import Derived.Test.YticegglphmgoaaaSto
import Derived.Test.YticegglphmgoaaaRun
namespace Go.Proofs.Yticegglphmgoaaa.Sha
open Go.RowKit
open Blk (nats)
open Acs (Acts Act3)
theorem cell_setCells : ∀ (vs : List Value) {w : World} {p : Addr} {v : Value} (_ : w.cell? p = some v) {c : Nat} (_ : p.block ≠ c) (o : Nat), (w.setCells c o vs).cell? p = some v
  | [], _, _, _, h, _, _, _ => h
  | u :: r, w, p, v, h, c, hne, o => cell_setCells r (w := w.setCell ⟨c, o, none⟩ u) (by
      have : (w.setCell ⟨c, o, none⟩ u).cell? p = w.cell? p := by
        unfold World.cell?
        rw [Below.heap_setCell w ⟨c, o, none⟩ u p.block hne]
      rw [this]
      exact h) hne (o + 1)
theorem run_store_row {P : Program} {w : World} {g : Nat} {cs0 cs : List Value} {t ty : TypeId} {x y : Operand} {ρ : Operand → Value} (o : Oper) (ho : o.op = .store ty x y) (hx : ρ x = .pointer (some ⟨g, 0, none⟩)) (hy : ρ y = .agg cs.toArray) (hg : Blk.Is w g cs0 t) (hl : cs.length ≤ cs0.length)
    (hi : (P.info? ty).map (·.size) = some cs.length) (h1 : cs.toArray.all (·.oneCell') = true) : (execOp ρ o).run P w = .ok .skip (w.setCells g 0 cs) := by
  unfold execOp
  simp only [ho, hx, hy, Sem.run_bind, Sem.run_pure, Result.andThen_ok, run_storeAt_mid w g 0 ty cs.toArray (by simpa using hg.there 0 cs.length (by omega)) (by simpa using hi) h1]
theorem run_call {P : Program} {o : Oper} {a : Act} {w : World} {f : FuncId} {fn : Func} {os : Array Operand} {ts : Array TypeId} (hf : P.funcs[f]? = some fn) (hname : (fn.name == "runtime.NumGoroutine") = false) (hb : fn.body.isSome = true)
    (args : Array Value) (hop : o.op = .call { callee := .value (.func f), args := os, argTypes := ts }) (hargs : os.map a.eval = args) : (execOp a.eval o).run P w = .ok (.enter f args) w := by
  have he := Any.enters hf hname hb args w
  unfold execOp
  simp [hop, resolve, Deferred.ofValue, invoke, Act.eval, hargs, he]
attribute [local irreducible] hmac stir stir1 dbv dbo told served dba
set_option maxHeartbeats 8000000 in
set_option maxRecDepth 100000 in
theorem plays_yes (x : List UInt8) (ao : Option Addr) (cap : Nat) (l : List Act3) (w : World) (hl8 : l.length ≤ 8) (hx : seedy x)
    (ha : ∀ i n p q, l[i]? = some (n, p, q) → ∃ x, ao = some x ∧ x.block < w.heap.size ∧ w.cell? ((x.add (i * 3)).add 0) = some (.int .i64 n) ∧ w.cell? ((x.add (i * 3)).add 1) = some (.string ⟨p.toArray⟩) ∧ w.cell? ((x.add (i * 3)).add 2) = some (.string ⟨q.toArray⟩)) :
    Calls Try.prog 15 #[.string ⟨x.toArray⟩, .slice ao l.length cap] w fun e w' => e = .returned (.bool true) ∧ Below w.heap.size w w' := by
  have HA := Lib.hid ha
  have HX := Lib.hid hx
  obtain ⟨⟨k, v⟩, hkv⟩ : ∃ s, stir (key0, val0) x = s := ⟨_, rfl⟩
  have hl := stir_length (key0, val0) x
  rw [hkv] at hl
  have HKV := Lib.hid hkv
  have N2 := fun w => rnew_yes x w hx
  rw [hkv] at N2
  have HN2 := Lib.hid N2
  have d1 : decide ((x.length : Int) > 2048) = false := decide_eq_false (by have := hx.2; omega)
  have d2 : decide ((l.length : Int) > 8) = false := decide_eq_false (by omega)
  clear ha hx hkv N2
  go_enter Try.func15, Try.ntmps15
  go_wp2_with fail
  refine (new_to x k v HKV.out _ HX.out).mono ?_
  rintro e w1 ⟨g, rfl, hg1, hwg, k1⟩
  have G1 := Lib.hid hg1
  clear hg1
  go_wp2_with fail
  refine (HN2.out _).mono ?_
  rintro e w2 ⟨rfl, k2⟩
  have G2 := Lib.hid (G1.out.below k2)
  have k2 := k1.trans (k2.mono k1.size)
  clear G1 k1 HN2
  go_upto_region 5 with (fail)
  obtain ⟨T, hT⟩ : ∃ T, T = w2.heap.size := ⟨_, rfl⟩
  have hgT : g ≠ T := by have := G2.out.lt; omega
  have hwT : w.heap.size ≤ T := by rw [hT]; exact k2.size
  have t3 := Blk.new' w2 (sc k v 0) 64 T hT
  have G3 := Lib.hid (G2.out.alloc (.cells (sc k v 0).toArray 64))
  have k3 := k2.alloc k2.size (.cells (sc k v 0).toArray 64)
  rw [← hT]
  generalize w2.alloc (.cells (sc k v 0).toArray 64) = w3 at t3 G3 k3 ⊢
  have T3 := Lib.hid t3
  clear t3 hT G2 k2
  go_wp2_with fail
  go_loopw [9] (fun i wr => ∃ (j t : Nat) (a b : List UInt8), j ≤ l.length ∧ t ≤ j ∧ i = .int .i64 j ∧ a.length = 32 ∧ b.length = 32 ∧ Hid (Blk.Is wr g (sc a b t) 76) ∧ Hid (Blk.Is wr T (sc a b t) 64) ∧ Below w.heap.size w wr)
    (fun i _ => l.length - (intOf i).toNat)
  case atStart => exact ⟨0, 0, k, v, by omega, by omega, rfl, hl.1, hl.2, G3, T3, k3⟩
  case round =>
  clear G3 T3 k3 HKV hl
  obtain ⟨j, t, a, b, hj, htj, rfl, hal, hbl, G4, T4, k4⟩ := hrel
  by_cases hlt : j < l.length
  · obtain ⟨⟨N, more, sd⟩, hel⟩ : ∃ y, l[j]? = some y := ⟨_, List.getElem?_eq_getElem hlt⟩
    obtain ⟨y, rfl, hyb, c0, c1, c2⟩ := HA.out j N more sd hel
    have hyw : y.block < w.heap.size := hyb
    have dlt : decide ((j : Int) < (l.length : Int)) = true := decide_eq_true (by omega)
    have dlt2 : (j : Int) < (l.length : Int) := by omega
    clear hel
    have C0 : wr.cell? ((y.add (j * 3)).add 0) = some (.int .i64 N) := Blk.cell_below k4 c0
    have C1 : wr.cell? ⟨(y.add (j * 3)).block, (y.add (j * 3)).off + 1, none⟩ = some (.string ⟨more.toArray⟩) := Blk.cell_below k4 c1
    have C2 : wr.cell? ⟨(y.add (j * 3)).block, (y.add (j * 3)).off + 2, none⟩ = some (.string ⟨sd.toArray⟩) := Blk.cell_below k4 c2
    have C0' : wr.cell? (y.add (j * 3)) = some (.int .i64 N) := C0
    clear c0 c1 c2
    by_cases m1 : more.length > 100
    · have d3 : decide ((more.length : Int) > 100) = true := decide_eq_true (by omega)
      go_wp2_with fail
      refine (dawake_any _).mono ?_
      rintro e w5 ⟨rfl, k5⟩
      have k5 := k4.trans (k5.mono k4.size)
      go_wp2
      exact bodyPost_ret (results_tmp rfl _ _ _) rfl ⟨rfl, k5⟩
    · have d3 : decide ((more.length : Int) > 100) = false := decide_eq_false (by omega)
      by_cases m2 : sd.length > 100
      · have d4 : decide ((sd.length : Int) > 100) = true := decide_eq_true (by omega)
        go_wp2_with fail
        refine (dawake_any _).mono ?_
        rintro e w5 ⟨rfl, k5⟩
        have k5 := k4.trans (k5.mono k4.size)
        go_wp2
        exact bodyPost_ret (results_tmp rfl _ _ _) rfl ⟨rfl, k5⟩
      · have d4 : decide ((sd.length : Int) > 100) = false := decide_eq_false (by omega)
        by_cases m3 : N > 200
        · have d5 : decide (N > 200) = true := decide_eq_true m3
          by_cases m4 : N ≤ 8192
          · have d6 : decide (N ≤ 8192) = true := decide_eq_true m4
            go_wp2_with fail
            refine (dawake_any _).mono ?_
            rintro e w5 ⟨rfl, k5⟩
            have k5 := k4.trans (k5.mono k4.size)
            go_wp2
            exact bodyPost_ret (results_tmp rfl _ _ _) rfl ⟨rfl, k5⟩
          · have d6 : decide (N ≤ 8192) = false := decide_eq_false m4
            by_cases hsd : sd = []
            · have dsd : (sd != []) = false := by simpa using hsd
              have dsd2 : sd.isEmpty = true := by simpa using hsd
              clear hsd
              have hask : ¬ asks N more := by unfold asks; omega
              have ha2 := hal
              have hb2 := hbl
              obtain ⟨t2, ht2⟩ : ∃ t2 : Nat, t2 = t := ⟨_, rfl⟩
              have ht2j : t2 ≤ j := by omega
              have RR := fun w => rbytes_no a b more (t : Int) N w hask
              have HRR := Lib.hid RR
              have HASK := Lib.hid hask
              clear RR hask
              go_upto_region 17 with (fail)
              refine Sto.region_sto 19 16 17 [0, 1, 2, 3, 4, 5, 6, 7, 8, 9, 10, 11, 12, 13, 14, 15, 18] 162 _ _ rfl rfl rfl (by kernel_rfl) (by decide +kernel) (by decide +kernel) (by decide +kernel) (by decide) (by decide) (by decide) (by decide +kernel) rfl (by decide +kernel)
                (fun h : Nat => .pointer (some ⟨h, 0, none⟩)) (fun w1 h => Blk.Is w1 h (sc [] [] 0) 64 ∧ wr.heap.size ≤ h) (fun w1 h => Blk.Is w1 h (sc a b t) 64 ∧ wr.heap.size ≤ h) (fun z w1 w2 h hb => ⟨Blk.Is.below h.1 hb, h.2⟩) (fun z w1 w2 h hb => ⟨Blk.Is.below h.1 hb, h.2⟩) ?_
              simp only [Dep.sel, List.getElem?_cons_zero, List.getElem?_cons_succ]
              apply Exists.intro
              apply And.intro
              · intro w1 hw1
                have q0 := Cls.Wd.cell (w0 := w1) (Blk.cell_below (w := wr.drew) hw1 C0)
                have q0' := Cls.Wd.cell (w0 := w1) (Blk.cell_below (w := wr.drew) hw1 C0')
                have q1 := Cls.Wd.cell (w0 := w1) (Blk.cell_below (w := wr.drew) hw1 C1)
                go_big_quiet_want
                refine quiet_load_in 64 (.tmp 7) rfl T rfl (sc a b t) _ (Blk.Is.below (w := wr.drew) T4.out hw1) Try.underlying64 rfl (by kernel_rfl) ?_
                simp only [Act.put, List.setIfInBounds_toArray, List.set_cons_zero, List.set_cons_succ]
                go_big_quiet_on
                iterate 10 (go_big_quiet_step (fail))
                go_big_quiet_step ((go_at_call 47; with_reducible refine Cls.calls_kept (HRR.out _)))
                iterate 5 (go_big_quiet_step (fail))
                exact wpQuiet_nil rfl
              refine ⟨fun w1 hw1 => ?_, fun h w1 hw1 hm => ?_, fun h w6 hw6 hm => ?_⟩
              · refine ⟨w1.heap.size, w1.alloc (.cells (sc [] [] 0).toArray 64), ?_, (Below.refl _ _).alloc (Nat.le_refl _) _, Blk.new w1 _ 64, hw1.size⟩
                go_simp
              · refine ⟨w1.setCells h 0 (sc a b t), run_store_row _ rfl rfl rfl hm.1 (by exact Nat.le_refl 3) (by kernel_rfl) (sc_one _ _ _), Blk.below_setCells _ hw1 hm.2 0, ?_, hm.2⟩
                have := Blk.Is.setCells (sc a b t) hm.1 0 (by exact Nat.le_refl 3)
                rwa [put_sc] at this
              obtain ⟨h6, hlh⟩ := hm
              have H6 := Lib.hid h6
              have G6 := Lib.hid (Blk.Is.below (w := wr.drew) G4.out hw6)
              have T6 := Lib.hid (Blk.Is.below (w := wr.drew) T4.out hw6)
              have C26 := Blk.cell_below (w := wr.drew) hw6 C2
              have C16 := Blk.cell_below (w := wr.drew) hw6 C1
              have C06 := Blk.cell_below (w := wr.drew) hw6 C0
              have C06' := Blk.cell_below (w := wr.drew) hw6 C0'
              have hgh : g ≠ h := by have := G4.out.lt; omega
              have hTh : T ≠ h := by have := T4.out.lt; omega
              have k6 := k4.drew.trans (hw6.mono k4.size)
              clear h6 hw6 G4 T4 k4 C0 C0' C1 C2 HRR
              simp only [Act.put, List.setIfInBounds_toArray, List.set_cons_zero, List.set_cons_succ, List.drop_succ_cons, List.drop_zero]
              go_upto_region 18 with (fail)
              refine Cls.region_tail (S := Cls.Kept _) 16 (by kernel_rfl) (by kernel_rfl) (Below.refl _ _) ?_
              simp only [List.take_succ_cons, List.take_zero, List.drop_succ_cons, List.drop_zero]
              have q0 := Cls.Wd.cell (w0 := w6.drew) C06
              have q0' := Cls.Wd.cell (w0 := w6.drew) C06'
              have q1 := Cls.Wd.cell (w0 := w6.drew) C16
              iterate 11 (go_big_quiet_step (fail))
              go_big_quiet_step ((go_at_call 43; with_reducible refine Cls.calls_same (bytes_no a b more t N g _ (G6.out.drew.below (Cls.Wd.ok _)) hal HASK.out)))
              iterate 4 (go_big_quiet_step (fail))
              refine wpQuiet_nil ?_
              intro w7 hw7
              have G7 := Lib.hid (Blk.Is.below (w := w6.drew) G6.out hw7)
              have T7 := Lib.hid (Blk.Is.below (w := w6.drew) T6.out hw7)
              have H7 := Lib.hid (Blk.Is.below (w := w6.drew) H6.out hw7)
              have k7 := k6.drew.trans (hw7.mono k6.size)
              clear hw7 q0 q0' q1 G6 H6 T6 k6 C26 C16 C06 C06'
              go_upto_region 22 with (first | (refine Blk.load_row 64 (.tmp 12) rfl (by rfl) h rfl 64 (sc a b t) _ H7.out Try.underlying64 rfl (by kernel_rfl) ?_) | (refine Blk.store_row 64 (.tmp 7) (.tmp 154) rfl rfl T 0 (sc a b t) rfl rfl T7.out (by exact Nat.le_refl 3) (by kernel_rfl) (sc_one _ _ _) ?_) | fail)
              have t8 := Blk.Is.setCells (sc a b t) T7.out 0 (by exact Nat.le_refl 3)
              rw [put_sc] at t8
              have G8 := Lib.hid (Blk.Is.setCellsOther (sc a b t) G7.out hgT 0)
              have k8 := Blk.below_setCells (sc a b t) k7 hwT 0
              have T8 := Lib.hid t8
              generalize w7.setCells T 0 (sc a b t) = w8 at T8 G8 k8 ⊢
              clear t8 G7 H7 T7 k7
              have ht3 : (t2 : Int) = (t : Int) := by omega
              refine Cls.region_cls (S := Cls.Kept w8.drew) (by kernel_rfl) (by kernel_rfl) (Below.refl _ _) ?_
              have q8 := Cls.Wd.cell (w0 := w8.drew) (p := ⟨T, 2, none⟩) (v := .int .i64 (t : Int)) (T8.out.cell 2)
              simp only [Act.put, List.setIfInBounds_toArray, List.set_cons_zero, List.set_cons_succ]
              go_big_quiet_step (fail)
              go_big_quiet_step ((go_at_call 48; with_reducible refine Cls.calls_same (left_to a b t2 (t : Int) (1000 - (t : Int)) (by omega) rfl g _ (G8.out.drew.below (Cls.Wd.ok _)) ha2 (by omega))))
              iterate 4 (go_big_quiet_step (fail))
              refine wpQuiet_nil ?_
              intro w9 hw9
              have G9 := Lib.hid (Blk.Is.below (w := w8.drew) G8.out hw9)
              have T9 := Lib.hid (Blk.Is.below (w := w8.drew) T8.out hw9)
              have k9 := k8.drew.trans (hw9.mono k8.size)
              clear hw9 G8 T8 k8 q8
              go_wp2
              go_roundw
              case rel => exact ⟨j + 1, t2, a, b, by omega, by omega, by go_num, ha2, hb2, Lib.hid (by rw [ht3]; exact G9.out), Lib.hid (by rw [ht3]; exact T9.out), k9⟩
              case measure => simp [intOf]; omega
            · by_cases hse : seedy sd
              · have dsd : (sd != []) = true := by simpa using hsd
                have dsd2 : sd.isEmpty = false := by simpa using hsd
                obtain ⟨⟨a2, b2⟩, hab⟩ : ∃ s, stir (a, b) sd = s := ⟨_, rfl⟩
                have hl2 : a2.length = 32 ∧ b2.length = 32 := by
                  have := stir_length (a, b) sd
                  rw [hab] at this
                  exact this
                have ha2 := hl2.1
                have hb2 := hl2.2
                obtain ⟨t2, ht2⟩ : ∃ t2 : Nat, t2 = 0 := ⟨_, rfl⟩
                have ht2j : t2 ≤ j := by omega
                have RR := fun w => rreseed_yes a b sd (t : Int) w (by omega) (by omega) hse
                rw [hab] at RR
                have HAB := Lib.hid hab
                clear hab hl2
                have HRR := Lib.hid RR
                have HSE := Lib.hid hse
                clear RR hse hsd
                go_upto_region 13 with (fail)
                refine Sto.region_sto 12 10 11 [0, 1, 2, 3, 4, 5, 6, 7, 8, 9] 162 _ _ rfl rfl rfl (by kernel_rfl) (by decide +kernel) (by decide +kernel) (by decide +kernel) (by decide) (by decide) (by decide) (by decide +kernel) rfl (by decide +kernel)
                  (fun h : Nat => .pointer (some ⟨h, 0, none⟩)) (fun w1 h => Blk.Is w1 h (sc [] [] 0) 64 ∧ wr.heap.size ≤ h) (fun w1 h => Blk.Is w1 h (sc a2 b2 0) 64 ∧ wr.heap.size ≤ h) (fun z w1 w2 h hb => ⟨Blk.Is.below h.1 hb, h.2⟩) (fun z w1 w2 h hb => ⟨Blk.Is.below h.1 hb, h.2⟩) ?_
                simp only [Dep.sel, List.getElem?_cons_zero, List.getElem?_cons_succ]
                apply Exists.intro
                apply And.intro
                · intro w1 hw1
                  have q2 := Cls.Wd.cell (w0 := w1) (Blk.cell_below (w := wr.drew) hw1 C2)
                  go_big_quiet_want
                  refine quiet_load_in 64 (.tmp 7) rfl T rfl (sc a b t) _ (Blk.Is.below (w := wr.drew) T4.out hw1) Try.underlying64 rfl (by kernel_rfl) ?_
                  simp only [Act.put, List.setIfInBounds_toArray, List.set_cons_zero, List.set_cons_succ]
                  go_big_quiet_on
                  iterate 5 (go_big_quiet_step (fail))
                  go_big_quiet_step ((go_at_call 45; with_reducible refine Cls.calls_kept (HRR.out _)))
                  iterate 3 (go_big_quiet_step (fail))
                  exact wpQuiet_nil rfl
                refine ⟨fun w1 hw1 => ?_, fun h w1 hw1 hm => ?_, fun h w6 hw6 hm => ?_⟩
                · refine ⟨w1.heap.size, w1.alloc (.cells (sc [] [] 0).toArray 64), ?_, (Below.refl _ _).alloc (Nat.le_refl _) _, Blk.new w1 _ 64, hw1.size⟩
                  go_simp
                · refine ⟨w1.setCells h 0 (sc a2 b2 0), run_store_row _ rfl rfl rfl hm.1 (by exact Nat.le_refl 3) (by kernel_rfl) (sc_one _ _ _), Blk.below_setCells _ hw1 hm.2 0, ?_, hm.2⟩
                  have := Blk.Is.setCells (sc a2 b2 0) hm.1 0 (by exact Nat.le_refl 3)
                  rwa [put_sc] at this
                obtain ⟨h6, hlh⟩ := hm
                have H6 := Lib.hid h6
                have G6 := Lib.hid (Blk.Is.below (w := wr.drew) G4.out hw6)
                have T6 := Lib.hid (Blk.Is.below (w := wr.drew) T4.out hw6)
                have C26 := Blk.cell_below (w := wr.drew) hw6 C2
                have C16 := Blk.cell_below (w := wr.drew) hw6 C1
                have C06 := Blk.cell_below (w := wr.drew) hw6 C0
                have C06' := Blk.cell_below (w := wr.drew) hw6 C0'
                have hgh : g ≠ h := by have := G4.out.lt; omega
                have hTh : T ≠ h := by have := T4.out.lt; omega
                have k6 := k4.drew.trans (hw6.mono k4.size)
                clear h6 hw6 G4 T4 k4 C0 C0' C1 C2 HRR
                simp only [Act.put, List.setIfInBounds_toArray, List.set_cons_zero, List.set_cons_succ, List.drop_succ_cons, List.drop_zero]
                go_wp2_with fail
                refine (reseed_to a b sd a2 b2 HAB.out t g w6 G6.out hal hbl HSE.out).mono ?_
                rintro e w7 ⟨rfl, hg7, o7⟩
                have G7 := Lib.hid hg7
                have H7 := Lib.hid (H6.out.only o7 (fun e => hgh e.symm))
                have T7 := Lib.hid (T6.out.only o7 (fun e => hgT e.symm))
                have k7 := k6.trans (o7.below hwg k6.size)
                clear hg7 o7 G6 H6 T6 k6 C26 C16 C06 C06'
                go_upto_region 22 with (first | (refine Blk.load_row 64 (.tmp 10) rfl (by rfl) h rfl 64 (sc a2 b2 0) _ H7.out Try.underlying64 rfl (by kernel_rfl) ?_) | (refine Blk.store_row 64 (.tmp 7) (.tmp 114) rfl rfl T 0 (sc a2 b2 0) rfl rfl T7.out (by exact Nat.le_refl 3) (by kernel_rfl) (sc_one _ _ _) ?_) | fail)
                have t8 := Blk.Is.setCells (sc a2 b2 0) T7.out 0 (by exact Nat.le_refl 3)
                rw [put_sc] at t8
                have G8 := Lib.hid (Blk.Is.setCellsOther (sc a2 b2 0) G7.out hgT 0)
                have k8 := Blk.below_setCells (sc a2 b2 0) k7 hwT 0
                have T8 := Lib.hid t8
                generalize w7.setCells T 0 (sc a2 b2 0) = w8 at T8 G8 k8 ⊢
                clear t8 G7 H7 T7 k7
                have ht3 : (t2 : Int) = 0 := by omega
                refine Cls.region_cls (S := Cls.Kept w8.drew) (by kernel_rfl) (by kernel_rfl) (Below.refl _ _) ?_
                have q8 := Cls.Wd.cell (w0 := w8.drew) (p := ⟨T, 2, none⟩) (v := .int .i64 0) (T8.out.cell 2)
                simp only [Act.put, List.setIfInBounds_toArray, List.set_cons_zero, List.set_cons_succ]
                go_big_quiet_step (fail)
                go_big_quiet_step ((go_at_call 48; with_reducible refine Cls.calls_same (left_to a2 b2 t2 0 (1000 - 0) (by omega) rfl g _ (G8.out.drew.below (Cls.Wd.ok _)) ha2 (by omega))))
                iterate 4 (go_big_quiet_step (fail))
                refine wpQuiet_nil ?_
                intro w9 hw9
                have G9 := Lib.hid (Blk.Is.below (w := w8.drew) G8.out hw9)
                have T9 := Lib.hid (Blk.Is.below (w := w8.drew) T8.out hw9)
                have k9 := k8.drew.trans (hw9.mono k8.size)
                clear hw9 G8 T8 k8 q8
                go_wp2
                go_roundw
                case rel => exact ⟨j + 1, t2, a2, b2, by omega, by omega, by go_num, ha2, hb2, Lib.hid (by rw [ht3]; exact G9.out), Lib.hid (by rw [ht3]; exact T9.out), k9⟩
                case measure => simp [intOf]; omega
              · have dsd : (sd != []) = true := by simpa using hsd
                have dsd2 : sd.isEmpty = false := by simpa using hsd
                have ha2 := hal
                have hb2 := hbl
                obtain ⟨t2, ht2⟩ : ∃ t2 : Nat, t2 = t := ⟨_, rfl⟩
                have ht2j : t2 ≤ j := by omega
                have RR := fun w => rreseed_no a b sd (t : Int) w hse

                have HRR := Lib.hid RR
                have HSE := Lib.hid hse
                clear RR hse hsd
                go_upto_region 13 with (fail)
                refine Sto.region_sto 12 10 11 [0, 1, 2, 3, 4, 5, 6, 7, 8, 9] 162 _ _ rfl rfl rfl (by kernel_rfl) (by decide +kernel) (by decide +kernel) (by decide +kernel) (by decide) (by decide) (by decide) (by decide +kernel) rfl (by decide +kernel)
                  (fun h : Nat => .pointer (some ⟨h, 0, none⟩)) (fun w1 h => Blk.Is w1 h (sc [] [] 0) 64 ∧ wr.heap.size ≤ h) (fun w1 h => Blk.Is w1 h (sc a b t) 64 ∧ wr.heap.size ≤ h) (fun z w1 w2 h hb => ⟨Blk.Is.below h.1 hb, h.2⟩) (fun z w1 w2 h hb => ⟨Blk.Is.below h.1 hb, h.2⟩) ?_
                simp only [Dep.sel, List.getElem?_cons_zero, List.getElem?_cons_succ]
                apply Exists.intro
                apply And.intro
                · intro w1 hw1
                  have q2 := Cls.Wd.cell (w0 := w1) (Blk.cell_below (w := wr.drew) hw1 C2)
                  go_big_quiet_want
                  refine quiet_load_in 64 (.tmp 7) rfl T rfl (sc a b t) _ (Blk.Is.below (w := wr.drew) T4.out hw1) Try.underlying64 rfl (by kernel_rfl) ?_
                  simp only [Act.put, List.setIfInBounds_toArray, List.set_cons_zero, List.set_cons_succ]
                  go_big_quiet_on
                  iterate 5 (go_big_quiet_step (fail))
                  go_big_quiet_step ((go_at_call 45; with_reducible refine Cls.calls_kept (HRR.out _)))
                  iterate 3 (go_big_quiet_step (fail))
                  exact wpQuiet_nil rfl
                refine ⟨fun w1 hw1 => ?_, fun h w1 hw1 hm => ?_, fun h w6 hw6 hm => ?_⟩
                · refine ⟨w1.heap.size, w1.alloc (.cells (sc [] [] 0).toArray 64), ?_, (Below.refl _ _).alloc (Nat.le_refl _) _, Blk.new w1 _ 64, hw1.size⟩
                  go_simp
                · refine ⟨w1.setCells h 0 (sc a b t), run_store_row _ rfl rfl rfl hm.1 (by exact Nat.le_refl 3) (by kernel_rfl) (sc_one _ _ _), Blk.below_setCells _ hw1 hm.2 0, ?_, hm.2⟩
                  have := Blk.Is.setCells (sc a b t) hm.1 0 (by exact Nat.le_refl 3)
                  rwa [put_sc] at this
                obtain ⟨h6, hlh⟩ := hm
                have H6 := Lib.hid h6
                have G6 := Lib.hid (Blk.Is.below (w := wr.drew) G4.out hw6)
                have T6 := Lib.hid (Blk.Is.below (w := wr.drew) T4.out hw6)
                have C26 := Blk.cell_below (w := wr.drew) hw6 C2
                have C16 := Blk.cell_below (w := wr.drew) hw6 C1
                have C06 := Blk.cell_below (w := wr.drew) hw6 C0
                have C06' := Blk.cell_below (w := wr.drew) hw6 C0'
                have hgh : g ≠ h := by have := G4.out.lt; omega
                have hTh : T ≠ h := by have := T4.out.lt; omega
                have k6 := k4.drew.trans (hw6.mono k4.size)
                clear h6 hw6 G4 T4 k4 C0 C0' C1 C2 HRR
                simp only [Act.put, List.setIfInBounds_toArray, List.set_cons_zero, List.set_cons_succ, List.drop_succ_cons, List.drop_zero]
                go_wp2_with fail
                refine (reseed_no a b sd t g w6 G6.out hal HSE.out).mono ?_
                rintro e w7 ⟨rfl, rfl⟩
                have G7 := G6
                have H7 := H6
                have T7 := T6
                have k7 := k6
                clear G6 H6 T6 k6 C26 C16 C06 C06'
                go_upto_region 22 with (first | (refine Blk.load_row 64 (.tmp 10) rfl (by rfl) h rfl 64 (sc a b t) _ H7.out Try.underlying64 rfl (by kernel_rfl) ?_) | (refine Blk.store_row 64 (.tmp 7) (.tmp 114) rfl rfl T 0 (sc a b t) rfl rfl T7.out (by exact Nat.le_refl 3) (by kernel_rfl) (sc_one _ _ _) ?_) | fail)
                have t8 := Blk.Is.setCells (sc a b t) T7.out 0 (by exact Nat.le_refl 3)
                rw [put_sc] at t8
                have G8 := Lib.hid (Blk.Is.setCellsOther (sc a b t) G7.out hgT 0)
                have k8 := Blk.below_setCells (sc a b t) k7 hwT 0
                have T8 := Lib.hid t8
                generalize w6.setCells T 0 (sc a b t) = w8 at T8 G8 k8 ⊢
                clear t8 G7 H7 T7 k7
                have ht3 : (t2 : Int) = (t : Int) := by omega
                refine Cls.region_cls (S := Cls.Kept w8.drew) (by kernel_rfl) (by kernel_rfl) (Below.refl _ _) ?_
                have q8 := Cls.Wd.cell (w0 := w8.drew) (p := ⟨T, 2, none⟩) (v := .int .i64 (t : Int)) (T8.out.cell 2)
                simp only [Act.put, List.setIfInBounds_toArray, List.set_cons_zero, List.set_cons_succ]
                go_big_quiet_step (fail)
                go_big_quiet_step ((go_at_call 48; with_reducible refine Cls.calls_same (left_to a b t2 (t : Int) (1000 - (t : Int)) (by omega) rfl g _ (G8.out.drew.below (Cls.Wd.ok _)) ha2 (by omega))))
                iterate 4 (go_big_quiet_step (fail))
                refine wpQuiet_nil ?_
                intro w9 hw9
                have G9 := Lib.hid (Blk.Is.below (w := w8.drew) G8.out hw9)
                have T9 := Lib.hid (Blk.Is.below (w := w8.drew) T8.out hw9)
                have k9 := k8.drew.trans (hw9.mono k8.size)
                clear hw9 G8 T8 k8 q8
                go_wp2
                go_roundw
                case rel => exact ⟨j + 1, t2, a, b, by omega, by omega, by go_num, ha2, hb2, Lib.hid (by rw [ht3]; exact G9.out), Lib.hid (by rw [ht3]; exact T9.out), k9⟩
                case measure => simp [intOf]; omega
        · have d5 : decide (N > 200) = false := decide_eq_false m3
          by_cases hsd : sd = []
          · have dsd : (sd != []) = false := by simpa using hsd
            have dsd2 : sd.isEmpty = true := by simpa using hsd
            clear hsd
            by_cases hask : asks N more
            · obtain ⟨m, hNm⟩ : ∃ m : Nat, N = m := ⟨N.toNat, by have := hask.1; omega⟩
              have hm8 : m ≤ 8192 := by have := hask.2.1; omega
              have hx8 : more.length ≤ 1024 := by omega
              obtain ⟨⟨a2, b2⟩, hab⟩ : ∃ s, served (a, b) m more = s := ⟨_, rfl⟩
              obtain ⟨out, hout⟩ : ∃ s, told (a, b) m more = s := ⟨_, rfl⟩
              have hl2 : a2.length = 32 ∧ b2.length = 32 := by
                have := served_length (a, b) m more
                rw [hab] at this
                exact this
              have ha2 := hl2.1
              have hb2 := hl2.2
              obtain ⟨t2, ht2⟩ : ∃ t2 : Nat, t2 = t + 1 := ⟨_, rfl⟩
              have ht2j : t2 ≤ j + 1 := by omega
              have RR := fun w => rbytes_any a b more m (t : Int) (by omega) (by omega) w hal hbl hm8 hx8
              rw [hab, hout, ← hNm] at RR
              have HRR := Lib.hid RR
              have HAB := Lib.hid hab
              have HOUT := Lib.hid hout
              have HNM := Lib.hid hNm
              clear RR hab hout hNm hl2 hask
              go_upto_region 17 with (fail)
              refine Sto.region_sto 19 16 17 [0, 1, 2, 3, 4, 5, 6, 7, 8, 9, 10, 11, 12, 13, 14, 15, 18] 162 _ _ rfl rfl rfl (by kernel_rfl) (by decide +kernel) (by decide +kernel) (by decide +kernel) (by decide) (by decide) (by decide) (by decide +kernel) rfl (by decide +kernel)
                (fun h : Nat => .pointer (some ⟨h, 0, none⟩)) (fun w1 h => Blk.Is w1 h (sc [] [] 0) 64 ∧ wr.heap.size ≤ h) (fun w1 h => Blk.Is w1 h (sc a2 b2 ((t : Int) + 1)) 64 ∧ wr.heap.size ≤ h) (fun z w1 w2 h hb => ⟨Blk.Is.below h.1 hb, h.2⟩) (fun z w1 w2 h hb => ⟨Blk.Is.below h.1 hb, h.2⟩) ?_
              simp only [Dep.sel, List.getElem?_cons_zero, List.getElem?_cons_succ]
              apply Exists.intro
              apply And.intro
              · intro w1 hw1
                have q0 := Cls.Wd.cell (w0 := w1) (Blk.cell_below (w := wr.drew) hw1 C0)
                have q0' := Cls.Wd.cell (w0 := w1) (Blk.cell_below (w := wr.drew) hw1 C0')
                have q1 := Cls.Wd.cell (w0 := w1) (Blk.cell_below (w := wr.drew) hw1 C1)
                go_big_quiet_want
                refine quiet_load_in 64 (.tmp 7) rfl T rfl (sc a b t) _ (Blk.Is.below (w := wr.drew) T4.out hw1) Try.underlying64 rfl (by kernel_rfl) ?_
                simp only [Act.put, List.setIfInBounds_toArray, List.set_cons_zero, List.set_cons_succ]
                go_big_quiet_on
                iterate 10 (go_big_quiet_step (fail))
                go_big_quiet_step ((go_at_call 47; with_reducible refine Cls.calls_kept (HRR.out _)))
                iterate 5 (go_big_quiet_step (fail))
                exact wpQuiet_nil rfl
              refine ⟨fun w1 hw1 => ?_, fun h w1 hw1 hm => ?_, fun h w6 hw6 hm => ?_⟩
              · refine ⟨w1.heap.size, w1.alloc (.cells (sc [] [] 0).toArray 64), ?_, (Below.refl _ _).alloc (Nat.le_refl _) _, Blk.new w1 _ 64, hw1.size⟩
                go_simp
              · refine ⟨w1.setCells h 0 (sc a2 b2 ((t : Int) + 1)), run_store_row _ rfl rfl rfl hm.1 (by exact Nat.le_refl 3) (by kernel_rfl) (sc_one _ _ _), Blk.below_setCells _ hw1 hm.2 0, ?_, hm.2⟩
                have := Blk.Is.setCells (sc a2 b2 ((t : Int) + 1)) hm.1 0 (by exact Nat.le_refl 3)
                rwa [put_sc] at this
              obtain ⟨h6, hlh⟩ := hm
              have H6 := Lib.hid h6
              have G6 := Lib.hid (Blk.Is.below (w := wr.drew) G4.out hw6)
              have T6 := Lib.hid (Blk.Is.below (w := wr.drew) T4.out hw6)
              have C26 := Blk.cell_below (w := wr.drew) hw6 C2
              have C16 := Blk.cell_below (w := wr.drew) hw6 C1
              have C06 := Blk.cell_below (w := wr.drew) hw6 C0
              have C06' := Blk.cell_below (w := wr.drew) hw6 C0'
              have hgh : g ≠ h := by have := G4.out.lt; omega
              have hTh : T ≠ h := by have := T4.out.lt; omega
              have k6 := k4.drew.trans (hw6.mono k4.size)
              clear h6 hw6 G4 T4 k4 C0 C0' C1 C2 HRR
              simp only [Act.put, List.setIfInBounds_toArray, List.set_cons_zero, List.set_cons_succ, List.drop_succ_cons, List.drop_zero]
              go_upto_region 18 with (fail)
              refine Run.region_call 16 11 [0, 1, 2, 3, 4, 5, 6, 7, 8, 9, 10] [12, 13, 14, 15] 162 _ rfl (by kernel_rfl) (by decide +kernel) (by decide +kernel) (by decide +kernel) (by decide) (by decide +kernel) (by decide +kernel) rfl (by decide +kernel)
                (fun _ : Unit => .tuple #[.string ⟨out.toArray⟩, .int .i64 0]) (fun w2 _ => Hid (Blk.Is w2 g (sc a2 b2 ((t : Int) + 1)) 76) ∧ Hid (Blk.Is w2 T (sc a b t) 64) ∧ Hid (Blk.Is w2 h (sc a2 b2 ((t : Int) + 1)) 64) ∧ Below w.heap.size w w2)
                (fun _ w1 w2 h hb => ⟨Lib.hid (Blk.Is.below h.1.out hb), Lib.hid (Blk.Is.below h.2.1.out hb), Lib.hid (Blk.Is.below h.2.2.1.out hb), h.2.2.2.trans (hb.mono h.2.2.2.size)⟩) ?_
              simp only [Dep.sel, List.getElem?_cons_zero, List.getElem?_cons_succ]
              apply Exists.intro
              apply And.intro
              · intro w1 hw1
                have q0 := Cls.Wd.cell (w0 := w1) (Blk.cell_below (w := w6.drew) hw1 C06)
                have q0' := Cls.Wd.cell (w0 := w1) (Blk.cell_below (w := w6.drew) hw1 C06')
                have q1 := Cls.Wd.cell (w0 := w1) (Blk.cell_below (w := w6.drew) hw1 C16)
                iterate 11 (go_big_quiet_step (fail))
                exact wpQuiet_nil rfl
              refine ⟨fun w1 hw1 => ?_, ?_⟩
              · refine ⟨43, #[.pointer (some ⟨g, 0, none⟩), .int .i64 N, .string ⟨more.toArray⟩], run_call Try.func43 (by kernel_rfl) rfl _ rfl (by simp only [List.map_toArray, List.map_cons, List.map_nil]; rfl), ?_⟩
                have G7 := Blk.Is.below (w := w6.drew) G6.out hw1
                have T7 := Blk.Is.below (w := w6.drew) T6.out hw1
                have H7 := Blk.Is.below (w := w6.drew) H6.out hw1
                have k7 := k6.drew.trans (hw1.mono k6.size)
                refine (bytes_to a b more out a2 b2 t m t N ((t : Int) + 1) rfl HNM.out rfl HOUT.out HAB.out g w1 G7 hal hbl (by omega) hm8 hx8).mono ?_
                rintro e w2 ⟨rfl, hg2, o2⟩
                exact ⟨(), rfl, Lib.hid hg2, Lib.hid (T7.only o2 (fun e => hgT e.symm)), Lib.hid (H7.only o2 (fun e => hgh e.symm)), k7.trans (o2.below hwg k7.size)⟩
              apply Exists.intro
              apply And.intro
              · intro _ w1 hm
                simp only [Act.put, List.setIfInBounds_toArray, List.set_cons_zero, List.set_cons_succ]
                iterate 4 (go_big_quiet_step (fail))
                exact wpQuiet_nil rfl
              intro _ w7 hm
              obtain ⟨G7, T7, H7, k7⟩ := hm
              clear G6 H6 T6 k6 C26 C16 C06 C06'
              simp only [List.drop_succ_cons, List.drop_zero]
              go_upto_region 22 with (first | (refine Blk.load_row 64 (.tmp 12) rfl (by rfl) h rfl 64 (sc a2 b2 ((t : Int) + 1)) _ H7.out Try.underlying64 rfl (by kernel_rfl) ?_) | (refine Blk.store_row 64 (.tmp 7) (.tmp 154) rfl rfl T 0 (sc a2 b2 ((t : Int) + 1)) rfl rfl T7.out (by exact Nat.le_refl 3) (by kernel_rfl) (sc_one _ _ _) ?_) | fail)
              have t8 := Blk.Is.setCells (sc a2 b2 ((t : Int) + 1)) T7.out 0 (by exact Nat.le_refl 3)
              rw [put_sc] at t8
              have G8 := Lib.hid (Blk.Is.setCellsOther (sc a2 b2 ((t : Int) + 1)) G7.out hgT 0)
              have k8 := Blk.below_setCells (sc a2 b2 ((t : Int) + 1)) k7 hwT 0
              have T8 := Lib.hid t8
              generalize w7.setCells T 0 (sc a2 b2 ((t : Int) + 1)) = w8 at T8 G8 k8 ⊢
              clear t8 G7 H7 T7 k7
              have ht3 : (t2 : Int) = (t : Int) + 1 := by omega
              refine Cls.region_cls (S := Cls.Kept w8.drew) (by kernel_rfl) (by kernel_rfl) (Below.refl _ _) ?_
              have q8 := Cls.Wd.cell (w0 := w8.drew) (p := ⟨T, 2, none⟩) (v := .int .i64 ((t : Int) + 1)) (T8.out.cell 2)
              simp only [Act.put, List.setIfInBounds_toArray, List.set_cons_zero, List.set_cons_succ]
              go_big_quiet_step (fail)
              go_big_quiet_step ((go_at_call 48; with_reducible refine Cls.calls_same (left_to a2 b2 t2 ((t : Int) + 1) (1000 - ((t : Int) + 1)) (by omega) rfl g _ (G8.out.drew.below (Cls.Wd.ok _)) ha2 (by omega))))
              iterate 4 (go_big_quiet_step (fail))
              refine wpQuiet_nil ?_
              intro w9 hw9
              have G9 := Lib.hid (Blk.Is.below (w := w8.drew) G8.out hw9)
              have T9 := Lib.hid (Blk.Is.below (w := w8.drew) T8.out hw9)
              have k9 := k8.drew.trans (hw9.mono k8.size)
              clear hw9 G8 T8 k8 q8
              go_wp2
              go_roundw
              case rel => exact ⟨j + 1, t2, a2, b2, by omega, by omega, by go_num, ha2, hb2, Lib.hid (by rw [ht3]; exact G9.out), Lib.hid (by rw [ht3]; exact T9.out), k9⟩
              case measure => simp [intOf]; omega
            · have ha2 := hal
              have hb2 := hbl
              obtain ⟨t2, ht2⟩ : ∃ t2 : Nat, t2 = t := ⟨_, rfl⟩
              have ht2j : t2 ≤ j := by omega
              have RR := fun w => rbytes_no a b more (t : Int) N w hask
              have HRR := Lib.hid RR
              have HASK := Lib.hid hask
              clear RR hask
              go_upto_region 17 with (fail)
              refine Sto.region_sto 19 16 17 [0, 1, 2, 3, 4, 5, 6, 7, 8, 9, 10, 11, 12, 13, 14, 15, 18] 162 _ _ rfl rfl rfl (by kernel_rfl) (by decide +kernel) (by decide +kernel) (by decide +kernel) (by decide) (by decide) (by decide) (by decide +kernel) rfl (by decide +kernel)
                (fun h : Nat => .pointer (some ⟨h, 0, none⟩)) (fun w1 h => Blk.Is w1 h (sc [] [] 0) 64 ∧ wr.heap.size ≤ h) (fun w1 h => Blk.Is w1 h (sc a b t) 64 ∧ wr.heap.size ≤ h) (fun z w1 w2 h hb => ⟨Blk.Is.below h.1 hb, h.2⟩) (fun z w1 w2 h hb => ⟨Blk.Is.below h.1 hb, h.2⟩) ?_
              simp only [Dep.sel, List.getElem?_cons_zero, List.getElem?_cons_succ]
              apply Exists.intro
              apply And.intro
              · intro w1 hw1
                have q0 := Cls.Wd.cell (w0 := w1) (Blk.cell_below (w := wr.drew) hw1 C0)
                have q0' := Cls.Wd.cell (w0 := w1) (Blk.cell_below (w := wr.drew) hw1 C0')
                have q1 := Cls.Wd.cell (w0 := w1) (Blk.cell_below (w := wr.drew) hw1 C1)
                go_big_quiet_want
                refine quiet_load_in 64 (.tmp 7) rfl T rfl (sc a b t) _ (Blk.Is.below (w := wr.drew) T4.out hw1) Try.underlying64 rfl (by kernel_rfl) ?_
                simp only [Act.put, List.setIfInBounds_toArray, List.set_cons_zero, List.set_cons_succ]
                go_big_quiet_on
                iterate 10 (go_big_quiet_step (fail))
                go_big_quiet_step ((go_at_call 47; with_reducible refine Cls.calls_kept (HRR.out _)))
                iterate 5 (go_big_quiet_step (fail))
                exact wpQuiet_nil rfl
              refine ⟨fun w1 hw1 => ?_, fun h w1 hw1 hm => ?_, fun h w6 hw6 hm => ?_⟩
              · refine ⟨w1.heap.size, w1.alloc (.cells (sc [] [] 0).toArray 64), ?_, (Below.refl _ _).alloc (Nat.le_refl _) _, Blk.new w1 _ 64, hw1.size⟩
                go_simp
              · refine ⟨w1.setCells h 0 (sc a b t), run_store_row _ rfl rfl rfl hm.1 (by exact Nat.le_refl 3) (by kernel_rfl) (sc_one _ _ _), Blk.below_setCells _ hw1 hm.2 0, ?_, hm.2⟩
                have := Blk.Is.setCells (sc a b t) hm.1 0 (by exact Nat.le_refl 3)
                rwa [put_sc] at this
              obtain ⟨h6, hlh⟩ := hm
              have H6 := Lib.hid h6
              have G6 := Lib.hid (Blk.Is.below (w := wr.drew) G4.out hw6)
              have T6 := Lib.hid (Blk.Is.below (w := wr.drew) T4.out hw6)
              have C26 := Blk.cell_below (w := wr.drew) hw6 C2
              have C16 := Blk.cell_below (w := wr.drew) hw6 C1
              have C06 := Blk.cell_below (w := wr.drew) hw6 C0
              have C06' := Blk.cell_below (w := wr.drew) hw6 C0'
              have hgh : g ≠ h := by have := G4.out.lt; omega
              have hTh : T ≠ h := by have := T4.out.lt; omega
              have k6 := k4.drew.trans (hw6.mono k4.size)
              clear h6 hw6 G4 T4 k4 C0 C0' C1 C2 HRR
              simp only [Act.put, List.setIfInBounds_toArray, List.set_cons_zero, List.set_cons_succ, List.drop_succ_cons, List.drop_zero]
              go_upto_region 18 with (fail)
              refine Cls.region_tail (S := Cls.Kept _) 16 (by kernel_rfl) (by kernel_rfl) (Below.refl _ _) ?_
              simp only [List.take_succ_cons, List.take_zero, List.drop_succ_cons, List.drop_zero]
              have q0 := Cls.Wd.cell (w0 := w6.drew) C06
              have q0' := Cls.Wd.cell (w0 := w6.drew) C06'
              have q1 := Cls.Wd.cell (w0 := w6.drew) C16
              iterate 11 (go_big_quiet_step (fail))
              go_big_quiet_step ((go_at_call 43; with_reducible refine Cls.calls_same (bytes_no a b more t N g _ (G6.out.drew.below (Cls.Wd.ok _)) hal HASK.out)))
              iterate 4 (go_big_quiet_step (fail))
              refine wpQuiet_nil ?_
              intro w7 hw7
              have G7 := Lib.hid (Blk.Is.below (w := w6.drew) G6.out hw7)
              have T7 := Lib.hid (Blk.Is.below (w := w6.drew) T6.out hw7)
              have H7 := Lib.hid (Blk.Is.below (w := w6.drew) H6.out hw7)
              have k7 := k6.drew.trans (hw7.mono k6.size)
              clear hw7 q0 q0' q1 G6 H6 T6 k6 C26 C16 C06 C06'
              go_upto_region 22 with (first | (refine Blk.load_row 64 (.tmp 12) rfl (by rfl) h rfl 64 (sc a b t) _ H7.out Try.underlying64 rfl (by kernel_rfl) ?_) | (refine Blk.store_row 64 (.tmp 7) (.tmp 154) rfl rfl T 0 (sc a b t) rfl rfl T7.out (by exact Nat.le_refl 3) (by kernel_rfl) (sc_one _ _ _) ?_) | fail)
              have t8 := Blk.Is.setCells (sc a b t) T7.out 0 (by exact Nat.le_refl 3)
              rw [put_sc] at t8
              have G8 := Lib.hid (Blk.Is.setCellsOther (sc a b t) G7.out hgT 0)
              have k8 := Blk.below_setCells (sc a b t) k7 hwT 0
              have T8 := Lib.hid t8
              generalize w7.setCells T 0 (sc a b t) = w8 at T8 G8 k8 ⊢
              clear t8 G7 H7 T7 k7
              have ht3 : (t2 : Int) = (t : Int) := by omega
              refine Cls.region_cls (S := Cls.Kept w8.drew) (by kernel_rfl) (by kernel_rfl) (Below.refl _ _) ?_
              have q8 := Cls.Wd.cell (w0 := w8.drew) (p := ⟨T, 2, none⟩) (v := .int .i64 (t : Int)) (T8.out.cell 2)
              simp only [Act.put, List.setIfInBounds_toArray, List.set_cons_zero, List.set_cons_succ]
              go_big_quiet_step (fail)
              go_big_quiet_step ((go_at_call 48; with_reducible refine Cls.calls_same (left_to a b t2 (t : Int) (1000 - (t : Int)) (by omega) rfl g _ (G8.out.drew.below (Cls.Wd.ok _)) ha2 (by omega))))
              iterate 4 (go_big_quiet_step (fail))
              refine wpQuiet_nil ?_
              intro w9 hw9
              have G9 := Lib.hid (Blk.Is.below (w := w8.drew) G8.out hw9)
              have T9 := Lib.hid (Blk.Is.below (w := w8.drew) T8.out hw9)
              have k9 := k8.drew.trans (hw9.mono k8.size)
              clear hw9 G8 T8 k8 q8
              go_wp2
              go_roundw
              case rel => exact ⟨j + 1, t2, a, b, by omega, by omega, by go_num, ha2, hb2, Lib.hid (by rw [ht3]; exact G9.out), Lib.hid (by rw [ht3]; exact T9.out), k9⟩
              case measure => simp [intOf]; omega
          · by_cases hse : seedy sd
            · have dsd : (sd != []) = true := by simpa using hsd
              have dsd2 : sd.isEmpty = false := by simpa using hsd
              obtain ⟨⟨a2, b2⟩, hab⟩ : ∃ s, stir (a, b) sd = s := ⟨_, rfl⟩
              have hl2 : a2.length = 32 ∧ b2.length = 32 := by
                have := stir_length (a, b) sd
                rw [hab] at this
                exact this
              have ha2 := hl2.1
              have hb2 := hl2.2
              obtain ⟨t2, ht2⟩ : ∃ t2 : Nat, t2 = 0 := ⟨_, rfl⟩
              have ht2j : t2 ≤ j := by omega
              have RR := fun w => rreseed_yes a b sd (t : Int) w (by omega) (by omega) hse
              rw [hab] at RR
              have HAB := Lib.hid hab
              clear hab hl2
              have HRR := Lib.hid RR
              have HSE := Lib.hid hse
              clear RR hse hsd
              go_upto_region 13 with (fail)
              refine Sto.region_sto 12 10 11 [0, 1, 2, 3, 4, 5, 6, 7, 8, 9] 162 _ _ rfl rfl rfl (by kernel_rfl) (by decide +kernel) (by decide +kernel) (by decide +kernel) (by decide) (by decide) (by decide) (by decide +kernel) rfl (by decide +kernel)
                (fun h : Nat => .pointer (some ⟨h, 0, none⟩)) (fun w1 h => Blk.Is w1 h (sc [] [] 0) 64 ∧ wr.heap.size ≤ h) (fun w1 h => Blk.Is w1 h (sc a2 b2 0) 64 ∧ wr.heap.size ≤ h) (fun z w1 w2 h hb => ⟨Blk.Is.below h.1 hb, h.2⟩) (fun z w1 w2 h hb => ⟨Blk.Is.below h.1 hb, h.2⟩) ?_
              simp only [Dep.sel, List.getElem?_cons_zero, List.getElem?_cons_succ]
              apply Exists.intro
              apply And.intro
              · intro w1 hw1
                have q2 := Cls.Wd.cell (w0 := w1) (Blk.cell_below (w := wr.drew) hw1 C2)
                go_big_quiet_want
                refine quiet_load_in 64 (.tmp 7) rfl T rfl (sc a b t) _ (Blk.Is.below (w := wr.drew) T4.out hw1) Try.underlying64 rfl (by kernel_rfl) ?_
                simp only [Act.put, List.setIfInBounds_toArray, List.set_cons_zero, List.set_cons_succ]
                go_big_quiet_on
                iterate 5 (go_big_quiet_step (fail))
                go_big_quiet_step ((go_at_call 45; with_reducible refine Cls.calls_kept (HRR.out _)))
                iterate 3 (go_big_quiet_step (fail))
                exact wpQuiet_nil rfl
              refine ⟨fun w1 hw1 => ?_, fun h w1 hw1 hm => ?_, fun h w6 hw6 hm => ?_⟩
              · refine ⟨w1.heap.size, w1.alloc (.cells (sc [] [] 0).toArray 64), ?_, (Below.refl _ _).alloc (Nat.le_refl _) _, Blk.new w1 _ 64, hw1.size⟩
                go_simp
              · refine ⟨w1.setCells h 0 (sc a2 b2 0), run_store_row _ rfl rfl rfl hm.1 (by exact Nat.le_refl 3) (by kernel_rfl) (sc_one _ _ _), Blk.below_setCells _ hw1 hm.2 0, ?_, hm.2⟩
                have := Blk.Is.setCells (sc a2 b2 0) hm.1 0 (by exact Nat.le_refl 3)
                rwa [put_sc] at this
              obtain ⟨h6, hlh⟩ := hm
              have H6 := Lib.hid h6
              have G6 := Lib.hid (Blk.Is.below (w := wr.drew) G4.out hw6)
              have T6 := Lib.hid (Blk.Is.below (w := wr.drew) T4.out hw6)
              have C26 := Blk.cell_below (w := wr.drew) hw6 C2
              have C16 := Blk.cell_below (w := wr.drew) hw6 C1
              have C06 := Blk.cell_below (w := wr.drew) hw6 C0
              have C06' := Blk.cell_below (w := wr.drew) hw6 C0'
              have hgh : g ≠ h := by have := G4.out.lt; omega
              have hTh : T ≠ h := by have := T4.out.lt; omega
              have k6 := k4.drew.trans (hw6.mono k4.size)
              clear h6 hw6 G4 T4 k4 C0 C0' C1 C2 HRR
              simp only [Act.put, List.setIfInBounds_toArray, List.set_cons_zero, List.set_cons_succ, List.drop_succ_cons, List.drop_zero]
              go_wp2_with fail
              refine (reseed_to a b sd a2 b2 HAB.out t g w6 G6.out hal hbl HSE.out).mono ?_
              rintro e w7 ⟨rfl, hg7, o7⟩
              have G7 := Lib.hid hg7
              have H7 := Lib.hid (H6.out.only o7 (fun e => hgh e.symm))
              have T7 := Lib.hid (T6.out.only o7 (fun e => hgT e.symm))
              have k7 := k6.trans (o7.below hwg k6.size)
              clear hg7 o7 G6 H6 T6 k6 C26 C16 C06 C06'
              go_upto_region 22 with (first | (refine Blk.load_row 64 (.tmp 10) rfl (by rfl) h rfl 64 (sc a2 b2 0) _ H7.out Try.underlying64 rfl (by kernel_rfl) ?_) | (refine Blk.store_row 64 (.tmp 7) (.tmp 114) rfl rfl T 0 (sc a2 b2 0) rfl rfl T7.out (by exact Nat.le_refl 3) (by kernel_rfl) (sc_one _ _ _) ?_) | fail)
              have t8 := Blk.Is.setCells (sc a2 b2 0) T7.out 0 (by exact Nat.le_refl 3)
              rw [put_sc] at t8
              have G8 := Lib.hid (Blk.Is.setCellsOther (sc a2 b2 0) G7.out hgT 0)
              have k8 := Blk.below_setCells (sc a2 b2 0) k7 hwT 0
              have T8 := Lib.hid t8
              generalize w7.setCells T 0 (sc a2 b2 0) = w8 at T8 G8 k8 ⊢
              clear t8 G7 H7 T7 k7
              have ht3 : (t2 : Int) = 0 := by omega
              refine Cls.region_cls (S := Cls.Kept w8.drew) (by kernel_rfl) (by kernel_rfl) (Below.refl _ _) ?_
              have q8 := Cls.Wd.cell (w0 := w8.drew) (p := ⟨T, 2, none⟩) (v := .int .i64 0) (T8.out.cell 2)
              simp only [Act.put, List.setIfInBounds_toArray, List.set_cons_zero, List.set_cons_succ]
              go_big_quiet_step (fail)
              go_big_quiet_step ((go_at_call 48; with_reducible refine Cls.calls_same (left_to a2 b2 t2 0 (1000 - 0) (by omega) rfl g _ (G8.out.drew.below (Cls.Wd.ok _)) ha2 (by omega))))
              iterate 4 (go_big_quiet_step (fail))
              refine wpQuiet_nil ?_
              intro w9 hw9
              have G9 := Lib.hid (Blk.Is.below (w := w8.drew) G8.out hw9)
              have T9 := Lib.hid (Blk.Is.below (w := w8.drew) T8.out hw9)
              have k9 := k8.drew.trans (hw9.mono k8.size)
              clear hw9 G8 T8 k8 q8
              go_wp2
              go_roundw
              case rel => exact ⟨j + 1, t2, a2, b2, by omega, by omega, by go_num, ha2, hb2, Lib.hid (by rw [ht3]; exact G9.out), Lib.hid (by rw [ht3]; exact T9.out), k9⟩
              case measure => simp [intOf]; omega
            · have dsd : (sd != []) = true := by simpa using hsd
              have dsd2 : sd.isEmpty = false := by simpa using hsd
              have ha2 := hal
              have hb2 := hbl
              obtain ⟨t2, ht2⟩ : ∃ t2 : Nat, t2 = t := ⟨_, rfl⟩
              have ht2j : t2 ≤ j := by omega
              have RR := fun w => rreseed_no a b sd (t : Int) w hse

              have HRR := Lib.hid RR
              have HSE := Lib.hid hse
              clear RR hse hsd
              go_upto_region 13 with (fail)
              refine Sto.region_sto 12 10 11 [0, 1, 2, 3, 4, 5, 6, 7, 8, 9] 162 _ _ rfl rfl rfl (by kernel_rfl) (by decide +kernel) (by decide +kernel) (by decide +kernel) (by decide) (by decide) (by decide) (by decide +kernel) rfl (by decide +kernel)
                (fun h : Nat => .pointer (some ⟨h, 0, none⟩)) (fun w1 h => Blk.Is w1 h (sc [] [] 0) 64 ∧ wr.heap.size ≤ h) (fun w1 h => Blk.Is w1 h (sc a b t) 64 ∧ wr.heap.size ≤ h) (fun z w1 w2 h hb => ⟨Blk.Is.below h.1 hb, h.2⟩) (fun z w1 w2 h hb => ⟨Blk.Is.below h.1 hb, h.2⟩) ?_
              simp only [Dep.sel, List.getElem?_cons_zero, List.getElem?_cons_succ]
              apply Exists.intro
              apply And.intro
              · intro w1 hw1
                have q2 := Cls.Wd.cell (w0 := w1) (Blk.cell_below (w := wr.drew) hw1 C2)
                go_big_quiet_want
                refine quiet_load_in 64 (.tmp 7) rfl T rfl (sc a b t) _ (Blk.Is.below (w := wr.drew) T4.out hw1) Try.underlying64 rfl (by kernel_rfl) ?_
                simp only [Act.put, List.setIfInBounds_toArray, List.set_cons_zero, List.set_cons_succ]
                go_big_quiet_on
                iterate 5 (go_big_quiet_step (fail))
                go_big_quiet_step ((go_at_call 45; with_reducible refine Cls.calls_kept (HRR.out _)))
                iterate 3 (go_big_quiet_step (fail))
                exact wpQuiet_nil rfl
              refine ⟨fun w1 hw1 => ?_, fun h w1 hw1 hm => ?_, fun h w6 hw6 hm => ?_⟩
              · refine ⟨w1.heap.size, w1.alloc (.cells (sc [] [] 0).toArray 64), ?_, (Below.refl _ _).alloc (Nat.le_refl _) _, Blk.new w1 _ 64, hw1.size⟩
                go_simp
              · refine ⟨w1.setCells h 0 (sc a b t), run_store_row _ rfl rfl rfl hm.1 (by exact Nat.le_refl 3) (by kernel_rfl) (sc_one _ _ _), Blk.below_setCells _ hw1 hm.2 0, ?_, hm.2⟩
                have := Blk.Is.setCells (sc a b t) hm.1 0 (by exact Nat.le_refl 3)
                rwa [put_sc] at this
              obtain ⟨h6, hlh⟩ := hm
              have H6 := Lib.hid h6
              have G6 := Lib.hid (Blk.Is.below (w := wr.drew) G4.out hw6)
              have T6 := Lib.hid (Blk.Is.below (w := wr.drew) T4.out hw6)
              have C26 := Blk.cell_below (w := wr.drew) hw6 C2
              have C16 := Blk.cell_below (w := wr.drew) hw6 C1
              have C06 := Blk.cell_below (w := wr.drew) hw6 C0
              have C06' := Blk.cell_below (w := wr.drew) hw6 C0'
              have hgh : g ≠ h := by have := G4.out.lt; omega
              have hTh : T ≠ h := by have := T4.out.lt; omega
              have k6 := k4.drew.trans (hw6.mono k4.size)
              clear h6 hw6 G4 T4 k4 C0 C0' C1 C2 HRR
              simp only [Act.put, List.setIfInBounds_toArray, List.set_cons_zero, List.set_cons_succ, List.drop_succ_cons, List.drop_zero]
              go_wp2_with fail
              refine (reseed_no a b sd t g w6 G6.out hal HSE.out).mono ?_
              rintro e w7 ⟨rfl, rfl⟩
              have G7 := G6
              have H7 := H6
              have T7 := T6
              have k7 := k6
              clear G6 H6 T6 k6 C26 C16 C06 C06'
              go_upto_region 22 with (first | (refine Blk.load_row 64 (.tmp 10) rfl (by rfl) h rfl 64 (sc a b t) _ H7.out Try.underlying64 rfl (by kernel_rfl) ?_) | (refine Blk.store_row 64 (.tmp 7) (.tmp 114) rfl rfl T 0 (sc a b t) rfl rfl T7.out (by exact Nat.le_refl 3) (by kernel_rfl) (sc_one _ _ _) ?_) | fail)
              have t8 := Blk.Is.setCells (sc a b t) T7.out 0 (by exact Nat.le_refl 3)
              rw [put_sc] at t8
              have G8 := Lib.hid (Blk.Is.setCellsOther (sc a b t) G7.out hgT 0)
              have k8 := Blk.below_setCells (sc a b t) k7 hwT 0
              have T8 := Lib.hid t8
              generalize w6.setCells T 0 (sc a b t) = w8 at T8 G8 k8 ⊢
              clear t8 G7 H7 T7 k7
              have ht3 : (t2 : Int) = (t : Int) := by omega
              refine Cls.region_cls (S := Cls.Kept w8.drew) (by kernel_rfl) (by kernel_rfl) (Below.refl _ _) ?_
              have q8 := Cls.Wd.cell (w0 := w8.drew) (p := ⟨T, 2, none⟩) (v := .int .i64 (t : Int)) (T8.out.cell 2)
              simp only [Act.put, List.setIfInBounds_toArray, List.set_cons_zero, List.set_cons_succ]
              go_big_quiet_step (fail)
              go_big_quiet_step ((go_at_call 48; with_reducible refine Cls.calls_same (left_to a b t2 (t : Int) (1000 - (t : Int)) (by omega) rfl g _ (G8.out.drew.below (Cls.Wd.ok _)) ha2 (by omega))))
              iterate 4 (go_big_quiet_step (fail))
              refine wpQuiet_nil ?_
              intro w9 hw9
              have G9 := Lib.hid (Blk.Is.below (w := w8.drew) G8.out hw9)
              have T9 := Lib.hid (Blk.Is.below (w := w8.drew) T8.out hw9)
              have k9 := k8.drew.trans (hw9.mono k8.size)
              clear hw9 G8 T8 k8 q8
              go_wp2
              go_roundw
              case rel => exact ⟨j + 1, t2, a, b, by omega, by omega, by go_num, ha2, hb2, Lib.hid (by rw [ht3]; exact G9.out), Lib.hid (by rw [ht3]; exact T9.out), k9⟩
              case measure => simp [intOf]; omega
  · have dlt : decide ((j : Int) < (l.length : Int)) = false := decide_eq_false (by omega)
    go_wp2_with fail
    refine (dawake_any _).mono ?_
    rintro e w5 ⟨rfl, k5⟩
    have k5 := k4.trans (k5.mono k4.size)
    go_wp2
    exact bodyPost_ret (results_tmp rfl _ _ _) rfl ⟨rfl, k5⟩
set_option maxHeartbeats 8000000 in
set_option maxRecDepth 100000 in
theorem plays_no (x : List UInt8) (ao : Option Addr) (cap : Nat) (n : Nat) (w : World) (hn : n ≤ 8) (hx : ¬ seedy x) (hl : x.length ≤ 2048) :
    Calls Try.prog 15 #[.string ⟨x.toArray⟩, .slice ao n cap] w fun e w' => e = .returned (.bool true) ∧ Below w.heap.size w w' := by
  have HX := Lib.hid hx
  have d1 : decide ((x.length : Int) > 2048) = false := decide_eq_false (by omega)
  have d2 : decide ((n : Int) > 8) = false := decide_eq_false (by omega)
  clear hx
  go_enter Try.func15, Try.ntmps15
  go_wp2_with fail
  refine (new_no x _ HX.out).mono ?_
  rintro e w1 ⟨rfl, rfl⟩
  go_wp2_with fail
  refine (rnew_no x _ HX.out).mono ?_
  rintro e w2 ⟨rfl, k2⟩
  go_upto_region 5 with (fail)
  have k3 := k2.alloc k2.size (.cells (sc [] [] 0).toArray 64)
  generalize w2.alloc (.cells (sc [] [] 0).toArray 64) = w3 at k3 ⊢
  clear k2
  go_wp2_with fail
  go_loopw [9] (fun i wr => i = .int .i64 0 ∧ Below w.heap.size w wr) (fun _ _ => 0)
  case atStart => exact ⟨rfl, k3⟩
  case round =>
  clear k3
  obtain ⟨rfl, k4⟩ := hrel
  by_cases h0 : 0 < n
  · have dlt : decide ((0 : Int) < (n : Int)) = true := decide_eq_true (by omega)
    go_wp2_with fail
    refine (dawake_any _).mono ?_
    rintro e w5 ⟨rfl, k5⟩
    have k5 := k4.trans (k5.mono k4.size)
    go_wp2
    exact bodyPost_ret (results_tmp rfl _ _ _) rfl ⟨rfl, k5⟩
  · have dlt : decide ((0 : Int) < (n : Int)) = false := decide_eq_false (by omega)
    obtain rfl : n = 0 := by omega
    clear h0
    go_wp2_with fail
    refine (dawake_any _).mono ?_
    rintro e w5 ⟨rfl, k5⟩
    have k5 := k4.trans (k5.mono k4.size)
    go_wp2
    exact bodyPost_ret (results_tmp rfl _ _ _) rfl ⟨rfl, k5⟩
set_option maxHeartbeats 8000000 in
set_option maxRecDepth 100000 in
theorem drbgPlays_any (a : ByteArray) (v : Value) (l : List Act3) (w : World) (hv : Acts w v l) : Calls Try.prog 15 #[.string a, v] w fun e w' => e = .returned (.bool true) ∧ Below w.heap.size w w' := by
  obtain ⟨x, rfl⟩ : ∃ s : List UInt8, a = ⟨s.toArray⟩ := ⟨a.data.toList, rfl⟩
  obtain ⟨ao, cap, rfl, hm, ha⟩ := hv.len
  clear hv
  unfold maxLen at hm
  by_cases h1 : x.length > 2048
  · have d1 : decide ((x.length : Int) > 2048) = true := decide_eq_true (by omega)
    clear h1 ha
    go_enter Try.func15, Try.ntmps15
    go_wp2_with fail
    refine (dawake_any _).mono ?_
    rintro e w1 ⟨rfl, k1⟩
    go_wp2
    exact bodyPost_ret (results_tmp rfl _ _ _) rfl ⟨rfl, k1⟩
  · by_cases h2 : l.length > 8
    · have d1 : decide ((x.length : Int) > 2048) = false := decide_eq_false (by omega)
      have d2 : decide ((l.length : Int) > 8) = true := decide_eq_true (by omega)
      clear h1 h2 ha
      go_enter Try.func15, Try.ntmps15
      go_wp2_with fail
      refine (dawake_any _).mono ?_
      rintro e w1 ⟨rfl, k1⟩
      go_wp2
      exact bodyPost_ret (results_tmp rfl _ _ _) rfl ⟨rfl, k1⟩
    · by_cases hs : seedy x
      · exact plays_yes x ao cap l w (by omega) hs ha
      · exact plays_no x ao cap l.length w (by omega) hs (by omega)
end Go.Proofs.Yticegglphmgoaaa.Sha
