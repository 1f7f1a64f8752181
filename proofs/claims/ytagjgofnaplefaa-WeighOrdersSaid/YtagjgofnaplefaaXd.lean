/- The least of some floats as the document has it, walked. Conditions: words of 64 bits. -/
import Derived.Test.YtagjgofnaplefaaXc
namespace Go.Proofs.Ytagjgofnaplefaa.Wei
open Go.RowKit
open Flo
open Blk (nats)
set_option maxHeartbeats 4000000 in
set_option maxRecDepth 100000 in
theorem rleast_any (v : Value) (l : List Nat) (w : World) (hv : Flos w v l) : Calls Try.prog 15 #[v] w fun e w' => e = .returned (.int .i64 (leastOf l l.length)) ∧ Below w.heap.size w w' := by
  obtain ⟨ao, cap, rfl, hl, hc, hb⟩ := hv
  have HC := Lib.hid hc
  have HL := Lib.hid hl
  have HB := Lib.hid hb
  have k0 : Below w.heap.size w w := Below.refl _ _
  clear hc hl hb
  go_enter Try.func15, Try.ntmps15
  go_wp2_with fail
  generalize hn : l.length = n
  have HN := Lib.hid hn
  clear hn
  have hnb : n ≤ 1000000 := HN.out ▸ HL.out
  go_loopw [3, 4] (fun b i wr => ∃ k : Nat, k ≤ n ∧ i = .int .i64 k ∧ b = .int .i64 (leastOf l k) ∧ Below w.heap.size w wr) (fun _ i _ => n - (intOf i).toNat)
  case atStart => exact ⟨0, by omega, rfl, rfl, k0⟩
  case round =>
    clear k0
    obtain ⟨k, hkn, rfl, rfl, k1⟩ := hrel
    by_cases hlt : k < n
    · have hlt' : (k : Int) < (n : Int) := by omega
      obtain ⟨g, hg, hc⟩ := HC.out k _ (getD_mem l k (by rw [HN.out]; exact hlt))
      subst hg
      have hws : w.heap.size ≤ wr.drew.heap.size := k1.size
      have hr := leastOf_range l k
      have HS : Go.RowKit.Hid (leastOf l (k + 1) = if leastOf l k < 0 ∨ key (l.getD k 0) < key (l.getD (leastOf l k).toNat 0) then (k : Int) else leastOf l k) := Lib.hid rfl
      by_cases h0 : leastOf l k < 0
      · have d0 : decide (leastOf l k < 0) = true := decide_eq_true h0
        have HS' : Go.RowKit.Hid (leastOf l (k + 1) = (k : Int)) := Lib.hid (by rw [HS.out, if_pos (.inl h0)])
        clear HS
        generalize leastOf l k = b at hr h0 d0
        go_upto_region 5 with (fail)
        refine Cls.region_cls (S := Cls.Kept _) (by kernel_rfl) (by kernel_rfl) (Below.refl _ _) ?_
        iterate 14 (go_big_quiet_step (fail))
        refine wpQuiet_nil ?_
        intro w3 hw3
        have k3 : Below w.heap.size w w3 := k1.drew.trans (hw3.mono hws)
        clear hw3 k1 hws
        go_wp2
        go_roundw
        case rel => exact ⟨k + 1, by omega, by go_num, by rw [HS'.out], k3⟩
        case measure => simp [intOf]; omega
      · have d0 : decide (leastOf l k < 0) = false := decide_eq_false h0
        generalize hbq : (leastOf l k).toNat = q at HS
        have hbk : leastOf l k = (q : Int) := by omega
        have hq : q < n := by omega
        have hqi : (q : Int) < (n : Int) := by omega
        obtain ⟨g', hg', hc'⟩ := HC.out q _ (getD_mem l q (by rw [HN.out]; exact hq))
        obtain rfl : g = g' := by simpa using hg'
        have ha := getD_bound HB.out k
        have hb := getD_bound HB.out q
        rw [hbk] at d0 HS ⊢
        have HCM := fun w => rcompare_any (l.getD k 0) (l.getD q 0) w ha hb
        have HD := Lib.hid (cmp3_neg (key (l.getD k 0)) (key (l.getD q 0)))
        have c1 := (k1.cell (World.block_lt_of_cell? _ _ hc)).trans hc
        have c2 := (k1.cell (World.block_lt_of_cell? _ _ hc')).trans hc'
        clear hg' hbq hr h0 hbk hc hc'
        generalize hA : key (l.getD k 0) = A at *
        generalize hB : key (l.getD q 0) = B at *
        generalize l.getD k 0 = a at *
        generalize l.getD q 0 = c at *
        have q1 := Cls.Wd.cell (w0 := wr.drew) c1
        have q2 := Cls.Wd.cell (w0 := wr.drew) c2
        clear c1 c2
        by_cases hAB : A < B
        · have HD' : Go.RowKit.Hid (decide (cmp3 A B < 0) = true) := Lib.hid (by rw [HD.out]; exact decide_eq_true hAB)
          have HS' : Go.RowKit.Hid (leastOf l (k + 1) = (k : Int)) := Lib.hid (by rw [HS.out, if_pos (.inr hAB)])
          clear HS HD hAB
          generalize cmp3 A B = z at HCM HD'
          have HCM := Lib.hid HCM
          have hd := HD'.out
          go_upto_region 5 with (fail)
          refine Cls.region_cls (S := Cls.Kept _) (by kernel_rfl) (by kernel_rfl) (Below.refl _ _) ?_
          iterate 14 (go_big_quiet_step (first | (go_at_call 12; with_reducible refine Cls.calls_same (HCM.out _)) | fail))
          refine wpQuiet_nil ?_
          intro w3 hw3
          have k3 : Below w.heap.size w w3 := k1.drew.trans (hw3.mono hws)
          clear hw3 k1 hws q1 q2
          go_wp2
          go_roundw
          case rel => exact ⟨k + 1, by omega, by go_num, by rw [HS'.out], k3⟩
          case measure => simp [intOf]; omega
        · have HD' : Go.RowKit.Hid (decide (cmp3 A B < 0) = false) := Lib.hid (by rw [HD.out]; exact decide_eq_false hAB)
          have HS' : Go.RowKit.Hid (leastOf l (k + 1) = (q : Int)) := Lib.hid (by
            rw [HS.out, if_neg (by
              rintro (h | h)
              · omega
              · exact hAB h)])
          clear HS HD hAB
          generalize cmp3 A B = z at HCM HD'
          have HCM := Lib.hid HCM
          have hd := HD'.out
          go_upto_region 5 with (fail)
          refine Cls.region_cls (S := Cls.Kept _) (by kernel_rfl) (by kernel_rfl) (Below.refl _ _) ?_
          iterate 14 (go_big_quiet_step (first | (go_at_call 12; with_reducible refine Cls.calls_same (HCM.out _)) | fail))
          refine wpQuiet_nil ?_
          intro w3 hw3
          have k3 : Below w.heap.size w w3 := k1.drew.trans (hw3.mono hws)
          clear hw3 k1 hws q1 q2
          go_wp2
          go_roundw
          case rel => exact ⟨k + 1, by omega, by go_num, by rw [HS'.out], k3⟩
          case measure => simp [intOf]; omega
    · have hk' : k = n := by omega
      have hd6 : decide ((k : Int) < (n : Int)) = false := decide_eq_false (by omega)
      rw [hk']
      clear hk'
      go_wp2
      exact bodyPost_ret (results_tmp rfl _ _ _) rfl ⟨by rw [HN.out]; rfl, k1⟩
end Go.Proofs.Ytagjgofnaplefaa.Wei
