/- The least of some floats, walked. Conditions: words of 64 bits. -/
import Derived.Test.YtagjgofnaplefaaWeI
namespace Go.Proofs.Ytagjgofnaplefaa.Wei
open Go.RowKit
open Flo
theorem cmp3_neg (x y : Int) : decide (cmp3 x y < 0) = decide (x < y) := by
  unfold cmp3
  split
  · rename_i h; simp [h]
  · rename_i h
    split <;> simp [h]
theorem getD_mem (l : List Nat) (i : Nat) (h : i < l.length) : l[i]? = some (l.getD i 0) := by
  rw [List.getD_eq_getElem?_getD, List.getElem?_eq_getElem h]; rfl
theorem getD_bound {l : List Nat} (hb : ∀ a ∈ l, a < 18446744073709551616) (i : Nat) : l.getD i 0 < 18446744073709551616 := by
  rw [List.getD_eq_getElem?_getD]
  cases h : l[i]? with
  | none => simp
  | some a => exact hb a (List.mem_of_getElem? h)
set_option maxHeartbeats 4000000 in
set_option maxRecDepth 100000 in
theorem least_any (v : Value) (l : List Nat) (w : World) (hv : Flos w v l) : Calls Try.prog 14 #[v] w fun e w' => e = .returned (.int .i64 (leastOf l l.length)) ∧ w = w' := by
  obtain ⟨ao, cap, rfl, hl, hc, hb⟩ := hv
  have HC := Lib.hid hc
  have HL := Lib.hid hl
  have HB := Lib.hid hb
  clear hc hl hb
  go_enter Try.func14, Try.ntmps14
  go_wp2_with fail
  generalize hn : l.length = n
  have HN := Lib.hid hn
  clear hn
  have hnb : n ≤ 1000000 := HN.out ▸ HL.out
  go_loopw [3, 8] (fun b i wr => ∃ k : Nat, k ≤ n ∧ i = .int .i64 k ∧ b = .int .i64 (leastOf l k) ∧ w = wr) (fun _ i _ => n - (intOf i).toNat)
  case atStart => exact ⟨0, by omega, rfl, rfl, rfl⟩
  case round =>
    obtain ⟨k, hkn, rfl, rfl, rfl⟩ := hrel
    by_cases hlt : k < n
    · have hlt' : (k : Int) < (n : Int) := by omega
      obtain ⟨g, hg, hc⟩ := HC.out k _ (getD_mem l k (by rw [HN.out]; exact hlt))
      subst hg
      have hr := leastOf_range l k
      have HS : Go.RowKit.Hid (leastOf l (k + 1) = if leastOf l k < 0 ∨ key (l.getD k 0) < key (l.getD (leastOf l k).toNat 0) then (k : Int) else leastOf l k) := Lib.hid rfl
      by_cases h0 : leastOf l k < 0
      · have d0 : decide (leastOf l k < 0) = true := decide_eq_true h0
        have HS' : Go.RowKit.Hid (leastOf l (k + 1) = (k : Int)) := Lib.hid (by rw [HS.out, if_pos (.inl h0)])
        clear HS
        generalize leastOf l k = b at hr h0 d0
        go_wp2_with fail
        go_roundw
        case rel => exact ⟨k + 1, by omega, by go_num, by rw [HS'.out], by trivial⟩
        case measure => simp [intOf]; omega
      · have d0 : decide (leastOf l k < 0) = false := decide_eq_false h0
        generalize hbq : (leastOf l k).toNat = q at HS
        have hbk : leastOf l k = (q : Int) := by omega
        have hq : q < n := by omega
        have hqi : (q : Int) < (n : Int) := by omega
        obtain ⟨g', hg', hc'⟩ := HC.out q _ (getD_mem l q (by rw [HN.out]; exact hq))
        obtain rfl : g = g' := by simpa using hg'
        have ha := getD_bound HB.out k
        have hb := getD_bound HB.out q
        rw [hbk] at d0 HS ⊢
        have HCM := fun w => compare_any (l.getD k 0) (l.getD q 0) w ha hb
        have HD := Lib.hid (cmp3_neg (key (l.getD k 0)) (key (l.getD q 0)))
        clear hg' hbq hr h0 hbk
        generalize hA : key (l.getD k 0) = A at *
        generalize hB : key (l.getD q 0) = B at *
        generalize l.getD k 0 = a at *
        generalize l.getD q 0 = c at *
        by_cases hAB : A < B
        · have HD' : Go.RowKit.Hid (decide (cmp3 A B < 0) = true) := Lib.hid (by rw [HD.out]; exact decide_eq_true hAB)
          have HS' : Go.RowKit.Hid (leastOf l (k + 1) = (k : Int)) := Lib.hid (by rw [HS.out, if_pos (.inr hAB)])
          clear HS HD hAB
          generalize cmp3 A B = z at HCM HD'
          have HCM := Lib.hid HCM
          go_wp2_with fail
          refine (HCM.out _).mono ?_
          rintro e w1 ⟨rfl, rfl⟩
          have hd := HD'.out
          go_wp2_with fail
          go_roundw
          case rel => exact ⟨k + 1, by omega, by go_num, by rw [HS'.out], by trivial⟩
          case measure => simp [intOf]; omega
        · have HD' : Go.RowKit.Hid (decide (cmp3 A B < 0) = false) := Lib.hid (by rw [HD.out]; exact decide_eq_false hAB)
          have HS' : Go.RowKit.Hid (leastOf l (k + 1) = (q : Int)) := Lib.hid (by
            rw [HS.out, if_neg (by
              rintro (h | h)
              · omega
              · exact hAB h)])
          clear HS HD hAB
          generalize cmp3 A B = z at HCM HD'
          have HCM := Lib.hid HCM
          go_wp2_with fail
          refine (HCM.out _).mono ?_
          rintro e w1 ⟨rfl, rfl⟩
          have hd := HD'.out
          go_wp2_with fail
          go_roundw
          case rel => exact ⟨k + 1, by omega, by go_num, by rw [HS'.out], by trivial⟩
          case measure => simp [intOf]; omega
    · have hk' : k = n := by omega
      have hd6 : decide ((k : Int) < (n : Int)) = false := decide_eq_false (by omega)
      rw [hk']
      clear hk'
      go_wp2
      exact bodyPost_ret (results_tmp rfl _ _ _) rfl ⟨by rw [HN.out]; rfl, rfl⟩
end Go.Proofs.Ytagjgofnaplefaa.Wei
