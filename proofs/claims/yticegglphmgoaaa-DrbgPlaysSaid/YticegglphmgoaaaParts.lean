/- The law on bytes that come in parts, walked. No conditions but those that are named. -/
import Derived.Test.YticegglphmgoaaaSums
import Derived.Test.YticegglphmgoaaaArs
namespace Go.Proofs.Yticegglphmgoaaa.Sha
open Go.RowKit
open Blk (nats)
open Ars (Strs add_block)
theorem few_yes (v : Value) (ss : List (List UInt8)) (w : World) (hv : Strs w v ss) (h20 : ss.length ≤ 20) (h : ∀ s ∈ ss, s.length ≤ 256) :
    Calls Try.prog 20 #[v, .int .i64 20, .int .i64 256] w fun e w' => e = .returned (.bool true) ∧ w = w' := by
  rcases hv with ⟨rfl, rfl⟩ | ⟨x, cap, rfl, hm, hc⟩
  · go_enter Try.func20, Try.ntmps20
    go_wp2
    go_loop [7] (fun i => i = .int .i64 0) (fun i => 0)
    case atStart => rfl
    case round =>
      subst hrel
      go_wp2
      exact bodyPost_ret (results_tmp rfl _ _ _) rfl ⟨rfl, rfl⟩
  · have H := Lib.hid h
    have HC := Lib.hid hc
    clear h hc
    unfold maxLen at hm
    go_enter Try.func20, Try.ntmps20
    go_wp2
    go_loop [7] (fun i => ∃ k : Nat, k ≤ ss.length ∧ i = .int .i64 k) (fun i => ss.length - (intOf i).toNat)
    case atStart => exact ⟨0, by omega, rfl⟩
    case round =>
      obtain ⟨k, hk, rfl⟩ := hrel
      by_cases hlt : k < ss.length
      · have hs : ss[k]? = some ss[k] := List.getElem?_eq_getElem hlt
        have hc := HC.out k _ hs
        have hl := H.out ss[k] (List.getElem_mem hlt)
        generalize ss[k] = s at hs hc hl
        clear hs
        have hk20 : (k : Int) < 20 := by omega
        go_wp2
        go_round
        case rel => exact ⟨k + 1, by omega, by go_num⟩
        case measure => simp [intOf]; omega
      · have hk' : k = ss.length := by omega
        subst hk'
        have hd : decide ((ss.length : Int) ≤ 20) = true := decide_eq_true (by omega)
        go_wp2
        exact bodyPost_ret (results_tmp rfl _ _ _) rfl ⟨rfl, rfl⟩
theorem few_no (v : Value) (ss : List (List UInt8)) (w : World) (hv : Strs w v ss) (h : ¬ (ss.length ≤ 20 ∧ ∀ s ∈ ss, s.length ≤ 256)) :
    Calls Try.prog 20 #[v, .int .i64 20, .int .i64 256] w fun e w' => e = .returned (.bool false) ∧ w = w' := by
  rcases hv with ⟨rfl, rfl⟩ | ⟨x, cap, rfl, hm, hc⟩
  · exact absurd ⟨by decide, fun _ h => by cases h⟩ h
  · have H := Lib.hid h
    have HC := Lib.hid hc
    clear h hc
    unfold maxLen at hm
    go_enter Try.func20, Try.ntmps20
    go_wp2
    go_loop [7] (fun i => ∃ k : Nat, k ≤ ss.length ∧ k ≤ 20 ∧ i = .int .i64 k ∧ Hid (∀ i s, i < k → ss[i]? = some s → s.length ≤ 256)) (fun i => ss.length - (intOf i).toNat)
    case atStart => exact ⟨0, by omega, by omega, rfl, Lib.hid (fun i s h => by omega)⟩
    case round =>
      obtain ⟨k, hk, hk2, rfl, HA⟩ := hrel
      by_cases hlt : k < ss.length
      · by_cases hk20 : k < 20
        · have hs : ss[k]? = some ss[k] := List.getElem?_eq_getElem hlt
          have hc := HC.out k _ hs
          generalize ss[k] = s at hs hc
          have HS := Lib.hid hs
          clear hs
          have hki : (k : Int) < 20 := by omega
          by_cases hl : s.length ≤ 256
          · go_wp2
            go_round
            case rel =>
              refine ⟨k + 1, by omega, by omega, by go_num, Lib.hid (fun i u hi hu => ?_)⟩
              by_cases e : i = k
              · subst e
                rw [HS.out] at hu
                injection hu with hu
                rw [← hu]
                exact hl
              · exact HA.out i u (by omega) hu
            case measure => simp [intOf]; omega
          · go_wp2
            exact bodyPost_ret (results_tmp rfl _ _ _) rfl ⟨rfl, rfl⟩
        · have hki : ¬ (k : Int) < 20 := by omega
          have hd : decide ((k : Int) < 20) = false := decide_eq_false (by omega)
          have hd2 : decide ((ss.length : Int) ≤ 20) = false := decide_eq_false (by omega)
          go_wp2
          exact bodyPost_ret (results_tmp rfl _ _ _) rfl ⟨rfl, rfl⟩
      · exfalso
        refine H.out ⟨by omega, fun s hs => ?_⟩
        obtain ⟨i, hi, rfl⟩ := List.mem_iff_getElem.1 hs
        exact HA.out i _ (by omega) (List.getElem?_eq_getElem hi)
/-- The first texts, one behind the other. -/
def joined (ss : List (List UInt8)) (k : Nat) : List UInt8 := (ss.take k).flatten
theorem joined_zero (ss : List (List UInt8)) : joined ss 0 = [] := rfl
theorem joined_succ (ss : List (List UInt8)) (k : Nat) (s : List UInt8) (h : ss[k]? = some s) : joined ss (k + 1) = joined ss k ++ s := by
  unfold joined
  have hk : k < ss.length := (List.getElem?_eq_some_iff.1 h).1
  rw [List.take_succ_eq_append_getElem hk, List.flatten_append]
  have := (List.getElem?_eq_some_iff.1 h).2
  simp [this]
theorem joined_length (ss : List (List UInt8)) (h : ∀ s ∈ ss, s.length ≤ 256) (k : Nat) (hk : k ≤ ss.length) : (joined ss k).length ≤ 256 * k := by
  induction k with
  | zero => simp [joined]
  | succ k ih =>
    rw [joined_succ ss k ss[k] (List.getElem?_eq_getElem (by omega)), List.length_append]
    have := h ss[k] (List.getElem_mem (by omega))
    have := ih (by omega)
    omega
theorem cat_bytes (l m : List UInt8) : ((⟨l.toArray⟩ : ByteArray) ++ ⟨m.toArray⟩) = ⟨(l ++ m).toArray⟩ := by
  apply ByteArray.ext
  rw [ByteArray.data_append]
  simp
attribute [local irreducible] sum dig joined
set_option maxHeartbeats 4000000 in
set_option maxRecDepth 100000 in
theorem shaParts_any (v : Value) (ss : List (List UInt8)) (w : World) (hv : Strs w v ss) : Calls Try.prog 4 #[v] w fun e w' => e = .returned (.bool true) ∧ Below w.heap.size w w' := by
  have HV := Lib.hid hv
  by_cases h : ss.length ≤ 20 ∧ ∀ s ∈ ss, s.length ≤ 256
  · obtain ⟨h20, h⟩ := h
    have HH := Lib.hid h
    clear h hv
    go_enter Try.func4, Try.ntmps4
    go_wp2_with fail
    refine (few_yes v ss w HV.out h20 HH.out).mono ?_
    rintro e w1 ⟨rfl, rfl⟩
    go_wp2_with fail
    refine (new_any w).mono ?_
    rintro e w1 ⟨b, rfl, hb, u1, k1⟩
    obtain ⟨ao, cap, rfl, hm, hc⟩ := HV.out.parts
    unfold maxLen at hm
    have HC := Lib.hid hc
    clear hc HV
    go_wp2_with fail
    go_loopw [4, 5] (fun t i wr => ∃ k : Nat, k ≤ ss.length ∧ i = .int .i64 k ∧ t = .string ⟨(joined ss k).toArray⟩ ∧ Under wr b (nat (joined ss k)) ∧ Below w.heap.size w wr)
      (fun _ i _ => ss.length - (intOf i).toNat)
    case atStart => exact ⟨0, by omega, rfl, by rw [joined_zero], by rw [joined_zero]; exact u1, k1⟩
    case round =>
      clear u1 k1
      obtain ⟨k, hk, rfl, rfl, u1, k1⟩ := hrel
      have hjl := joined_length ss HH.out k hk
      by_cases hlt : k < ss.length
      · have hs : ss[k]? = some ss[k] := List.getElem?_eq_getElem hlt
        obtain ⟨x, rfl, hx, hc⟩ := HC.out k _ hs
        have hl := HH.out ss[k] (List.getElem_mem hlt)
        have hj := joined_succ ss k _ hs
        have hj2 := joined_length ss HH.out (k + 1) hlt
        generalize ss[k] = s at hs hc hl hj
        have hc1 := (k1.cell (p := x.add k) (by by_cases h0 : k = 0 <;> simp [Addr.add, h0] <;> exact hx)).trans hc
        have HJ := Lib.hid hj
        clear hs hj hc
        go_wp2_with fail
        refine (add_any (joined ss k) s b wr (by omega) u1).mono ?_
        rintro e w2 ⟨rfl, u2, o2⟩
        have k2 := k1.trans (o2.below hb k1.size)
        rw [← HJ.out] at u2
        have hc2 : w2.cell? (x.add k) = some (.string ⟨s.toArray⟩) := by
          rw [← hc1]
          exact World.cell?_of_block (o2.block _ (World.block_lt_of_cell? _ _ hc1) (by have : (x.add k).block = x.block := by (by_cases h0 : k = 0 <;> simp [Addr.add, h0])
                                                                                       rw [this]; omega))
        clear o2 u1 k1 hc1
        have hcat : ((⟨(joined ss k).toArray⟩ : ByteArray) ++ ⟨s.toArray⟩) = ⟨(joined ss (k + 1)).toArray⟩ := by rw [HJ.out]; exact cat_bytes _ _
        have HCAT := Lib.hid hcat
        clear hcat
        go_wp2_with fail
        · rw [HCAT.out]
          refine (told_any (joined ss (k + 1)) b w2 (by omega) u2).mono ?_
          rintro e w3 ⟨rfl, k3⟩
          have u3 := u2.below k3
          have k3 := k2.trans (k3.mono k2.size)
          rw [dig_text]
          clear u2 k2 hc2
          go_wp2_with fail
          refine (sum_any (joined ss (k + 1)) w3 (by omega)).mono ?_
          rintro e w4 ⟨rfl, k4⟩
          have u4 := u3.below k4
          have k4 := k3.trans (k4.mono k3.size)
          rw [dig_text]
          clear u3 k3
          go_wp2
          go_roundw
          case rel => exact ⟨k + 1, by omega, by go_num, rfl, u4, k4⟩
          case measure => simp [intOf]; omega
        · rw [HCAT.out]
          refine ⟨⟨k + 1, by omega, by go_num, rfl, u2, k2⟩, ?_⟩
          simp [intOf]
          omega
      · have hk' : k = ss.length := by omega
        have hd : decide ((k : Int) < (ss.length : Int)) = false := decide_eq_false (by omega)
        generalize hJ : joined ss k = M at u1 hjl ⊢
        clear hk' hJ
        go_wp2_with fail
        refine (told_any M b wr (by omega) u1).mono ?_
        rintro e w3 ⟨rfl, k3⟩
        have u3 := u1.below k3
        have k3 := k1.trans (k3.mono k1.size)
        rw [dig_text]
        clear u1 k1
        go_wp2_with fail
        refine (sum_any M w3 (by omega)).mono ?_
        rintro e w4 ⟨rfl, k4⟩
        have u4 := u3.below k4
        have k4 := k3.trans (k4.mono k3.size)
        rw [dig_text]
        clear u3 k3
        go_wp2_with fail
        refine (told_any M b w4 (by omega) u4).mono ?_
        rintro e w5 ⟨rfl, k5⟩
        have k5 := k4.trans (k5.mono k4.size)
        rw [dig_text]
        clear u4 k4
        go_wp2_with fail
        refine (sum_any M w5 (by omega)).mono ?_
        rintro e w6 ⟨rfl, k6⟩
        have k6 := k5.trans (k6.mono k5.size)
        rw [dig_text]
        clear k5
        go_wp2_with fail
        refine (awake_any w6).mono ?_
        rintro e w7 ⟨rfl, k7⟩
        have k7 := k6.trans (k7.mono k6.size)
        clear k6
        go_wp2
        exact bodyPost_ret (results_tmp rfl _ _ _) rfl ⟨rfl, k7⟩
  · go_enter Try.func4, Try.ntmps4
    go_wp2_with fail
    refine (few_no v ss w HV.out h).mono ?_
    rintro e w1 ⟨rfl, rfl⟩
    clear h hv
    go_wp2_with fail
    refine (awake_any w).mono ?_
    rintro e w4 ⟨rfl, k4⟩
    go_wp2
    exact bodyPost_ret (results_tmp rfl _ _ _) rfl ⟨rfl, k4⟩
end Go.Proofs.Yticegglphmgoaaa.Sha
