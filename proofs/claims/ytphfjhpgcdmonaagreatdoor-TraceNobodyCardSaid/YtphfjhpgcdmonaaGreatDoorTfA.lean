/- Rows of steps in memory; few steps, of few bytes. Conditions: those that are named. -/
import Derived.Test.YtphfjhpgcdmonaaGreatDoorProg
import Derived.Test.YtphfjhpgcdmonaaGreatDoorCls
import Derived.Test.YtphfjhpgcdmonaaGreatDoorBlk
import Derived.Test.YtphfjhpgcdmonaaGreatDoorArs
import Derived.StillTailTactics
import Derived.Laws.ResultCell
import Derived.Tactics
import Derived.Tactics2
namespace Go.Proofs.YtphfjhpgcdmonaaGreatDoor.Tn
open Go Go.RowKit
open Ars (add_block)
/-- A step. -/
structure St where
  kind : Int
  a : Int
  b : Int
  key : List UInt8
  val : List UInt8
  src : Int
  dst : Int
  body : List UInt8
  tag : List UInt8
def St.cells (s : St) : List Value := [.int .i64 s.kind, .int .i64 s.a, .int .i64 s.b, .string ⟨s.key.toArray⟩, .string ⟨s.val.toArray⟩, .int .i64 s.src, .int .i64 s.dst, .string ⟨s.body.toArray⟩, .string ⟨s.tag.toArray⟩]
/-- Few bytes. -/
structure St.Few (s : St) : Prop where
  key : s.key.length ≤ 300
  val : s.val.length ≤ 300
  body : s.body.length ≤ 300
  tag : s.tag.length ≤ 100
/-- The cells of an element. -/
structure Elem (w : World) (y : Addr) (s : St) : Prop where
  c0 : w.cell? y = some (.int .i64 s.kind)
  c1 : w.cell? ⟨y.block, y.off + 1, none⟩ = some (.int .i64 s.a)
  c2 : w.cell? ⟨y.block, y.off + 2, none⟩ = some (.int .i64 s.b)
  c3 : w.cell? ⟨y.block, y.off + 3, none⟩ = some (.string ⟨s.key.toArray⟩)
  c4 : w.cell? ⟨y.block, y.off + 4, none⟩ = some (.string ⟨s.val.toArray⟩)
  c5 : w.cell? ⟨y.block, y.off + 5, none⟩ = some (.int .i64 s.src)
  c6 : w.cell? ⟨y.block, y.off + 6, none⟩ = some (.int .i64 s.dst)
  c7 : w.cell? ⟨y.block, y.off + 7, none⟩ = some (.string ⟨s.body.toArray⟩)
  c8 : w.cell? ⟨y.block, y.off + 8, none⟩ = some (.string ⟨s.tag.toArray⟩)
/-- A row of steps. -/
def Steps (w : World) (v : Value) (L : List St) : Prop :=
  (v = .slice none 0 0 ∧ L = []) ∨ ∃ x cap, v = .slice (some x) L.length cap ∧ L.length ≤ maxLen ∧ ∀ i s, L[i]? = some s → Elem w (x.add (i * 9)) s
set_option maxRecDepth 100000 in
set_option maxHeartbeats 2000000 in
theorem few_yes (v : Value) (L : List St) (m : Nat) (w : World) (hv : Steps w v L) (hm : L.length ≤ m) (hmm : m < 1000) (h : ∀ s ∈ L, s.Few) :
    Calls Tryz.prog 4 #[v, .int .i64 (m : Int)] w fun e w' => e = .returned (.bool true) ∧ w = w' := by
  rcases hv with ⟨rfl, rfl⟩ | ⟨x, cap, rfl, hmx, hc⟩
  · go_enter Tryz.func4, Tryz.ntmps4
    go_wp2
    go_loop [5] (fun i => i = .int .i64 0) (fun i => 0)
    case atStart => rfl
    case round =>
      subst hrel
      go_wp2
      exact bodyPost_ret (results_tmp rfl _ _ _) rfl ⟨by simp, rfl⟩
  · have H := Lib.hid h
    have HC := Lib.hid hc
    clear h hc
    unfold maxLen at hmx
    go_enter Tryz.func4, Tryz.ntmps4
    go_wp2
    go_loop [5] (fun i => ∃ k : Nat, k ≤ L.length ∧ i = .int .i64 k) (fun i => L.length - (intOf i).toNat)
    case atStart => exact ⟨0, by omega, rfl⟩
    case round =>
      obtain ⟨k, hk, rfl⟩ := hrel
      by_cases hlt : k < L.length
      · have hs : L[k]? = some L[k] := List.getElem?_eq_getElem hlt
        obtain ⟨c0, c1, c2, c3, c4, c5, c6, c7, c8⟩ := HC.out k _ hs
        obtain ⟨l1, l2, l3, l4⟩ := H.out L[k] (List.getElem_mem hlt)
        generalize L[k] = s at hs c0 c1 c2 c3 c4 c5 c6 c7 c8 l1 l2 l3 l4
        clear hs
        have hkm : (k : Int) < m := by omega
        go_wp2
        go_round
        case rel => exact ⟨k + 1, by omega, by go_num⟩
        case measure => simp [intOf]; omega
      · have hk' : k = L.length := by omega
        subst hk'
        have hd : decide ((L.length : Int) ≤ m) = true := decide_eq_true (by omega)
        go_wp2
        exact bodyPost_ret (results_tmp rfl _ _ _) rfl ⟨rfl, rfl⟩
set_option maxRecDepth 100000 in
set_option maxHeartbeats 4000000 in
theorem few_no (v : Value) (L : List St) (m : Nat) (w : World) (hv : Steps w v L) (hmm : m < 1000) (h : ¬ (L.length ≤ m ∧ ∀ s ∈ L, s.Few)) :
    Calls Tryz.prog 4 #[v, .int .i64 (m : Int)] w fun e w' => e = .returned (.bool false) ∧ w = w' := by
  rcases hv with ⟨rfl, rfl⟩ | ⟨x, cap, rfl, hmx, hc⟩
  · exact absurd ⟨by simp, fun _ h => by cases h⟩ h
  · have H := Lib.hid h
    have HC := Lib.hid hc
    clear h hc
    unfold maxLen at hmx
    go_enter Tryz.func4, Tryz.ntmps4
    go_wp2
    go_loop [5] (fun i => ∃ k : Nat, k ≤ L.length ∧ k ≤ m ∧ i = .int .i64 k ∧ Hid (∀ i s, i < k → L[i]? = some s → s.Few)) (fun i => L.length - (intOf i).toNat)
    case atStart => exact ⟨0, by omega, by omega, rfl, Lib.hid (fun i s h => by omega)⟩
    case round =>
      obtain ⟨k, hk, hkm, rfl, HA⟩ := hrel
      by_cases hlt : k < L.length
      · by_cases hk2 : k < m
        · have hs : L[k]? = some L[k] := List.getElem?_eq_getElem hlt
          obtain ⟨c0, c1, c2, c3, c4, c5, c6, c7, c8⟩ := HC.out k _ hs
          generalize L[k] = s at hs c0 c1 c2 c3 c4 c5 c6 c7 c8
          have HS := Lib.hid hs
          clear hs
          have hki : (k : Int) < m := by omega
          by_cases l1 : s.key.length ≤ 300
          · by_cases l2 : s.val.length ≤ 300
            · by_cases l3 : s.body.length ≤ 300
              · by_cases l4 : s.tag.length ≤ 100
                · go_wp2
                  go_round
                  case rel =>
                    refine ⟨k + 1, by omega, by omega, by go_num, Lib.hid (fun i u hi hu => ?_)⟩
                    by_cases e : i = k
                    · subst e
                      rw [HS.out] at hu
                      injection hu with hu
                      rw [← hu]
                      exact ⟨l1, l2, l3, l4⟩
                    · exact HA.out i u (by omega) hu
                  case measure => simp [intOf]; omega
                · go_wp2
                  exact bodyPost_ret (results_tmp rfl _ _ _) rfl ⟨rfl, rfl⟩
              · go_wp2
                exact bodyPost_ret (results_tmp rfl _ _ _) rfl ⟨rfl, rfl⟩
            · go_wp2
              exact bodyPost_ret (results_tmp rfl _ _ _) rfl ⟨rfl, rfl⟩
          · go_wp2
            exact bodyPost_ret (results_tmp rfl _ _ _) rfl ⟨rfl, rfl⟩
        · have hki : ¬ (k : Int) < m := by omega
          go_wp2
          refine bodyPost_ret (results_tmp rfl _ _ _) rfl ⟨?_, rfl⟩
          show Ending.returned (.bool (decide (L.length ≤ m))) = _
          rw [decide_eq_false (by omega)]
      · have hk' : k = L.length := by omega
        subst hk'
        exact absurd ⟨hkm, fun s hs => by
          obtain ⟨i, hi, rfl⟩ := List.mem_iff_getElem.1 hs
          exact HA.out i _ hi (List.getElem?_eq_getElem hi)⟩ H.out
/-- Whether they are few. -/
theorem few_any (v : Value) (L : List St) (m : Nat) (w : World) (hv : Steps w v L) (hmm : m < 1000) :
    Calls Tryz.prog 4 #[v, .int .i64 (m : Int)] w fun e w' => ∃ β : Bool, e = .returned (.bool β) ∧ w = w' := by
  by_cases h : L.length ≤ m ∧ ∀ s ∈ L, s.Few
  · refine (few_yes v L m w hv h.1 hmm h.2).mono ?_
    rintro e w' ⟨rfl, rfl⟩
    exact ⟨true, rfl, rfl⟩
  · refine (few_no v L m w hv hmm h).mono ?_
    rintro e w' ⟨rfl, rfl⟩
    exact ⟨false, rfl, rfl⟩
end Go.Proofs.YtphfjhpgcdmonaaGreatDoor.Tn
