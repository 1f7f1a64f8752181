/- Go's stable sort of fewer than twenty numbers, and the order of floats, walked. Conditions: those that are named. -/
import Derived.Test.YtagjgofnaplefaaWeL
namespace Go.Proofs.Ytagjgofnaplefaa.Wei
open Go.RowKit
open Flo
open Blk (nats)
/-- The closure's value. -/
abbrev clo (c : Nat) : Value := .func (.func 31) #[] #[.pointer (some ⟨c, 0, none⟩)]
/-- Behind the sort of few. -/
def few (K : Nat → Int) (l : List Nat) : List Nat := insOuter K 0 l.length 1 l
set_option maxHeartbeats 4000000 in
set_option maxRecDepth 100000 in
theorem stable_few (n c b cap : Nat) (K : Nat → Int) (t : TypeId) (l : List Nat) (w : World) (hcmp : Cmp n K c b w) (hb : Blk.Is w b (nats .i64 l) t) (hlt : ∀ x ∈ l, x < n) (hn : l.length < 20) :
    Calls Try.prog 35 #[.slice (some ⟨b, 0, none⟩) l.length cap, .int .i64 l.length, clo c] w fun e w' =>
      e = .returned (.tuple #[]) ∧ Blk.Is w' b (nats .i64 (few K l)) t ∧ Below b w w' := by
  have hcall := ins_any n c b cap 0 l.length K t l w hcmp hb hlt (by omega) (by omega) (by omega)
  have HF : Go.RowKit.Hid (few K l = insOuter K 0 l.length 1 l) := Lib.hid rfl
  have d1 : decide (20 ≤ (l.length : Int)) = false := decide_eq_false (by omega)
  have d2 : decide (20 < (l.length : Int)) = false := decide_eq_false (by omega)
  have HCL := Lib.hid hcall
  clear hcall hcmp hb hlt
  go_enter Try.func35, Try.ntmps35
  go_wp2_with fail
  go_loopw [7, 8] (fun va vb wr => va = .int .i64 0 ∧ vb = .int .i64 20 ∧ wr = w) (fun _ _ _ => 0)
  case atStart => exact ⟨rfl, rfl, rfl⟩
  case round =>
    obtain ⟨rfl, rfl, rfl⟩ := hrel
    go_wp2_with fail
    refine HCL.out.mono ?_
    rintro e w1 ⟨rfl, B1, k1⟩
    go_wp2_with fail
    go_loopw [6, 7, 8, 9] (fun vs va vb vm w2 => vs = .int .i64 20 ∧ w2 = w1) (fun _ _ _ _ _ => 0)
    case atStart => exact ⟨rfl, rfl⟩
    case round =>
      obtain ⟨rfl, rfl⟩ := hrel
      go_wp2
      exact ⟨rfl, _, results_none rfl _ _ _, rfl, by rw [HF.out]; exact B1, k1⟩
set_option maxHeartbeats 4000000 in
set_option maxRecDepth 100000 in
theorem sortfunc_of (c b cap : Nat) (t : TypeId) (l m : List Nat) (w : World)
    (h : Calls Try.prog 35 #[.slice (some ⟨b, 0, none⟩) l.length cap, .int .i64 l.length, clo c] w fun e w' => e = .returned (.tuple #[]) ∧ Blk.Is w' b (nats .i64 m) t ∧ Below b w w') :
    Calls Try.prog 30 #[.slice (some ⟨b, 0, none⟩) l.length cap, clo c] w fun e w' => e = .returned (.tuple #[]) ∧ Blk.Is w' b (nats .i64 m) t ∧ Below b w w' := by
  have HCL := Lib.hid h
  clear h
  go_enter Try.func30, Try.ntmps30
  go_wp2_with fail
  refine HCL.out.mono ?_
  rintro e w1 ⟨rfl, B1, k1⟩
  go_wp2
  exact ⟨rfl, _, results_none rfl _ _ _, rfl, B1, k1⟩
end Go.Proofs.Ytagjgofnaplefaa.Wei
