/- The statement StampVouches' function returns true on any number of liars and any numbers, and changes nothing that was there. Conditions: the slice's cells hold the numbers. -/
import Derived.Test.YtkkbpjkplnepiaaVouchesP
import Derived.Test.YtkkbpjkplnepiaaAwake
namespace Go.Proofs.Ytkkbpjkplnepiaa.Vou
open Go.RowKit Go.Proofs.YtkkbpjkplnepiaaW.PrintWords Go.Proofs.YtkkbpjkplnepiaaW.PrintLast Go.Proofs.YtkkbpjkplnepiaaW.PrintMore

theorem vouched_any (t : Int) (A : Option Addr) (cap : Nat) (xs : List Int) (w : World) (hr : ReadsInt w .i64 A xs.length xs) :
    Calls Try.prog 14 #[.int .i64 t, .slice A xs.length cap] w fun e w' => e = .returned (.tuple #[.int .i64 (vouched t xs).1, .bool (vouched t xs).2]) ∧ Below w.heap.size w w' := by
  by_cases h : t < 1 ∨ 2 < t ∨ (xs.length : Int) ≠ 3 * t + 1
  · have e : vouched t xs = (0, false) := by rw [vouched, if_pos h]
    rw [e]
    exact vouched_no t A xs.length cap w h
  · obtain ⟨ad, rfl, hc⟩ := hr.2.2 (by omega)
    have h0 := hc 0 (by omega)
    have hb : ad.block < w.heap.size := by
      have := World.block_lt_of_cell? w _ h0
      rwa [add_block] at this
    exact vouched_yes t xs ad cap w (by omega) (by omega) (by omega) hb hc

set_option maxHeartbeats 1000000 in
theorem vouches_walk (t : Int) (A : Option Addr) (cap : Nat) (xs : List Int) (w : World) (hr : ReadsInt w .i64 A xs.length xs) (hcap : xs.length ≤ cap) :
    Calls Try.prog 4 #[.int .i64 t, .slice A xs.length cap] w fun e w' => e = .returned (.bool true) ∧ Below w.heap.size w w' := by
  have HR := Lib.hid hr
  have hm := hr.2.1
  clear hr
  by_cases hl : 12 < xs.length
  · go_enter Try.func4, Try.ntmps4
    go_wp2_with fail
    refine (awake_any _).mono ?_
    rintro e w1 ⟨rfl, hb⟩
    go_wp2
    go_ret
    exact ⟨rfl, hb⟩
  · have hv := vouched_is t xs (by omega)
    generalize hp : vouched t xs = p at hv
    obtain ⟨v, ok⟩ := p
    have HV := Lib.hid hv
    have HP := Lib.hid hp
    clear hv hp
    go_enter Try.func4, Try.ntmps4
    go_wp2_with fail
    refine (vouched_any t A cap xs w HR.out).mono ?_
    rintro e w1 ⟨rfl, hb⟩
    rw [HP.out]
    go_wp2_with fail
    refine (PStampVouches.sacristyref20_Vouched.calls 30 t A cap xs v ok _ (Kd.C_of_reads (d := (0 : Int)) (h1 := fun _ => rfl) (HR.out.below hb)) hcap HV.out).mono ?_
    rintro e w2 ⟨rfl, hb2⟩
    go_wp2_with fail
    refine (awake_any _).mono ?_
    rintro e w3 ⟨rfl, hb3⟩
    go_wp2
    go_ret
    exact ⟨rfl, hb.trans ((hb2.mono hb.size).trans (hb3.mono (by have := hb.size; have := hb2.size; omega)))⟩
end Go.Proofs.Ytkkbpjkplnepiaa.Vou
