/- A source of bytes that look random: its parts on lists of bytes; texts one behind the other; whether a text may be a seed. No conditions but those that are named. -/
import Derived.Test.YticegglphmgoaaaHmG
import Derived.Test.YticegglphmgoaaaDep
import Derived.Test.YticegglphmgoaaaShl
import Derived.Laws.ResultCell
namespace Go.Proofs.Yticegglphmgoaaa.Sha
open Go.RowKit
open Blk (nats)
/-- A source's cells. -/
abbrev sc (k v : List UInt8) (n : Int) : List Value := [.string ⟨k.toArray⟩, .string ⟨v.toArray⟩, .int .i64 n]
/-- The first part of a stir, by a byte and a text. -/
def stir1 (c : UInt8) (s : List UInt8 × List UInt8) (x : List UInt8) : List UInt8 × List UInt8 := (hmac s.1 (s.2 ++ c :: x), hmac (hmac s.1 (s.2 ++ c :: x)) s.2)
/-- A source's key and value, stirred by a text. -/
def stir (s : List UInt8 × List UInt8) (x : List UInt8) : List UInt8 × List UInt8 := if x = [] then stir1 0 s x else stir1 1 (stir1 0 s x) x
theorem stir1_length (c : UInt8) (s : List UInt8 × List UInt8) (x : List UInt8) : (stir1 c s x).1.length = 32 ∧ (stir1 c s x).2.length = 32 := ⟨hmac_length _ _, hmac_length _ _⟩
theorem stir_length (s : List UInt8 × List UInt8) (x : List UInt8) : (stir s x).1.length = 32 ∧ (stir s x).2.length = 32 := by
  unfold stir
  split
  · exact stir1_length _ _ _
  · exact stir1_length _ _ _
theorem stir_nil (s : List UInt8 × List UInt8) : stir s [] = stir1 0 s [] := rfl
theorem stir_cons (s : List UInt8 × List UInt8) (x : List UInt8) (h : x ≠ []) : stir s x = stir1 1 (stir1 0 s x) x := by unfold stir; rw [if_neg h]
theorem stir1_fst (c : UInt8) (s : List UInt8 × List UInt8) (x : List UInt8) : (stir1 c s x).1 = hmac s.1 (s.2 ++ c :: x) := rfl
theorem stir1_snd (c : UInt8) (s : List UInt8 × List UInt8) (x : List UInt8) : (stir1 c s x).2 = hmac (stir1 c s x).1 s.2 := rfl
/-- May a text be a seed? -/
def seedy (x : List UInt8) : Prop := 16 ≤ x.length ∧ x.length ≤ 1024
instance (x : List UInt8) : Decidable (seedy x) := by unfold seedy; infer_instance
attribute [local irreducible] hmac stir1
set_option maxHeartbeats 4000000 in
set_option maxRecDepth 100000 in
theorem text_any (a b c : List UInt8) (g : Nat) (w : World) (hl : a.length + b.length + c.length ≤ 140737488355328) (hg : Blk.Is w g [.string ⟨a.toArray⟩, .string ⟨b.toArray⟩, .string ⟨c.toArray⟩] 9) :
    Calls Try.prog 79 #[.slice (some ⟨g, 0, none⟩) 3 3] w fun e w' => e = .returned (.string ⟨(a ++ (b ++ c)).toArray⟩) ∧ Below w.heap.size w w' := by
  have hj := Shl.strings_Join g 0 3 [⟨a.toArray⟩, ⟨b.toArray⟩, ⟨c.toArray⟩] ⟨#[]⟩ w (fun j x hx => by
    rw [Nat.zero_add, hg.cell]
    match j, hx with
    | 0, hx => simpa using hx
    | 1, hx => simpa using hx
    | 2, hx => simpa using hx
    | n + 3, hx => simp at hx) hg.lt (by show 3 ≤ _; decide) (by exact Nat.le_refl 3) (by simp [Lib.join, List.intercalate]; omega)
  have e : Lib.join ([⟨a.toArray⟩, ⟨b.toArray⟩, ⟨c.toArray⟩].map (fun x : ByteArray => x.data.toList)) (⟨#[]⟩ : ByteArray).data.toList = a ++ (b ++ c) := by simp [Lib.join, List.intercalate]
  rw [e] at hj
  have HJ := Lib.hid hj
  clear hj e hg
  go_enter Try.func79, Try.ntmps79
  go_wp2_with fail
  refine HJ.out.mono ?_
  rintro e w1 ⟨rfl, k1⟩
  go_wp2
  exact bodyPost_ret (results_tmp rfl _ _ _) rfl ⟨rfl, k1⟩
theorem text_to (a b c s : List UInt8) (g : Nat) (w : World) (hs : a ++ (b ++ c) = s) (hl : a.length + b.length + c.length ≤ 140737488355328) (hg : Blk.Is w g [.string ⟨a.toArray⟩, .string ⟨b.toArray⟩, .string ⟨c.toArray⟩] 9) :
    Calls Try.prog 79 #[.slice (some ⟨g, 0, none⟩) 3 3] w fun e w' => e = .returned (.string ⟨s.toArray⟩) ∧ Below w.heap.size w w' := by
  subst hs
  exact text_any a b c g w hl hg
theorem seeds_yes (x : List UInt8) (w : World) (h : seedy x) : Calls Try.prog 60 #[.string ⟨x.toArray⟩] w fun e w' => e = .returned (.bool true) ∧ w = w' := by
  have d1 : decide (16 ≤ (x.length : Int)) = true := decide_eq_true (by have := h.1; omega)
  have d2 : decide ((x.length : Int) ≤ 1024) = true := decide_eq_true (by have := h.2; omega)
  clear h
  go_enter Try.func60, Try.ntmps60
  go_wp2
  exact bodyPost_ret (results_tmp rfl _ _ _) rfl ⟨rfl, rfl⟩
theorem seeds_no (x : List UInt8) (w : World) (h : ¬ seedy x) : Calls Try.prog 60 #[.string ⟨x.toArray⟩] w fun e w' => e = .returned (.bool false) ∧ w = w' := by
  by_cases h1 : 16 ≤ x.length
  · have d1 : decide (16 ≤ (x.length : Int)) = true := decide_eq_true (by omega)
    have d2 : decide ((x.length : Int) ≤ 1024) = false := decide_eq_false (fun h2 => h ⟨h1, by omega⟩)
    clear h
    go_enter Try.func60, Try.ntmps60
    go_wp2
    exact bodyPost_ret (results_tmp rfl _ _ _) rfl ⟨rfl, rfl⟩
  · have d1 : decide (16 ≤ (x.length : Int)) = false := decide_eq_false (by omega)
    clear h
    go_enter Try.func60, Try.ntmps60
    go_wp2
    exact bodyPost_ret (results_tmp rfl _ _ _) rfl ⟨rfl, rfl⟩
theorem rseed_yes (x : List UInt8) (w : World) (h : seedy x) : Calls Try.prog 67 #[.string ⟨x.toArray⟩] w fun e w' => e = .returned (.bool true) ∧ w = w' := by
  have d1 : decide (16 ≤ (x.length : Int)) = true := decide_eq_true (by have := h.1; omega)
  have d2 : decide ((x.length : Int) ≤ 1024) = true := decide_eq_true (by have := h.2; omega)
  clear h
  go_enter Try.func67, Try.ntmps67
  go_wp2
  exact bodyPost_ret (results_tmp rfl _ _ _) rfl ⟨rfl, rfl⟩
theorem rseed_no (x : List UInt8) (w : World) (h : ¬ seedy x) : Calls Try.prog 67 #[.string ⟨x.toArray⟩] w fun e w' => e = .returned (.bool false) ∧ w = w' := by
  by_cases h1 : 16 ≤ x.length
  · have d1 : decide (16 ≤ (x.length : Int)) = true := decide_eq_true (by omega)
    have d2 : decide ((x.length : Int) ≤ 1024) = false := decide_eq_false (fun h2 => h ⟨h1, by omega⟩)
    clear h
    go_enter Try.func67, Try.ntmps67
    go_wp2
    exact bodyPost_ret (results_tmp rfl _ _ _) rfl ⟨rfl, rfl⟩
  · have d1 : decide (16 ≤ (x.length : Int)) = false := decide_eq_false (by omega)
    clear h
    go_enter Try.func67, Try.ntmps67
    go_wp2
    exact bodyPost_ret (results_tmp rfl _ _ _) rfl ⟨rfl, rfl⟩
/-- A source that was made. -/
theorem given_yes (k v : List UInt8) (n : Int) (b : Nat) (w : World) (hb : Blk.Is w b (sc k v n) 76) (hk : k.length = 32) : Calls Try.prog 63 #[.pointer (some ⟨b, 0, none⟩)] w fun e w' => e = .returned (.bool true) ∧ w = w' := by
  have c0 : w.cell? ⟨b, 0, none⟩ = some (.string ⟨k.toArray⟩) := hb.cell 0
  have hne : (!k.isEmpty) = true := by
    cases k with
    | nil => simp at hk
    | cons x r => rfl
  have hne2 : k ≠ [] := by
    rintro rfl
    simp at hk
  clear hb hk
  go_enter Try.func63, Try.ntmps63
  go_wp2
  exact bodyPost_ret (results_tmp rfl _ _ _) rfl ⟨rfl, rfl⟩
theorem given_nil (w : World) : Calls Try.prog 63 #[.pointer none] w fun e w' => e = .returned (.bool false) ∧ w = w' := by
  go_enter Try.func63, Try.ntmps63
  go_wp2
  exact bodyPost_ret (results_tmp rfl _ _ _) rfl ⟨rfl, rfl⟩
theorem given_off (b : Nat) (w : World) (c0 : w.cell? ⟨b, 0, none⟩ = some (.string ⟨#[]⟩)) : Calls Try.prog 63 #[.pointer (some ⟨b, 0, none⟩)] w fun e w' => e = .returned (.bool false) ∧ w = w' := by
  go_enter Try.func63, Try.ntmps63
  go_wp2
  exact bodyPost_ret (results_tmp rfl _ _ _) rfl ⟨rfl, rfl⟩
end Go.Proofs.Yticegglphmgoaaa.Sha
