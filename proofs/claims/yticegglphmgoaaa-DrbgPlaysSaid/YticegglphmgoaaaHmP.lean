/- Tags under a key: as the program reckons them, on lists of bytes; and laws on the words. No conditions but those that are named. -/
import Derived.Test.YticegglphmgoaaaParts
import Derived.Test.YticegglphmgoaaaEdges
import Derived.Test.YticegglphmgoaaaHexes
import Derived.Test.YticegglphmgoaaaBym
namespace Go.Proofs.Yticegglphmgoaaa.Sha
open Go.RowKit
open Blk (nats)
/-- A key that is too long is told by its digest. -/
def keyed (k : List UInt8) : List UInt8 := if k.length ≤ 64 then k else dig k
theorem keyed_le (k : List UInt8) : (keyed k).length ≤ 64 := by
  unfold keyed
  split
  · assumption
  · rw [dig_length]; decide
theorem keyed_short (k : List UInt8) (h : k.length ≤ 64) : keyed k = k := by unfold keyed; rw [if_pos h]
theorem keyed_long (k : List UInt8) (h : ¬ k.length ≤ 64) : keyed k = dig k := by unfold keyed; rw [if_neg h]
/-- A short key's 64 bytes. -/
def pk (k : List UInt8) : List Nat := nat k ++ List.replicate (64 - k.length) 0
theorem pk_length (k : List UInt8) (h : k.length ≤ 64) : (pk k).length = 64 := by simp [pk]; omega
theorem pk_lt (k : List UInt8) : ∀ x ∈ pk k, x < 256 := by
  intro x hx
  unfold pk at hx
  rcases List.mem_append.1 hx with h | h
  · exact nat_lt k x h
  · rw [(List.mem_replicate.1 h).2]; decide
/-- So many of them turned by a number. -/
def tk (k : List UInt8) (b n : Nat) : List Nat := ((pk k).take n).map (· ^^^ b) ++ (pk k).drop n
def turn (k : List UInt8) (b : Nat) : List Nat := (pk k).map (· ^^^ b)
theorem tk_zero (k : List UInt8) (b : Nat) : tk k b 0 = pk k := by simp [tk]
theorem tk_all (k : List UInt8) (b : Nat) (h : k.length ≤ 64) : tk k b 64 = turn k b := by
  have := pk_length k h
  unfold tk turn
  rw [List.take_of_length_le (by omega), List.drop_of_length_le (by omega), List.append_nil]
theorem tk_length (k : List UInt8) (b n : Nat) (h : k.length ≤ 64) : (tk k b n).length = 64 := by
  have := pk_length k h
  simp [tk]
  omega
theorem tk_at (k : List UInt8) (b n : Nat) (h : k.length ≤ 64) (hn : n < 64) : (tk k b n).getD n 0 = (pk k).getD n 0 := by
  have := pk_length k h
  unfold tk
  simp only [List.getD_eq_getElem?_getD]
  rw [List.getElem?_append_right (by simp; omega)]
  simp
  rw [Nat.min_eq_left (by omega), Nat.sub_self, Nat.add_zero]
theorem tk_succ (k : List UInt8) (b n : Nat) (h : k.length ≤ 64) (hn : n < 64) : (tk k b n).set n ((pk k).getD n 0 ^^^ b) = tk k b (n + 1) := by
  have hl := pk_length k h
  unfold tk
  rw [List.set_append_right _ _ (by simp; omega)]
  have e : n - (((pk k).take n).map (· ^^^ b)).length = 0 := by simp; omega
  rw [e, List.drop_eq_getElem_cons (by omega : n < (pk k).length), List.set_cons_zero, List.take_succ_eq_append_getElem (by omega), List.map_append, List.append_assoc]
  simp [List.getD_eq_getElem?_getD, List.getElem?_eq_getElem (by omega : n < (pk k).length)]
theorem turn_lt (k : List UInt8) (b : Nat) (hb : b < 256) : ∀ x ∈ turn k b, x < 256 := by
  intro x hx
  unfold turn at hx
  obtain ⟨y, hy, rfl⟩ := List.mem_map.1 hx
  exact Nat.xor_lt_two_pow (n := 8) (pk_lt k y hy) hb
theorem turn_take_succ (k : List UInt8) (b n : Nat) (h : k.length ≤ 64) (hn : n < 64) : (turn k b).take (n + 1) = (turn k b).take n ++ [(pk k).getD n 0 ^^^ b] := by
  have hl := pk_length k h
  have ht : (turn k b).length = 64 := by simp [turn, hl]
  rw [List.take_succ_eq_append_getElem (by omega)]
  congr 2
  simp [turn, List.getD_eq_getElem?_getD, List.getElem?_eq_getElem (by omega : n < (pk k).length)]
theorem turn_length (k : List UInt8) (b : Nat) (h : k.length ≤ 64) : (turn k b).length = 64 := by simp [turn, pk_length k h]
def turned (k : List UInt8) (b : Nat) : List UInt8 := (turn k b).map UInt8.ofNat
theorem turned_text (k : List UInt8) (b : Nat) : Byt.text (turn k b) = .string ⟨(turned k b).toArray⟩ := rfl
theorem turned_length (k : List UInt8) (b : Nat) (h : k.length ≤ 64) : (turned k b).length = 64 := by unfold turned; rw [List.length_map, turn_length k b h]
/-- The tag of bytes under a key. -/
def hmac (key s : List UInt8) : List UInt8 := dig (turned (keyed key) 92 ++ dig (turned (keyed key) 54 ++ s))
theorem hmac_length (key s : List UInt8) : (hmac key s).length = 32 := dig_length _
theorem xor8 (a b : Nat) (ha : a < 256) (hb : b < 256) : bits .xor .u8 (a : Int) (b : Int) = ((a ^^^ b : Nat) : Int) := by
  show IntKind.u8.wrap ((BitVec.ofInt 8 (a : Int) ^^^ BitVec.ofInt 8 (b : Int)).toNat : Nat) = _
  rw [BitVec.toNat_xor, ofInt_toNat 8 a ha, ofInt_toNat 8 b hb]
  have := Nat.xor_lt_two_pow (n := 8) (x := a) (y := b) ha hb
  rw [IntKind.wrap_u8]
  omega
theorem pk_at_lt (k : List UInt8) (n : Nat) : (pk k).getD n 0 < 256 := at_lt_of_all (pk_lt k) (by decide) n
/-- A key's bytes are laid at the begin of so many bytes 0. -/
theorem put_text (k : List UInt8) (n : Nat) (h : k.length ≤ n) : Blk.put (nats .u8 (List.replicate n 0)) 0 ((k.map fun x => Value.int .u8 (x.toNat : Int)).take (Nat.min k.length n)) = nats .u8 (nat k ++ List.replicate (n - k.length) 0) := by
  rw [List.take_of_length_le (by rw [List.length_map]; exact Nat.le_min.2 ⟨Nat.le_refl _, h⟩)]
  unfold Blk.put nats
  simp [List.drop_replicate]
theorem pk_put (k : List UInt8) (h : k.length ≤ 64) : Blk.put (nats .u8 (Byt.zeros 64)) 0 ((k.map fun x => Value.int .u8 (x.toNat : Int)).take k.length) = nats .u8 (pk k) := by
  have := put_text k 64 h
  rw [show Nat.min k.length 64 = k.length from Nat.min_eq_left h] at this
  exact this
end Go.Proofs.Yticegglphmgoaaa.Sha
