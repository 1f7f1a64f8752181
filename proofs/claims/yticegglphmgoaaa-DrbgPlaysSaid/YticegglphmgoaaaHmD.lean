/- The document's tag, and the keys of two ends, walked. Conditions: fewer than 2^39 bytes. -/
import Derived.Test.YticegglphmgoaaaHmC
namespace Go.Proofs.Yticegglphmgoaaa.Sha
open Go.RowKit
open Blk (nats)
attribute [local irreducible] sum dig pk tk turn turned keyed
set_option maxHeartbeats 4000000 in
set_option maxRecDepth 100000 in
theorem rhsum_any (key s : List UInt8) (w : World) (hk : key.length < 1099511627776) (hs : s.length < 549755813888) :
    Calls Try.prog 28 #[.string ⟨key.toArray⟩, .string ⟨s.toArray⟩] w fun e w' => e = .returned (.string ⟨(hmac key s).toArray⟩) ∧ Below w.heap.size w w' := by
  have HM := Lib.hid (show hmac key s = dig (turned (keyed key) 92 ++ dig (turned (keyed key) 54 ++ s)) from rfl)
  have hkl := keyed_le key
  go_enter Try.func28, Try.ntmps28
  go_wp2_with fail
  refine (rturned_any key 92 w hk (by decide)).mono ?_
  rintro e w1 ⟨rfl, k1⟩
  go_wp2_with fail
  refine (rturned_any key 54 w1 hk (by decide)).mono ?_
  rintro e w2 ⟨rfl, k2⟩
  have k2 := k1.trans (k2.mono k1.size)
  have hl := turned_length (keyed key) 54 hkl
  have hl2 := turned_length (keyed key) 92 hkl
  have hb1 : (turned (keyed key) 54).length ≤ 64 := by omega
  have hb2 : (turned (keyed key) 92).length ≤ 64 := by omega
  have hb3 : (dig (turned (keyed key) 54 ++ s)).length ≤ 32 := by rw [dig_length]; decide
  have HCAT := Lib.hid (cat_bytes (turned (keyed key) 54) s)
  clear k1 hl hl2
  go_wp2_with fail
  rw [HCAT.out]
  refine (rsum_any (turned (keyed key) 54 ++ s) w2 (by rw [List.length_append]; omega)).mono ?_
  rintro e w3 ⟨rfl, k3⟩
  have k3 := k2.trans (k3.mono k2.size)
  rw [dig_text]
  have HCAT2 := Lib.hid (cat_bytes (turned (keyed key) 92) (dig (turned (keyed key) 54 ++ s)))
  clear k2
  go_wp2_with fail
  rw [HCAT2.out]
  refine (rsum_any (turned (keyed key) 92 ++ dig (turned (keyed key) 54 ++ s)) w3 (by rw [List.length_append]; omega)).mono ?_
  rintro e w4 ⟨rfl, k4⟩
  have k4 := k3.trans (k4.mono k3.size)
  rw [dig_text]
  clear k3
  go_wp2
  exact bodyPost_ret (results_tmp rfl _ _ _) rfl ⟨HM.out ▸ rfl, k4⟩
/-- What a key of two ends is the tag of. -/
def endsOf (a b : Nat) : List UInt8 := [UInt8.ofNat a, UInt8.ofNat b]
def hkey (key : List UInt8) (a b : Int) : List UInt8 := hmac key ([107, 101, 121] ++ endsOf (a % 256).toNat (b % 256).toNat)
theorem endsOf_le (a b : Nat) : (endsOf a b).length ≤ 2 := Nat.le_refl _
theorem hkey_length (key : List UInt8) (a b : Int) : (hkey key a b).length = 32 := hmac_length _ _
theorem hkey_and (key : List UInt8) (a b : Int) : hkey key (a % 256) (b % 256) = hkey key a b := by
  unfold hkey
  rw [Int.emod_emod_of_dvd a (by decide : (256 : Int) ∣ 256), Int.emod_emod_of_dvd b (by decide : (256 : Int) ∣ 256)]
theorem and255 (a : Int) : bits .and .i64 a 255 = a % 256 := by
  show IntKind.i64.wrap ((BitVec.ofInt 64 a &&& BitVec.ofInt 64 255).toNat : Nat) = _
  have e : (BitVec.ofInt 64 255).toNat = 2 ^ 8 - 1 := by decide
  rw [BitVec.toNat_and, e, Nat.and_two_pow_sub_one_eq_mod, BitVec.toNat_ofInt, IntKind.wrap_i64]
  omega
/-- Two bytes as a text. -/
theorem text_two {P : Program} {T e S : TypeId} (K : Byt.Kit P T e S) {w : World} {ops : Array Oper} {rest : List Oper} {o : Oper} {a : Act} {Q : Exit → Act → World → Prop} (hgd : o.guard = none) (x : Operand) (ho : o.op = .convert T S x)
    (g cap : Nat) (u v : Int) (hx : a.eval x = .slice (some ⟨g, 0, none⟩) 2 cap) (hu : w.cell? ⟨g, 0, none⟩ = some (.int .u8 u)) (hv : w.cell? ⟨g, 1, none⟩ = some (.int .u8 v)) (u0 : 0 ≤ u) (u1 : u < 256) (v0 : 0 ≤ v) (v1 : v < 256)
    (hk : wpList P ops Q rest (a.put o.dst (.string ⟨(endsOf u.toNat v.toNat).toArray⟩)) w) : wpList P ops Q (o :: rest) a w := by
  refine Byt.text_at_wp K hgd x ho g 0 2 cap hx [u.toNat, v.toNat] (fun j z hj => ?_) rfl (fun y hy => ?_) hk
  · rw [Nat.zero_add]
    match j, hj with
    | 0, hj =>
      simp only [nats, List.map_cons, List.getElem?_cons_zero, Option.some.injEq] at hj
      rw [hu, ← hj, Int.toNat_of_nonneg u0]
    | 1, hj =>
      simp only [nats, List.map_cons, List.getElem?_cons_zero, List.getElem?_cons_succ, Option.some.injEq] at hj
      rw [hv, ← hj, Int.toNat_of_nonneg v0]
    | n + 2, hj => simp [nats] at hj
  · simp only [List.mem_cons, List.not_mem_nil, or_false] at hy
    rcases hy with rfl | rfl <;> omega
attribute [local irreducible] endsOf
set_option maxHeartbeats 4000000 in
set_option maxRecDepth 100000 in
theorem key_any (key : List UInt8) (a b : Int) (w : World) (hk : key.length < 1099511627776) :
    Calls Try.prog 29 #[.string ⟨key.toArray⟩, .int .i64 a, .int .i64 b] w fun e w' => e = .returned (.string ⟨(hkey key a b).toArray⟩) ∧ Below w.heap.size w w' := by
  have k1 : Below w.heap.size w (w.alloc (.cells #[.int .u8 (a % 256), .int .u8 (b % 256)] 5)) := (Below.refl _ _).alloc (Nat.le_refl _) _
  have HC0 := Lib.hid ((Blk.new w [.int .u8 (a % 256), .int .u8 (b % 256)] 5).cell 0)
  have HC1 := Lib.hid ((Blk.new w [.int .u8 (a % 256), .int .u8 (b % 256)] 5).cell 1)
  have hle := endsOf_le (a % 256).toNat (b % 256).toNat
  have HH := Lib.hid (show hkey key a b = hmac key ([107, 101, 121] ++ endsOf (a % 256).toNat (b % 256).toNat) from rfl)
  go_enter Try.func29, Try.ntmps29
  go_wp2_with (first | (refine text_two kit rfl (.tmp 12) rfl w.heap.size 2 (a % 256) (b % 256) rfl HC0.out HC1.out (by omega) (by omega) (by omega) (by omega) ?_) | fail)
  generalize w.alloc (.cells #[.int .u8 (a % 256), .int .u8 (b % 256)] 5) = w1 at k1 ⊢
  have HCAT := Lib.hid (cat_bytes [107, 101, 121] (endsOf (a % 256).toNat (b % 256).toNat))
  clear HC0 HC1
  generalize endsOf (a % 256).toNat (b % 256).toNat = t at HH HCAT hle ⊢
  go_wp2_with fail
  rw [HCAT.out]
  refine (hsum_any key ([107, 101, 121] ++ t) w1 hk (by rw [List.length_append]; simp; omega)).mono ?_
  rintro e w2 ⟨rfl, k2⟩
  have k2 := k1.trans (k2.mono k1.size)
  clear k1
  go_wp2
  exact bodyPost_ret (results_tmp rfl _ _ _) rfl ⟨by rw [HH.out]; rfl, k2⟩
set_option maxHeartbeats 4000000 in
set_option maxRecDepth 100000 in
theorem rkey_any (key : List UInt8) (a b : Int) (w : World) (hk : key.length < 1099511627776) :
    Calls Try.prog 30 #[.string ⟨key.toArray⟩, .int .i64 a, .int .i64 b] w fun e w' => e = .returned (.string ⟨(hkey key a b).toArray⟩) ∧ Below w.heap.size w w' := by
  have k1 : Below w.heap.size w (w.alloc (.cells #[.int .u8 (a % 256), .int .u8 (b % 256)] 5)) := (Below.refl _ _).alloc (Nat.le_refl _) _
  have HC0 := Lib.hid ((Blk.new w [.int .u8 (a % 256), .int .u8 (b % 256)] 5).cell 0)
  have HC1 := Lib.hid ((Blk.new w [.int .u8 (a % 256), .int .u8 (b % 256)] 5).cell 1)
  have hle := endsOf_le (a % 256).toNat (b % 256).toNat
  have HH := Lib.hid (show hkey key a b = hmac key ([107, 101, 121] ++ endsOf (a % 256).toNat (b % 256).toNat) from rfl)
  have ea := and255 a
  have eb := and255 b
  go_enter Try.func30, Try.ntmps30
  go_wp2_with (first | (refine text_two kit rfl (.tmp 14) rfl w.heap.size 2 (a % 256) (b % 256) rfl HC0.out HC1.out (by omega) (by omega) (by omega) (by omega) ?_) | fail)
  generalize w.alloc (.cells #[.int .u8 (a % 256), .int .u8 (b % 256)] 5) = w1 at k1 ⊢
  have HCAT := Lib.hid (cat_bytes [107, 101, 121] (endsOf (a % 256).toNat (b % 256).toNat))
  clear HC0 HC1 ea eb
  generalize endsOf (a % 256).toNat (b % 256).toNat = t at HH HCAT hle ⊢
  go_wp2_with fail
  rw [HCAT.out]
  refine (rhsum_any key ([107, 101, 121] ++ t) w1 hk (by rw [List.length_append]; simp; omega)).mono ?_
  rintro e w2 ⟨rfl, k2⟩
  have k2 := k1.trans (k2.mono k1.size)
  clear k1
  go_wp2
  exact bodyPost_ret (results_tmp rfl _ _ _) rfl ⟨by rw [HH.out]; rfl, k2⟩
end Go.Proofs.Yticegglphmgoaaa.Sha
