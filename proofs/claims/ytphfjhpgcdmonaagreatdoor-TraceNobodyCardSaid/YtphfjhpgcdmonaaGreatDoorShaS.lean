/- The digest of a text as something that the executor knows: reckoned fast, and what the program's function tells. No condition. -/
import Derived.Test.YtphfjhpgcdmonaaGreatDoorShaR
import Derived.Test.YtphfjhpgcdmonaaGreatDoorShaH
import Derived.Test.YtphfjhpgcdmonaaGreatDoorMg2
namespace Go.Proofs.YtphfjhpgcdmonaaGreatDoor.Sha
open Go.RowKit
set_option maxRecDepth 100000
noncomputable def packF (k : Nat → Nat → Bool) (l : List UInt8) : Nat → Nat → Bool := List.rec (motive := fun _ => Nat → Nat → Bool) k (fun b _ ih a n =>
  force (Nat.add (Nat.mul a 256) b.toNat) fun a' => force (Nat.succ n) fun n' => ih a' n') l
theorem packF_is (k : Nat → Nat → Bool) : ∀ (l : List UInt8) (a n : Nat), packF k l a n = k ((nat l).foldl (fun a b => a * 256 + b) a) (n + l.length)
  | [], a, n => rfl
  | b :: l, a, n => by
    have e0 : packF k (b :: l) a n = force (Nat.add (Nat.mul a 256) b.toNat) fun a' => force (Nat.succ n) fun n' => packF k l a' n' := rfl
    rw [e0, force_is, force_is, packF_is k l]
    rw [show Nat.succ n + l.length = n + (b :: l).length by simp only [List.length_cons]; omega]
    rfl
/-- A word's four bytes, ahead of more. -/
noncomputable def outW (w : Nat) (t : List UInt8) (k : List UInt8 → Bool) : Bool :=
  force (Nat.mod (Nat.div w 16777216) 256) fun a => force (Nat.mod (Nat.div w 65536) 256) fun b => force (Nat.mod (Nat.div w 256) 256) fun c => force (Nat.mod w 256) fun d =>
    k (UInt8.ofNat a :: UInt8.ofNat b :: UInt8.ofNat c :: UInt8.ofNat d :: t)
theorem outW_is (w : Nat) (t : List UInt8) (k : List UInt8 → Bool) : outW w t k = k ((big w 4).map UInt8.ofNat ++ t) := by
  unfold outW
  simp only [force_is]
  have e : big w 4 = [w / 16777216 % 256, w / 65536 % 256, w / 256 % 256, w % 256] := by
    show [w / 256 ^ 3 % 256, w / 256 ^ 2 % 256, w / 256 ^ 1 % 256, w / 256 ^ 0 % 256] = _
    simp
  rw [e]
  rfl
noncomputable def outF (q : List UInt8 → Bool) : F8 := fun a b c d e f g h => outW h [] fun t => outW g t fun t => outW f t fun t => outW e t fun t => outW d t fun t => outW c t fun t => outW b t fun t => outW a t q
theorem outF_is (q : List UInt8 → Bool) (a b c d e f g h : Nat) : outF q a b c d e f g h = q (([a, b, c, d, e, f, g, h].flatMap fun w => big w 4).map UInt8.ofNat) := by
  unfold outF
  simp only [outW_is]
  simp only [List.flatMap_cons, List.flatMap_nil, List.map_append, List.append_nil]
/-- The digest. -/
noncomputable def sumK (s : List UInt8) (q : List UInt8 → Bool) : Bool := packF (fun m n =>
  Bool.rec false (force (Nat.mod (Nat.sub 119 (Nat.mod n 64)) 64) fun z =>
    force (Nat.add (Nat.mul (Nat.mul (Nat.add (Nat.mul m 256) 128) (Nat.pow 256 z)) (Nat.pow 256 8)) (Nat.mul 8 n)) fun N =>
      blF N (outF q) (Nat.div (Nat.add n (Nat.add z 9)) 64) 0x6a09e667 0xbb67ae85 0x3c6ef372 0xa54ff53a 0x510e527f 0x9b05688c 0x1f83d9ab 0x5be0cd19) (Nat.ble n 1099511627776)) s 0 0
theorem val_zeros (n : Nat) : val (List.replicate n 0) = 0 := by
  induction n with
  | zero => rfl
  | succ n ih => rw [List.replicate_succ, val_cons, ih]; simp
theorem val_big (n : Nat) (h : n < 18446744073709551616) : val (big n 8) = n := by
  have e : big n 8 = [n / 256 ^ 7 % 256, n / 256 ^ 6 % 256, n / 256 ^ 5 % 256, n / 256 ^ 4 % 256, n / 256 ^ 3 % 256, n / 256 ^ 2 % 256, n / 256 ^ 1 % 256, n / 256 ^ 0 % 256] := rfl
  rw [e]
  show (((((((0 * 256 + _) * 256 + _) * 256 + _) * 256 + _) * 256 + _) * 256 + _) * 256 + _) * 256 + _ = n
  simp only [Nat.reducePow, Nat.div_one]
  omega
theorem sumK_is {s : List UInt8} {q : List UInt8 → Bool} (h : sumK s q = true) : q ((sum (nat s)).map UInt8.ofNat) = true ∧ s.length ≤ 1099511627776 := by
  unfold sumK at h
  rw [packF_is, Nat.zero_add] at h
  cases hb : Nat.ble s.length 1099511627776 with
  | false => rw [hb] at h; cases h
  | true =>
    have hs := Nat.le_of_ble_eq_true hb
    refine ⟨?_, hs⟩
    rw [hb] at h
    have h : force (Nat.mod (Nat.sub 119 (Nat.mod s.length 64)) 64) (fun z => force (Nat.add (Nat.mul (Nat.mul (Nat.add (Nat.mul (val (nat s)) 256) 128) (Nat.pow 256 z)) (Nat.pow 256 8)) (Nat.mul 8 s.length)) fun N =>
      blF N (outF q) (Nat.div (Nat.add s.length (Nat.add z 9)) 64) 0x6a09e667 0xbb67ae85 0x3c6ef372 0xa54ff53a 0x510e527f 0x9b05688c 0x1f83d9ab 0x5be0cd19) = true := h
    rw [force_is, force_is] at h
    have hn : (nat s).length = s.length := by unfold nat; rw [List.length_map]
    have hpl : ∀ n, ((nat s) ++ [128] ++ List.replicate n 0 ++ big (8 * (nat s).length) 8).length = s.length + n + 9 := fun n => by
      simp only [List.length_append, List.length_replicate, List.length_singleton, hn]
      rw [show (big (8 * s.length) 8).length = 8 by rfl]
      omega
    have hv : val (padded (nat s)) = Nat.add (Nat.mul (Nat.mul (Nat.add (Nat.mul (val (nat s)) 256) 128) (Nat.pow 256 (Nat.mod (Nat.sub 119 (Nat.mod s.length 64)) 64))) (Nat.pow 256 8)) (Nat.mul 8 s.length) := by
      unfold padded
      rw [val_append, val_append, val_append, hn, val_big _ (by omega), val_zeros, List.length_replicate, show (big (8 * s.length) 8).length = 8 by rfl, Nat.add_zero]
      rfl
    rw [← hv] at h
    have hl : (padded (nat s)).length = 64 * ((padded (nat s)).length / 64) := by
      have := hpl ((119 - (nat s).length % 64) % 64)
      show ((nat s) ++ [128] ++ List.replicate ((119 - (nat s).length % 64) % 64) 0 ++ big (8 * (nat s).length) 8).length = 64 * (((nat s) ++ [128] ++ List.replicate ((119 - (nat s).length % 64) % 64) 0 ++ big (8 * (nat s).length) 8).length / 64)
      rw [this, hn]
      omega
    have hnb : Nat.div (Nat.add s.length (Nat.add (Nat.mod (Nat.sub 119 (Nat.mod s.length 64)) 64) 9)) 64 = (padded (nat s)).length / 64 := by
      have := hpl ((119 - (nat s).length % 64) % 64)
      show _ = ((nat s) ++ [128] ++ List.replicate ((119 - (nat s).length % 64) % 64) 0 ++ big (8 * (nat s).length) 8).length / 64
      rw [this, hn]
      show (s.length + ((119 - s.length % 64) % 64 + 9)) / 64 = _
      omega
    rw [hnb] at h
    have hp : ∀ x ∈ padded (nat s), x < 256 := by
      intro x hx
      unfold padded at hx
      simp only [List.mem_append, List.mem_singleton, List.mem_replicate] at hx
      rcases hx with ((hx | rfl) | ⟨_, rfl⟩) | hx
      · exact nat_lt s x hx
      · decide
      · decide
      · exact big_lt _ _ x hx
    obtain ⟨r0, r1, r2, r3, r4, r5, r6, r7, hr, hq⟩ := blF_is (padded (nat s)) hp _ hl (outF q) _ (Nat.le_refl _) 0x6a09e667 0xbb67ae85 0x3c6ef372 0xa54ff53a 0x510e527f 0x9b05688c 0x1f83d9ab 0x5be0cd19 (by rw [Nat.sub_self]; rfl)
    rw [hq, outF_is] at h
    unfold sum
    rw [hr]
    exact h
noncomputable def sumL : Exe.LeafF := fun args h q => match args with
  | [.string s] => sumK s.data.toList fun l => q (.string ⟨l.toArray⟩) h
  | _ => false
theorem sumL_ok : Exe.OneSound Tryz.prog 190 sumL := by
  refine Exe.flat_one fun args h k hr => ?_
  unfold sumL at hr
  split at hr
  · rename_i s
    obtain ⟨h1, h2⟩ := sumK_is hr
    refine ⟨_, h1, rfl, rfl, fun w => .inl ⟨Tryz.call190 _ _, ?_⟩⟩
    have h3 := sum_any s.data.toList w (by omega)
    rw [show (⟨s.data.toList.toArray⟩ : ByteArray) = s by cases s; rfl] at h3
    exact h3
  · cases hr
end Go.Proofs.YtphfjhpgcdmonaaGreatDoor.Sha
