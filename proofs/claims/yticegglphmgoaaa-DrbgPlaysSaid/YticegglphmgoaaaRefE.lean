/- The document's padding of a text. Conditions: fewer than 2^40 bytes. -/
import Derived.Test.YticegglphmgoaaaRefD
import Derived.Test.YticegglphmgoaaaByu
import Derived.Test.YticegglphmgoaaaPln
import Derived.Deep.DeepCutAuto
import Derived.Deep.CutBlock
namespace Go.Proofs.Yticegglphmgoaaa.Sha
open Go.RowKit
open Blk (nats)
/-- A text as new bytes that are the call's own. -/
theorem mbytes_wp {P : Program} {T e S : TypeId} (K : Byt.Kit P T e S) {w : World} {ops : Array Oper} {rest : List Oper} {o : Oper} {a : Act} {Q : Exit → Act → World → Prop} (hgd : o.guard = none) (x : Operand) (ho : o.op = .convert S T x)
    (base : Nat) (hbase : base ≤ w.heap.size) (l : List UInt8) (hl : l.length ≤ 140737488355328) (hx : a.eval x = .string ⟨l.toArray⟩)
    (h : ∀ cap w', Byt.MRow w' base e (.slice (some ⟨w.heap.size, 0, none⟩) l.length cap) (nat l) → Below w.heap.size w w' → wpList P ops Q rest (a.put o.dst (.slice (some ⟨w.heap.size, 0, none⟩) l.length cap)) w') : wpList P ops Q (o :: rest) a w := by
  refine wpList_plain hgd fun K' hK => ?_
  have hrun := run_bytes_of_string (P := P) w S T e ⟨l.toArray⟩ K.hS K.hT K.he
  unfold Oper.wp
  simp only [execOp, ho, hx, Sem.run_bind, hrun, Result.andThen]
  have hsz : (⟨l.toArray⟩ : ByteArray).size = l.length := rfl
  have hge := grownCap_ge w l.length 0 e
  have hcm : grownCap w l.length 0 e ≤ maxLen := grownCap_le_maxLen w l.length 0 e (by simp only [maxLen]; omega)
  have hrow : bytesRow ⟨l.toArray⟩ (grownCap w l.length 0 e) = (nats .u8 (nat l) ++ List.replicate (grownCap w l.length 0 e - l.length) (Value.int .u8 0)).toArray := by
    unfold bytesRow
    rw [hsz]
    apply Array.ext'
    simp [nats, nat]
  rw [hsz, hrow]
  obtain ⟨CS, hCS⟩ : ∃ CS, CS = nats .u8 (nat l) ++ List.replicate (grownCap w l.length 0 e - l.length) (Value.int .u8 0) := ⟨_, rfl⟩
  rw [← hCS]
  have hn : (nat l).length = l.length := List.length_map _
  have hlen : CS.length = grownCap w l.length 0 e := by rw [hCS, List.length_append, Blk.nats_length, hn, List.length_replicate]; omega
  have hm : Byt.MRow (w.drew.alloc (.cells CS.toArray e (CS.toArray.size, CS.toArray.size + 1))) base e (.slice (some ⟨w.heap.size, 0, none⟩) l.length (grownCap w l.length 0 e)) (nat l) := by
    refine .inr ⟨w.heap.size, grownCap w l.length 0 e, CS, (CS.toArray.size, CS.toArray.size + 1), by rw [hn], hbase, ?_, by rw [hn]; exact hge, hcm, hlen, ?_, ?_⟩
    · show (w.heap.push _)[w.heap.size]? = _
      rw [Array.getElem?_push_size]
    · rw [hCS, List.take_append_of_le_length (by rw [Blk.nats_length]; exact Nat.le_refl _), List.take_of_length_le (by rw [Blk.nats_length]; exact Nat.le_refl _)]
    · intro j hj
      simp only [List.size_toArray, hlen]
      omega
  exact hK _ _ (h _ _ hm ((Below.refl _ _).drew.alloc (Nat.le_refl _) _))
/-- How long a slice is. -/
def sizeOfS : Value → Nat
  | .slice _ n _ => n
  | _ => 0
theorem shr255 (m q : Nat) (hm : m < 9223372036854775808) : bits .and .i64 ((m : Int) / 2 ^ (8 * q)) 255 % 256 = ((m / 256 ^ q % 256 : Nat) : Int) := by
  have e1 : ((m : Int) / 2 ^ (8 * q)) = ((m / 2 ^ (8 * q) : Nat) : Int) := by simp
  have hd : m / 2 ^ (8 * q) < 9223372036854775808 := Nat.lt_of_le_of_lt (Nat.div_le_self _ _) hm
  rw [e1, show (255 : Int) = ((255 : Nat) : Int) from rfl, and63 _ _ hd (by decide), show (255 : Nat) = 2 ^ 8 - 1 from rfl, Nat.and_two_pow_sub_one_eq_mod, show (256 : Nat) ^ q = 2 ^ (8 * q) by rw [show (256 : Nat) = 2 ^ 8 from rfl, ← Nat.pow_mul]]
  omega
theorem big_take (n r : Nat) (h : r < 8) : (big n 8).take (r + 1) = (big n 8).take r ++ [n / 256 ^ (7 - r) % 256] := by
  have hl : (big n 8).length = 8 := big_length n 8
  rw [List.take_succ_eq_append_getElem (by omega)]
  congr 2
  unfold big
  simp
attribute [local irreducible] big
set_option maxHeartbeats 1000000 in
set_option maxRecDepth 100000 in
theorem padded_any (s : List UInt8) (w : World) (hs : s.length < 1099511627776) :
    Calls Try.prog 49 #[.string ⟨s.toArray⟩] w fun e w' => ∃ g cap, e = .returned (.slice (some ⟨g, 0, none⟩) (padded (nat s)).length cap) ∧ (padded (nat s)).length ≤ cap ∧ w.heap.size ≤ g ∧ w'.rangeAt g 0 (nats .u8 (padded (nat s))) ∧ Below w.heap.size w w' := by
  have HS := Lib.hid hs
  go_enter Try.func49, Try.ntmps49
  go_wp2_with (first | (refine mbytes_wp kit rfl (.tmp 5) rfl w.heap.size (Nat.le_refl _) s (by omega) rfl ?_) | fail)
  intro cap w1 r1 k1
  go_wp2_with (first | (refine Byt.mappend_wp kit rfl (.tmp 6) (.tmp 7) rfl w.heap.size _ (nat s) rfl (r1.alloc _) ⟨w1.heap.size, 0, none⟩ 1 1 [128] rfl rfl (by decide) (new_bytes w1 [128] 5) (by rw [List.length_map]; omega) (by have := k1.size; simp; omega) (nat s ++ [128]) rfl (s.length + 1) (by simp) ?_) | fail)
  intro g2 cap2 w2 r2 hg2
  have k2 : Below w.heap.size w w2 := (k1.alloc k1.size _).grown hg2 (by have := k1.size; simp; omega) (fun k hk => (r1.lt k hk).1)
  have hnl : (nat s).length = s.length := List.length_map _
  have HNL := Lib.hid hnl
  obtain ⟨t, ht⟩ : ∃ t, t = (119 - s.length % 64) % 64 := ⟨_, rfl⟩
  have HT := Lib.hid ht
  clear r1 k1 hg2 hnl ht
  go_wp2
  go_loopw [3] (fun v wr => ∃ j g cap : Nat, j ≤ t ∧ v = .slice (some ⟨g, 0, none⟩) (s.length + 1 + j) cap ∧ Byt.MRow wr w.heap.size 5 (.slice (some ⟨g, 0, none⟩) (s.length + 1 + j) cap) (nat s ++ [128] ++ List.replicate j 0) ∧ Below w.heap.size w wr)
    (fun v _ => (120 - sizeOfS v % 64) % 64)
  case atStart => exact ⟨0, g2, cap2, by omega, rfl, by simpa using r2, k2⟩
  case round =>
    clear r2 k2
    obtain ⟨j, g, cap, hj, rfl, r2, k2⟩ := hrel
    by_cases h56 : (s.length + 1 + j) % 64 = 56
    · have hd : (((s.length + 1 + j : Nat) : Int) % 64 == 56) = true := by rw [beq_iff_eq]; omega
      have hjt : j = t := by have := HT.out; omega
      go_wp2
      obtain ⟨bs, hbs⟩ : ∃ l, l = nat s ++ [128] ++ List.replicate t 0 := ⟨_, rfl⟩
      have hbl : bs.length = s.length + 1 + t := by rw [hbs]; simp; omega
      rw [hjt, ← hbs] at r2
      have HBS := Lib.hid hbs
      have HBL := Lib.hid hbl
      have HJT := Lib.hid hjt
      clear hbs hbl hjt hd
      generalize ((((s.length : Int) + 1 + (t : Int)) % 64) != 56) = y1
      generalize (((s.length : Int) + 1 + (t : Int)) % 64) = y2
      generalize ((s.length : Int) + 1 + (t : Int)) = y3
      go_loopw [3, 4] (fun v i wr => ∃ r g cap : Nat, r ≤ 8 ∧ i = .int .i64 ((r : Int) - 1) ∧ v = .slice (some ⟨g, 0, none⟩) (s.length + 1 + t + (8 - r)) cap ∧ Byt.MRow wr w.heap.size 5 (.slice (some ⟨g, 0, none⟩) (s.length + 1 + t + (8 - r)) cap) (bs ++ (big (8 * s.length) 8).take (8 - r)) ∧ Below w.heap.size w wr)
        (fun _ i _ => (intOf i + 1).toNat)
      case atStart => exact ⟨8, g, cap, by omega, rfl, by rw [HJT.out]; rfl, by rw [List.take_zero, List.append_nil]; exact r2, k2⟩
      case round =>
        clear r2 k2
        obtain ⟨r, g, cap, hr, rfl, rfl, r2, k2⟩ := hrel
        rcases r with _ | q
        · go_wp2
          have e8 : (big (8 * s.length) 8).take (8 - 0) = big (8 * s.length) 8 := List.take_of_length_le (by rw [big_length]; decide)
          rw [e8] at r2
          have hp : bs ++ big (8 * s.length) 8 = padded (nat s) := by
            rw [HBS.out, HT.out]
            unfold padded
            rw [HNL.out]
          have hpl : (padded (nat s)).length = s.length + 1 + t + (8 - 0) := by
            rw [← hp, List.length_append, HBL.out, big_length]
          rw [hp] at r2
          have hcap : s.length + 1 + t + (8 - 0) ≤ cap := by rw [← hpl]; exact r2.cap
          refine bodyPost_ret (results_tmp rfl _ _ _) rfl ⟨g, cap, by rw [hpl]; rfl, by rw [hpl]; exact hcap, (r2.lt g rfl).1, r2.range, k2⟩
        · have hq : ((q + 1 : Nat) : Int) - 1 = (q : Int) := by omega
          rw [hq]
          clear hq
          go_upto_region 7 with (fail)
          (try simp only [Act.put])
          refine Pln.region_plain 9 ?_
          simp only [List.take_succ_cons, List.take_zero, List.drop_succ_cons, List.drop_zero]
          repeat (go_big_quiet_step (fail))
          refine wpQuiet_nil ?_
          intro w4 hw4
          have hq8 : q < 8 := by omega
          have ex : bits .and .i64 (8 * (s.length : Int) / 2 ^ (8 * q)) 255 % 256 = ((8 * s.length / 256 ^ q % 256 : Nat) : Int) := by
            rw [show (8 * (s.length : Int)) = ((8 * s.length : Nat) : Int) by omega]
            exact shr255 _ _ (by omega)
          rw [ex]
          have hbt := big_take (8 * s.length) (7 - q) (by omega)
          rw [show 7 - (7 - q) = q by omega, show 7 - q + 1 = 8 - q by omega] at hbt
          generalize 8 * s.length / 256 ^ q % 256 = x at hbt ⊢
          rw [show 8 - (q + 1) = 7 - q by omega] at r2 ⊢
          have HBT := Lib.hid hbt
          have r3 := r2.below hw4
          have k3 := k2.trans (hw4.mono k2.size)
          have R3 := Lib.hid r3
          have hbl : (bs ++ (big (8 * s.length) 8).take (7 - q)).length = s.length + 1 + t + (7 - q) := by
            rw [List.length_append, HBL.out, List.length_take, big_length]; omega
          have HBLL := Lib.hid hbl
          have htb := HT.out
          have ht64 : t < 64 := by omega
          clear ex hbt r2 k2 hw4 r3 hbl htb
          go_wp2_with (first | (refine Byt.mappend_wp kit rfl (.tmp 20) (.tmp 29) rfl w.heap.size _ (bs ++ (big (8 * s.length) 8).take (7 - q)) rfl (R3.out.alloc _) ⟨w4.heap.size, 0, none⟩ 1 1 [x] rfl rfl (by decide) (new_bytes w4 [x] 5) (by rw [HBLL.out]; omega) (by have := k3.size; simp; omega) (bs ++ (big (8 * s.length) 8).take (8 - q)) (by rw [HBT.out, List.append_assoc]) (s.length + 1 + t + (8 - q)) (by rw [List.length_append, HBL.out, List.length_take, big_length]; omega) ?_) | fail)
          intro g5 cap5 w5 r5 hg5
          have k5 : Below w.heap.size w w5 := (k3.alloc k3.size _).grown hg5 (by have := k3.size; simp; omega) (fun k hk => (R3.out.lt k hk).1)
          have R5 := Lib.hid r5
          clear r5 hg5 R3
          go_wp2
          go_roundw
          case rel => exact ⟨q, g5, cap5, by omega, rfl, rfl, R5.out, k5⟩
          case measure => simp [intOf]
    · have hd : (((s.length + 1 + j : Nat) : Int) % 64 == 56) = false := by rw [beq_eq_false_iff_ne]; omega
      go_wp2_with (first | (refine Byt.mappend_wp kit rfl (.tmp 13) (.tmp 14) rfl w.heap.size _ (nat s ++ [128] ++ List.replicate j 0) rfl (r2.alloc _) ⟨wr.heap.size, 0, none⟩ 1 1 [0] rfl rfl (by decide) (new_bytes wr [0] 5) (by have := HT.out; simp; omega) (by have := k2.size; simp; omega) (nat s ++ [128] ++ List.replicate (j + 1) 0) (by rw [List.append_assoc _ (List.replicate j 0), ← List.replicate_succ']) (s.length + 1 + (j + 1)) (by simp; omega) ?_) | fail)
      intro g3 cap3 w3 r3 hg3
      have k3 : Below w.heap.size w w3 := (k2.alloc k2.size _).grown hg3 (by have := k2.size; simp; omega) (fun k hk => (r2.lt k hk).1)
      have R3 := Lib.hid r3
      clear r3 hg3 r2 k2
      go_wp2
      go_roundw
      case rel => exact ⟨j + 1, g3, cap3, by have := HT.out; omega, rfl, by have := R3.out; simpa using this, k3⟩
      case measure => simp [sizeOfS]; omega
end Go.Proofs.Yticegglphmgoaaa.Sha
