/- The digest of a text, reckoned fast: the whole message as one number; it is the digest of the plain function. No condition. -/
import Derived.Test.YtphfjhpgcdmonaaGreatDoorShaQ
namespace Go.Proofs.YtphfjhpgcdmonaaGreatDoor.Sha
open Go.RowKit
set_option maxRecDepth 100000
/-! ### 1. Bytes as one number -/
def val (l : List Nat) : Nat := l.foldl (fun a b => a * 256 + b) 0
theorem val_foldl (l : List Nat) : ∀ a : Nat, l.foldl (fun a b => a * 256 + b) a = a * 256 ^ l.length + val l := by
  induction l with
  | nil => intro a; simp [val]
  | cons x l ih =>
    intro a
    have h1 : val (x :: l) = x * 256 ^ l.length + val l := by
      show l.foldl (fun a b => a * 256 + b) (0 * 256 + x) = _
      rw [ih, Nat.zero_mul, Nat.zero_add]
    show l.foldl (fun a b => a * 256 + b) (a * 256 + x) = _
    rw [ih, h1, List.length_cons, Nat.pow_succ, Nat.add_mul, Nat.mul_assoc a, Nat.mul_comm 256, Nat.add_assoc]
theorem val_append (x y : List Nat) : val (x ++ y) = val x * 256 ^ y.length + val y := by
  unfold val
  rw [List.foldl_append, val_foldl y]
  rfl
theorem val_cons (x : Nat) (l : List Nat) : val (x :: l) = x * 256 ^ l.length + val l := by
  have := val_append [x] l
  rw [show val [x] = x by simp [val]] at this
  exact this
theorem val_lt : ∀ (l : List Nat), (∀ x ∈ l, x < 256) → val l < 256 ^ l.length
  | [], _ => by simp [val]
  | x :: l, h => by
    rw [val_cons, List.length_cons, Nat.pow_succ]
    have h1 := h x List.mem_cons_self
    have h2 := val_lt l fun y hy => h y (List.mem_cons_of_mem _ hy)
    have h3 : x * 256 ^ l.length ≤ 255 * 256 ^ l.length := Nat.mul_le_mul_right _ (by omega)
    omega
theorem val_sub (l : List Nat) (h : ∀ x ∈ l, x < 256) (a b c : Nat) (hc : l.length = a + b + c) : val l / 256 ^ c % 256 ^ b = val ((l.drop a).take b) := by
  have e : l = l.take a ++ ((l.drop a).take b ++ (l.drop a).drop b) := by rw [List.take_append_drop, List.take_append_drop]
  have l2 : ((l.drop a).take b).length = b := by rw [List.length_take, List.length_drop]; omega
  have l3 : ((l.drop a).drop b).length = c := by rw [List.length_drop, List.length_drop]; omega
  have b2 := val_lt ((l.drop a).take b) fun x hx => h x (List.mem_of_mem_drop (List.mem_of_mem_take hx))
  have b3 := val_lt ((l.drop a).drop b) fun x hx => h x (List.mem_of_mem_drop (List.mem_of_mem_drop hx))
  rw [l2] at b2
  rw [l3] at b3
  have ev : val l = (val (l.take a) * 256 ^ b + val ((l.drop a).take b)) * 256 ^ c + val ((l.drop a).drop b) := by
    conv => lhs; rw [e]
    rw [val_append, val_append, List.length_append, l2, l3, Nat.pow_add, Nat.add_mul, Nat.mul_assoc, Nat.add_assoc]
  rw [ev, Nat.mul_comm _ (256 ^ c), Nat.mul_add_div (Nat.pow_pos (by decide)), Nat.div_eq_of_lt b3, Nat.add_zero, Nat.mul_comm _ (256 ^ b), Nat.mul_add_mod, Nat.mod_eq_of_lt b2]
theorem val_four (a b c d : Nat) : val [a, b, c, d] = a * 16777216 + b * 65536 + c * 256 + d := by
  show (((0 * 256 + a) * 256 + b) * 256 + c) * 256 + d = _
  omega
theorem quad_is (l : List Nat) (i : Nat) (h : i + 4 ≤ l.length) : (l.drop i).take 4 = [at_ l i, at_ l (i + 1), at_ l (i + 2), at_ l (i + 3)] := by
  have hg : ∀ k (hk : k < l.length), l[k] = at_ l k := fun k hk => by unfold at_; rw [List.getD_eq_getElem?_getD, List.getElem?_eq_getElem hk]; rfl
  rw [List.drop_eq_getElem_cons (show i < l.length by omega), List.drop_eq_getElem_cons (show i + 1 < l.length by omega), List.drop_eq_getElem_cons (show i + 1 + 1 < l.length by omega), List.drop_eq_getElem_cons (show i + 1 + 1 + 1 < l.length by omega)]
  simp only [List.take_succ_cons, List.take_zero]
  rw [hg, hg, hg, hg]
/-- A word of a block. -/
theorem word_is (b : List Nat) (hb : ∀ x ∈ b, x < 256) (hl : b.length = 64) (i : Nat) (hi : i < 16) : Nat.mod (Nat.shiftRight (val b) (32 * (15 - i))) 4294967296 = at_ (sched b) i := by
  rw [sched_word b i hi]
  have h := val_sub b hb (4 * i) 4 (4 * (15 - i)) (by omega)
  rw [quad_is b (4 * i) (by omega), val_four] at h
  rw [← h]
  show (val b >>> (32 * (15 - i))) % 4294967296 = _
  rw [Nat.shiftRight_eq_div_pow, show (4294967296 : Nat) = 256 ^ 4 by rfl, show 32 * (15 - i) = 8 * (4 * (15 - i)) by omega, Nat.pow_mul]

/-! ### 2. The blocks -/
noncomputable def blF (N : Nat) (fin : F8) : Nat → F8 := Nat.rec (motive := fun _ => F8) fin fun j ih v0 v1 v2 v3 v4 v5 v6 v7 =>
  force (Nat.mod (Nat.shiftRight N (Nat.mul 512 j)) (Nat.pow 256 64)) fun B =>
  force (Nat.mod (Nat.shiftRight B 480) 4294967296) fun w0 => force (Nat.mod (Nat.shiftRight B 448) 4294967296) fun w1 =>
  force (Nat.mod (Nat.shiftRight B 416) 4294967296) fun w2 => force (Nat.mod (Nat.shiftRight B 384) 4294967296) fun w3 =>
  force (Nat.mod (Nat.shiftRight B 352) 4294967296) fun w4 => force (Nat.mod (Nat.shiftRight B 320) 4294967296) fun w5 =>
  force (Nat.mod (Nat.shiftRight B 288) 4294967296) fun w6 => force (Nat.mod (Nat.shiftRight B 256) 4294967296) fun w7 =>
  force (Nat.mod (Nat.shiftRight B 224) 4294967296) fun w8 => force (Nat.mod (Nat.shiftRight B 192) 4294967296) fun w9 =>
  force (Nat.mod (Nat.shiftRight B 160) 4294967296) fun w10 => force (Nat.mod (Nat.shiftRight B 128) 4294967296) fun w11 =>
  force (Nat.mod (Nat.shiftRight B 96) 4294967296) fun w12 => force (Nat.mod (Nat.shiftRight B 64) 4294967296) fun w13 =>
  force (Nat.mod (Nat.shiftRight B 32) 4294967296) fun w14 => force (Nat.mod (Nat.shiftRight B 0) 4294967296) fun w15 =>
  stepsF (fun a b c d e f g h =>
    force (Nat.mod (Nat.add a v0) 4294967296) fun a => force (Nat.mod (Nat.add b v1) 4294967296) fun b =>
    force (Nat.mod (Nat.add c v2) 4294967296) fun c => force (Nat.mod (Nat.add d v3) 4294967296) fun d =>
    force (Nat.mod (Nat.add e v4) 4294967296) fun e => force (Nat.mod (Nat.add f v5) 4294967296) fun f =>
    force (Nat.mod (Nat.add g v6) 4294967296) fun g => force (Nat.mod (Nat.add h v7) 4294967296) fun h =>
    ih a b c d e f g h) ks w0 w1 w2 w3 w4 w5 w6 w7 w8 w9 w10 w11 w12 w13 w14 w15 v0 v1 v2 v3 v4 v5 v6 v7
def endF (F : F8) (v0 v1 v2 v3 v4 v5 v6 v7 : Nat) : F8 := fun a b c d e f g h => F ((a + v0) % 4294967296) ((b + v1) % 4294967296) ((c + v2) % 4294967296) ((d + v3) % 4294967296) ((e + v4) % 4294967296) ((f + v5) % 4294967296) ((g + v6) % 4294967296) ((h + v7) % 4294967296)
def blkF (N j : Nat) : Nat := Nat.mod (Nat.shiftRight N (Nat.mul 512 j)) (Nat.pow 256 64)
def wF (B i : Nat) : Nat := Nat.mod (Nat.shiftRight B i) 4294967296
theorem blF_succ (N : Nat) (fin : F8) (j v0 v1 v2 v3 v4 v5 v6 v7 : Nat) : blF N fin (j + 1) v0 v1 v2 v3 v4 v5 v6 v7 =
    stepsF (endF (blF N fin j) v0 v1 v2 v3 v4 v5 v6 v7) ks (wF (blkF N j) 480) (wF (blkF N j) 448) (wF (blkF N j) 416) (wF (blkF N j) 384) (wF (blkF N j) 352) (wF (blkF N j) 320) (wF (blkF N j) 288) (wF (blkF N j) 256)
      (wF (blkF N j) 224) (wF (blkF N j) 192) (wF (blkF N j) 160) (wF (blkF N j) 128) (wF (blkF N j) 96) (wF (blkF N j) 64) (wF (blkF N j) 32) (wF (blkF N j) 0) v0 v1 v2 v3 v4 v5 v6 v7 := by
  have e0 : endF (blF N fin j) v0 v1 v2 v3 v4 v5 v6 v7 = fun a b c d e f g h =>
    force (Nat.mod (Nat.add a v0) 4294967296) fun a => force (Nat.mod (Nat.add b v1) 4294967296) fun b =>
    force (Nat.mod (Nat.add c v2) 4294967296) fun c => force (Nat.mod (Nat.add d v3) 4294967296) fun d =>
    force (Nat.mod (Nat.add e v4) 4294967296) fun e => force (Nat.mod (Nat.add f v5) 4294967296) fun f =>
    force (Nat.mod (Nat.add g v6) 4294967296) fun g => force (Nat.mod (Nat.add h v7) 4294967296) fun h =>
    blF N fin j a b c d e f g h := by
    funext a b c d e f g h
    simp only [force_is]
    rfl
  rw [e0]
  have e1 : blF N fin (j + 1) v0 v1 v2 v3 v4 v5 v6 v7 =
    force (blkF N j) fun B =>
    force (wF B 480) fun w0 => force (wF B 448) fun w1 => force (wF B 416) fun w2 => force (wF B 384) fun w3 => force (wF B 352) fun w4 => force (wF B 320) fun w5 => force (wF B 288) fun w6 => force (wF B 256) fun w7 =>
    force (wF B 224) fun w8 => force (wF B 192) fun w9 => force (wF B 160) fun w10 => force (wF B 128) fun w11 => force (wF B 96) fun w12 => force (wF B 64) fun w13 => force (wF B 32) fun w14 => force (wF B 0) fun w15 =>
    stepsF (fun a b c d e f g h =>
      force (Nat.mod (Nat.add a v0) 4294967296) fun a => force (Nat.mod (Nat.add b v1) 4294967296) fun b =>
      force (Nat.mod (Nat.add c v2) 4294967296) fun c => force (Nat.mod (Nat.add d v3) 4294967296) fun d =>
      force (Nat.mod (Nat.add e v4) 4294967296) fun e => force (Nat.mod (Nat.add f v5) 4294967296) fun f =>
      force (Nat.mod (Nat.add g v6) 4294967296) fun g => force (Nat.mod (Nat.add h v7) 4294967296) fun h =>
      blF N fin j a b c d e f g h) ks w0 w1 w2 w3 w4 w5 w6 w7 w8 w9 w10 w11 w12 w13 w14 w15 v0 v1 v2 v3 v4 v5 v6 v7 := rfl
  rw [e1]
  repeat rw [force_is]
theorem wF_is (B i : Nat) (b : List Nat) (k : Nat) (hB : B = val b) (hb : ∀ x ∈ b, x < 256) (hl : b.length = 64) (hk : k < 16) (hi : i = 32 * (15 - k)) : wF B i = at_ (sched b) k := by
  subst hB hi
  exact word_is b hb hl k hk
theorem blF_is (p : List Nat) (hp : ∀ x ∈ p, x < 256) (nb : Nat) (hl : p.length = 64 * nb) (fin : F8) : ∀ (j : Nat), j ≤ nb → ∀ v0 v1 v2 v3 v4 v5 v6 v7, blocks p (nb - j) = [v0, v1, v2, v3, v4, v5, v6, v7] →
    ∃ r0 r1 r2 r3 r4 r5 r6 r7, blocks p nb = [r0, r1, r2, r3, r4, r5, r6, r7] ∧ blF (val p) fin j v0 v1 v2 v3 v4 v5 v6 v7 = fin r0 r1 r2 r3 r4 r5 r6 r7 := by
  intro j
  induction j with
  | zero => intro _ v0 v1 v2 v3 v4 v5 v6 v7 hv; exact ⟨v0, v1, v2, v3, v4, v5, v6, v7, hv, rfl⟩
  | succ j ih =>
    intro hj v0 v1 v2 v3 v4 v5 v6 v7 hv
    obtain ⟨i, hi⟩ : ∃ i, nb - (j + 1) = i := ⟨_, rfl⟩
    have hij : nb - j = i + 1 := by omega
    rw [hi] at hv
    obtain ⟨blk, hblk⟩ : ∃ b, b = (p.drop (64 * i)).take 64 := ⟨_, rfl⟩
    have hbl : blk.length = 64 := by rw [hblk, List.length_take, List.length_drop]; omega
    have hb : ∀ x ∈ blk, x < 256 := fun x hx => hp x (by rw [hblk] at hx; exact List.mem_of_mem_drop (List.mem_of_mem_take hx))
    have hB : blkF (val p) j = val blk := by
      have h := val_sub p hp (64 * i) 64 (64 * j) (by omega)
      rw [← hblk] at h
      rw [← h]
      show (val p >>> (512 * j)) % 256 ^ 64 = _
      rw [Nat.shiftRight_eq_div_pow, show 512 * j = 8 * (64 * j) by omega, Nat.pow_mul]
    have hok := blocks_ok p i
    rw [hv] at hok
    rw [blF_succ]
    obtain ⟨A, B, C, D, E, F, G, H, hr, hs⟩ := stepsF_is (endF (blF (val p) fin j) v0 v1 v2 v3 v4 v5 v6 v7) blk [v0, v1, v2, v3, v4, v5, v6, v7] (fun i => at_lt_of_all hb (by decide) i) rfl hok.2 64 0 rfl
      (wF (blkF (val p) j) 480) (wF (blkF (val p) j) 448) (wF (blkF (val p) j) 416) (wF (blkF (val p) j) 384) (wF (blkF (val p) j) 352) (wF (blkF (val p) j) 320) (wF (blkF (val p) j) 288) (wF (blkF (val p) j) 256)
      (wF (blkF (val p) j) 224) (wF (blkF (val p) j) 192) (wF (blkF (val p) j) 160) (wF (blkF (val p) j) 128) (wF (blkF (val p) j) 96) (wF (blkF (val p) j) 64) (wF (blkF (val p) j) 32) (wF (blkF (val p) j) 0) v0 v1 v2 v3 v4 v5 v6 v7 rfl
      (fun _ => wF_is _ _ blk 0 hB hb hbl (by decide) rfl) (fun _ => wF_is _ _ blk 1 hB hb hbl (by decide) rfl) (fun _ => wF_is _ _ blk 2 hB hb hbl (by decide) rfl) (fun _ => wF_is _ _ blk 3 hB hb hbl (by decide) rfl)
      (fun _ => wF_is _ _ blk 4 hB hb hbl (by decide) rfl) (fun _ => wF_is _ _ blk 5 hB hb hbl (by decide) rfl) (fun _ => wF_is _ _ blk 6 hB hb hbl (by decide) rfl) (fun _ => wF_is _ _ blk 7 hB hb hbl (by decide) rfl)
      (fun _ => wF_is _ _ blk 8 hB hb hbl (by decide) rfl) (fun _ => wF_is _ _ blk 9 hB hb hbl (by decide) rfl) (fun _ => wF_is _ _ blk 10 hB hb hbl (by decide) rfl) (fun _ => wF_is _ _ blk 11 hB hb hbl (by decide) rfl)
      (fun _ => wF_is _ _ blk 12 hB hb hbl (by decide) rfl) (fun _ => wF_is _ _ blk 13 hB hb hbl (by decide) rfl) (fun _ => wF_is _ _ blk 14 hB hb hbl (by decide) rfl) (fun _ => wF_is _ _ blk 15 hB hb hbl (by decide) rfl)
    rw [List.drop_zero] at hs
    rw [hs]
    refine ih (by omega) _ _ _ _ _ _ _ _ ?_
    rw [hij, blocks_succ, hv, ← hblk, mixed, hr]
    rfl
end Go.Proofs.YtphfjhpgcdmonaaGreatDoor.Sha
