/- An executor over an abstract heap: what a function of a program does at given arguments, by names for the blocks and not their numbers. Definitions alone; no condition. -/
import Derived.WalkKit
import Derived.Below
import Derived.Lib.Hide
namespace Go.Proofs.YtlagmjdifilheaaGreat.Exe
open Go Go.RowKit

/-- A value, the commonest ones set apart. -/
inductive W where
  | u (n : Nat)
  | i (n : Nat)
  | b (t : Bool)
  | p (blk off : Nat)
  | o (v : Value)
def W.val : W → Value
  | .u n => .int .u64 (.ofNat n)
  | .i n => .int .i64 (.ofNat n)
  | .b t => .bool t
  | .p blk off => .pointer (some ⟨blk, off, none⟩)
  | .o v => v
def toW (v : Value) : W := match v with
  | .int k n => match k, n with
    | .u64, .ofNat n => .u n
    | .i64, .ofNat n => .i n
    | _, _ => .o v
  | .bool t => .b t
  | .pointer q => match q with
    | some ⟨i, off, none⟩ => .p i off
    | _ => .o v
  | v => .o v
theorem toW_val (v : Value) : (toW v).val = v := by
  unfold toW
  split
  · split <;> rfl
  · rfl
  · split <;> rfl
  · rfl

/-- Trees of four branches each, and the roads in them. -/
inductive Dg where
  | d0 | d1 | d2 | d3
inductive T4 (α : Type) where
  | nil
  | leaf (v : α)
  | n4 (p q r s : T4 α)
noncomputable def dg (n : Nat) : Dg := Nat.rec .d0 (fun m _ => Nat.rec .d1 (fun m' _ => Nat.rec .d2 (fun _ _ => .d3) m') m) n
noncomputable def path (n : Nat) : Nat → List Dg := Nat.rec (motive := fun _ => Nat → List Dg) (fun _ => []) (fun _ ih t => dg (Nat.mod t 4) :: ih (Nat.div t 4)) n
noncomputable def T4.get {α : Type} (l : List Dg) : T4 α → Option α := List.rec (motive := fun _ => T4 α → Option α)
  (fun t => T4.rec (motive := fun _ => Option α) none (fun v => some v) (fun _ _ _ _ _ _ _ _ => none) t)
  (fun d _ ih t => T4.rec (motive := fun _ => Option α) none (fun _ => none) (fun p q r s _ _ _ _ => Dg.rec (motive := fun _ => Option α) (ih p) (ih q) (ih r) (ih s) d) t) l
noncomputable def T4.put {α : Type} (v : T4 α) (l : List Dg) : T4 α → T4 α := List.rec (motive := fun _ => T4 α → T4 α) (fun _ => v)
  (fun d _ ih t => T4.rec (motive := fun _ => T4 α)
    (Dg.rec (motive := fun _ => T4 α) (.n4 (ih .nil) .nil .nil .nil) (.n4 .nil (ih .nil) .nil .nil) (.n4 .nil .nil (ih .nil) .nil) (.n4 .nil .nil .nil (ih .nil)) d)
    (fun _ => Dg.rec (motive := fun _ => T4 α) (.n4 (ih .nil) .nil .nil .nil) (.n4 .nil (ih .nil) .nil .nil) (.n4 .nil .nil (ih .nil) .nil) (.n4 .nil .nil .nil (ih .nil)) d)
    (fun p q r s _ _ _ _ => Dg.rec (motive := fun _ => T4 α) (.n4 (ih p) q r s) (.n4 p (ih q) r s) (.n4 p q (ih r) s) (.n4 p q r (ih s)) d) t) l
/-- How deep a tree is that has room for so many. -/
def deep (L : Nat) : Nat := bif L.ble 4 then 1 else bif L.ble 16 then 2 else bif L.ble 64 then 3 else bif L.ble 256 then 4 else bif L.ble 1024 then 5 else bif L.ble 4096 then 6 else bif L.ble 16384 then 7 else 12

/-- The same by numbers. -/
noncomputable def T4.find {α : Type} (n : Nat) : Nat → T4 α → (α → Bool) → Bool := Nat.rec (motive := fun _ => Nat → T4 α → (α → Bool) → Bool)
  (fun _ t k => T4.rec (motive := fun _ => Bool) false k (fun _ _ _ _ _ _ _ _ => false) t)
  (fun _ ih i t k => T4.rec (motive := fun _ => Bool) false (fun _ => false) (fun p q r s _ _ _ _ => Nat.rec (motive := fun _ => Bool) (ih (Nat.div i 4) p k) (fun m _ => Nat.rec (motive := fun _ => Bool) (ih (Nat.div i 4) q k) (fun m' _ => Nat.rec (motive := fun _ => Bool) (ih (Nat.div i 4) r k) (fun _ _ => ih (Nat.div i 4) s k) m') m) (Nat.mod i 4)) t) n
noncomputable def T4.putN {α : Type} (v : T4 α) (n : Nat) : Nat → T4 α → T4 α := Nat.rec (motive := fun _ => Nat → T4 α → T4 α) (fun _ _ => v)
  (fun _ ih i t => T4.rec (motive := fun _ => T4 α)
    (Nat.rec (motive := fun _ => T4 α) (.n4 (ih (Nat.div i 4) .nil) .nil .nil .nil) (fun m _ => Nat.rec (motive := fun _ => T4 α) (.n4 .nil (ih (Nat.div i 4) .nil) .nil .nil) (fun m' _ => Nat.rec (motive := fun _ => T4 α) (.n4 .nil .nil (ih (Nat.div i 4) .nil) .nil) (fun _ _ => .n4 .nil .nil .nil (ih (Nat.div i 4) .nil)) m') m) (Nat.mod i 4))
    (fun _ => Nat.rec (motive := fun _ => T4 α) (.n4 (ih (Nat.div i 4) .nil) .nil .nil .nil) (fun m _ => Nat.rec (motive := fun _ => T4 α) (.n4 .nil (ih (Nat.div i 4) .nil) .nil .nil) (fun m' _ => Nat.rec (motive := fun _ => T4 α) (.n4 .nil .nil (ih (Nat.div i 4) .nil) .nil) (fun _ _ => .n4 .nil .nil .nil (ih (Nat.div i 4) .nil)) m') m) (Nat.mod i 4))
    (fun p q r s _ _ _ _ => Nat.rec (motive := fun _ => T4 α) (.n4 (ih (Nat.div i 4) p) q r s) (fun m _ => Nat.rec (motive := fun _ => T4 α) (.n4 p (ih (Nat.div i 4) q) r s) (fun m' _ => Nat.rec (motive := fun _ => T4 α) (.n4 p q (ih (Nat.div i 4) r) s) (fun _ _ => .n4 p q r (ih (Nat.div i 4) s)) m') m) (Nat.mod i 4)) t) n

section tree
variable {α : Type}
theorem dg_cases {β : Type} (n : Nat) (a b c d : β) : (Nat.rec (motive := fun _ => β) a (fun m _ => Nat.rec (motive := fun _ => β) b (fun m' _ => Nat.rec (motive := fun _ => β) c (fun _ _ => d) m') m) n : β) = Dg.rec (motive := fun _ => β) a b c d (dg n) := by
  match n with
  | 0 | 1 | 2 | _ + 3 => rfl
theorem T4.find_eq : ∀ (n i : Nat) (t : T4 α) (k : α → Bool), T4.find n i t k = match T4.get (path n i) t with
    | some v => k v
    | none => false
  | 0, _, t, _ => by cases t <;> rfl
  | n + 1, i, t, k => by
    cases t with
    | nil => rfl
    | leaf v => rfl
    | n4 p q r s =>
      refine (dg_cases (i % 4) (T4.find n (i / 4) p k) (T4.find n (i / 4) q k) (T4.find n (i / 4) r k) (T4.find n (i / 4) s k)).trans ?_
      show _ = match T4.get (dg (i % 4) :: path n (i / 4)) (.n4 p q r s) with
        | some v => k v
        | none => false
      cases dg (i % 4) <;> exact T4.find_eq n (i / 4) _ k
theorem T4.putN_eq (v : T4 α) : ∀ (n i : Nat) (t : T4 α), T4.putN v n i t = T4.put v (path n i) t
  | 0, _, _ => rfl
  | n + 1, i, t => by
    show _ = T4.put v (dg (i % 4) :: path n (i / 4)) t
    have ih := T4.putN_eq v n (i / 4)
    cases t with
    | nil =>
      refine (dg_cases (i % 4) (T4.n4 (T4.putN v n (i / 4) .nil) .nil .nil .nil) (T4.n4 .nil (T4.putN v n (i / 4) .nil) .nil .nil) (T4.n4 .nil .nil (T4.putN v n (i / 4) .nil) .nil) (T4.n4 .nil .nil .nil (T4.putN v n (i / 4) .nil))).trans ?_
      rw [ih]
      rfl
    | leaf _ =>
      refine (dg_cases (i % 4) (T4.n4 (T4.putN v n (i / 4) .nil) .nil .nil .nil) (T4.n4 .nil (T4.putN v n (i / 4) .nil) .nil .nil) (T4.n4 .nil .nil (T4.putN v n (i / 4) .nil) .nil) (T4.n4 .nil .nil .nil (T4.putN v n (i / 4) .nil))).trans ?_
      rw [ih]
      rfl
    | n4 p q r s =>
      refine (dg_cases (i % 4) (T4.n4 (T4.putN v n (i / 4) p) q r s) (T4.n4 p (T4.putN v n (i / 4) q) r s) (T4.n4 p q (T4.putN v n (i / 4) r) s) (T4.n4 p q r (T4.putN v n (i / 4) s))).trans ?_
      rw [ih, ih, ih, ih]
      rfl
theorem T4.put_nil (v : T4 α) (t : T4 α) : T4.put v [] t = v := rfl
def T4.sub (d : Dg) : T4 α → T4 α
  | .n4 p q r s => match d with
    | .d0 => p
    | .d1 => q
    | .d2 => r
    | .d3 => s
  | _ => .nil
theorem T4.get_nil (l : List Dg) : T4.get l (.nil : T4 α) = none := by cases l <;> rfl
theorem T4.get_cons (d : Dg) (l : List Dg) (t : T4 α) : T4.get (d :: l) t = T4.get l (t.sub d) := by
  cases t with
  | nil => exact (T4.get_nil l).symm
  | leaf v => exact (T4.get_nil l).symm
  | n4 p q r s => cases d <;> rfl
theorem T4.sub_put (v : T4 α) (d : Dg) (l : List Dg) (t : T4 α) : (T4.put v (d :: l) t).sub d = T4.put v l (t.sub d) := by
  cases t <;> cases d <;> rfl
theorem T4.sub_put_ne (v : T4 α) {d d' : Dg} (hd : d' ≠ d) (l : List Dg) (t : T4 α) : (T4.put v (d :: l) t).sub d' = t.sub d' := by
  cases t <;> cases d <;> cases d' <;> first | rfl | exact absurd rfl hd
theorem T4.get_put_same (v : T4 α) : ∀ (l : List Dg) (t : T4 α), T4.get l (T4.put v l t) = T4.get [] v
  | [], _ => rfl
  | d :: l, t => by rw [T4.get_cons, T4.sub_put, T4.get_put_same v l]
theorem T4.get_put_other (v : T4 α) : ∀ (l l' : List Dg) (t : T4 α), l.length = l'.length → l' ≠ l → T4.get l' (T4.put v l t) = T4.get l' t
  | [], [], _, _, h => absurd rfl h
  | d :: l, d' :: l', t, hl, h => by
    rw [T4.get_cons, T4.get_cons]
    by_cases hd : d' = d
    · subst hd
      rw [T4.sub_put, T4.get_put_other v l l' _ (by simpa using hl) (fun e => h (by rw [e]))]
    · rw [T4.sub_put_ne v hd]
  | [], _ :: _, _, hl, _ => by simp at hl
  | _ :: _, [], _, hl, _ => by simp at hl
theorem path_zero (t : Nat) : path 0 t = [] := rfl
theorem path_succ (n t : Nat) : path (n + 1) t = dg (t % 4) :: path n (t / 4) := rfl
theorem path_length : ∀ n t, (path n t).length = n
  | 0, _ => rfl
  | n + 1, t => by rw [path_succ, List.length_cons, path_length n]
theorem dg_inj {a b : Nat} (ha : a < 4) (hb : b < 4) (h : dg a = dg b) : a = b := by
  match a, b, ha, hb with
  | 0, 0, _, _ | 1, 1, _, _ | 2, 2, _, _ | 3, 3, _, _ => rfl
  | 0, 1, _, _ | 0, 2, _, _ | 0, 3, _, _ | 1, 0, _, _ | 1, 2, _, _ | 1, 3, _, _ | 2, 0, _, _ | 2, 1, _, _ | 2, 3, _, _ | 3, 0, _, _ | 3, 1, _, _ | 3, 2, _, _ => exact Dg.noConfusion h
theorem path_inj : ∀ (n a b : Nat), a < 4 ^ n → b < 4 ^ n → path n a = path n b → a = b
  | 0, a, b, ha, hb, _ => by simp at ha hb; omega
  | n + 1, a, b, ha, hb, h => by
    rw [path_succ, path_succ] at h
    injection h with h1 h2
    have e1 := dg_inj (Nat.mod_lt a (by omega)) (Nat.mod_lt b (by omega)) h1
    rw [Nat.pow_succ] at ha hb
    have e2 := path_inj n (a / 4) (b / 4) (by omega) (by omega) h2
    omega
theorem T4.get_leaf (v : α) : T4.get [] (.leaf v) = some v := rfl
theorem T4.get_none : T4.get [] (.nil : T4 α) = none := rfl
theorem T4.path_same (v : T4 α) (n i : Nat) (t : T4 α) : T4.get (path n i) (T4.put v (path n i) t) = T4.get [] v := T4.get_put_same v _ t
theorem T4.path_other (v : T4 α) {n i j : Nat} (hi : i < 4 ^ n) (hj : j < 4 ^ n) (h : j ≠ i) (t : T4 α) : T4.get (path n j) (T4.put v (path n i) t) = T4.get (path n j) t :=
  T4.get_put_other v _ _ t (by rw [path_length, path_length]) (fun e => h (path_inj n j i hj hi e))
theorem deep_ok {L : Nat} (h : L < 2 ^ 24) : L ≤ 4 ^ deep L := by
  unfold deep
  have c : ∀ a b : Nat, a.ble b = true ↔ a ≤ b := fun a b => ⟨Nat.le_of_ble_eq_true, Nat.ble_eq_true_of_le⟩
  by_cases h1 : L.ble 4 = true
  · rw [h1]; exact (c _ _).1 h1
  rw [Bool.eq_false_iff.2 h1]
  by_cases h1 : L.ble 16 = true
  · rw [h1]; exact (c _ _).1 h1
  rw [Bool.eq_false_iff.2 h1]
  by_cases h1 : L.ble 64 = true
  · rw [h1]; exact (c _ _).1 h1
  rw [Bool.eq_false_iff.2 h1]
  by_cases h1 : L.ble 256 = true
  · rw [h1]; exact (c _ _).1 h1
  rw [Bool.eq_false_iff.2 h1]
  by_cases h1 : L.ble 1024 = true
  · rw [h1]; exact (c _ _).1 h1
  rw [Bool.eq_false_iff.2 h1]
  by_cases h1 : L.ble 4096 = true
  · rw [h1]; exact (c _ _).1 h1
  rw [Bool.eq_false_iff.2 h1]
  by_cases h1 : L.ble 16384 = true
  · rw [h1]; exact (c _ _).1 h1
  rw [Bool.eq_false_iff.2 h1]
  show L ≤ 4 ^ 12
  omega
end tree
attribute [irreducible] T4.get T4.put path T4.find T4.putN

/-- A row of cells: a list, or a tree of so many. -/
inductive Row where
  | l (cs : List Value)
  | t (n len : Nat) (e : T4 W)
noncomputable def treeAt (n : Nat) (e : T4 W) (i : Nat) : Value := match T4.get (path n i) e with
  | some v => v.val
  | none => undef
noncomputable def Row.list : Row → List Value
  | .l cs => cs
  | .t n len e => (List.range len).map (treeAt n e)
def Row.len : Row → Nat
  | .l cs => cs.length
  | .t _ len _ => len
noncomputable def Row.at (i : Nat) : Row → Option W
  | .l cs => (cs[i]?).map toW
  | .t n len e => bif Nat.blt i len then (match T4.get (path n i) e with
    | some v => some v
    | none => some (.o undef)) else none
noncomputable def Row.set (i : Nat) (v : W) (r : Row) : Row := match r with
  | .l cs => .l (cs.set i v.val)
  | .t n len e => bif Nat.ble len (4 ^ n) then .t n len (T4.putN (.leaf v) n i e) else .l ((Row.t n len e).list.set i v.val)
noncomputable def Row.sub (off k : Nat) (r : Row) : List Value := match r with
  | .l cs => (cs.drop off).take k
  | .t n len e => bif Nat.ble (off + k) len then (List.range k).map (fun i => treeAt n e (off + i)) else ((Row.t n len e).list.drop off).take k
noncomputable def fillT (n : Nat) : Nat → List Value → T4 W → T4 W
  | _, [], e => e
  | k, v :: vs, e => fillT n (k + 1) vs (T4.putN (.leaf (toW v)) n k e)
noncomputable def Row.of (cs : List Value) : Row := let n := cs.length
  bif Nat.ble n 8 then .l cs else bif Nat.blt n 16777216 then .t (deep n) n (fillT (deep n) 0 cs .nil) else .l cs
noncomputable def Row.ext (vs : List Value) (r : Row) : Row := match r with
  | .l cs => Row.of (cs ++ vs)
  | .t n len e => bif Nat.ble (len + vs.length) (4 ^ n) then .t n (len + vs.length) (fillT n len vs e) else Row.of ((Row.t n len e).list ++ vs)
/-- The cell at a place, handed on. -/
noncomputable def Row.find (i : Nat) (r : Row) (k : W → Bool) : Bool := Row.rec (motive := fun _ => Bool)
  (fun cs => match cs[i]? with
    | some v => k (toW v)
    | none => false)
  (fun n len e => Bool.rec false (T4.find n i e k) (Nat.ble (Nat.succ i) len)) r
section row
theorem Row.find_at {r : Row} {i : Nat} {k : W → Bool} (h : r.find i k = true) : ∃ v, r.at i = some v ∧ k v = true := by
  cases r with
  | l cs =>
    have h' : (match cs[i]? with
      | some v => k (toW v)
      | none => false) = true := h
    cases hc : cs[i]? with
    | none => rw [hc] at h'; cases h'
    | some v =>
      rw [hc] at h'
      exact ⟨toW v, by simp [Row.at, hc], h'⟩
  | t n len e =>
    have h' : (Bool.rec false (T4.find n i e k) (Nat.ble (Nat.succ i) len) : Bool) = true := h
    cases hb : Nat.ble (Nat.succ i) len with
    | false => rw [hb] at h'; cases h'
    | true =>
      rw [hb] at h'
      have h2 : T4.find n i e k = true := h'
      rw [T4.find_eq] at h2
      cases hg : T4.get (path n i) e with
      | none => rw [hg] at h2; cases h2
      | some v =>
        rw [hg] at h2
        refine ⟨v, ?_, h2⟩
        simp only [Row.at]
        rw [show Nat.blt i len = true from hb, hg]
        rfl
theorem Row.list_length (r : Row) : r.list.length = r.len := by
  cases r with
  | l cs => rfl
  | t n len e => simp [Row.list, Row.len]
theorem Row.at_list {r : Row} {i : Nat} {v : W} (h : r.at i = some v) : r.list[i]? = some v.val := by
  cases r with
  | l cs =>
    simp only [Row.at, Option.map_eq_some_iff] at h
    obtain ⟨x, h1, rfl⟩ := h
    simp only [Row.list, h1, toW_val]
  | t n len e =>
    simp only [Row.at, Row.list] at h ⊢
    cases hb : Nat.blt i len with
    | false => rw [hb] at h; cases h
    | true =>
      rw [hb] at h
      have hi : i < len := Nat.le_of_ble_eq_true hb
      simp only [List.getElem?_map, List.getElem?_range hi, Option.map_some, treeAt]
      cases hg : T4.get (path n i) e with
      | none =>
        rw [hg] at h
        cases h
        rfl
      | some x =>
        rw [hg] at h
        cases h
        rfl
theorem treeAt_same {n i : Nat} {v : W} {e : T4 W} : treeAt n (T4.putN (.leaf v) n i e) i = v.val := by
  simp only [treeAt, T4.putN_eq, T4.path_same, T4.get_leaf]
theorem treeAt_other {n i j : Nat} {v : W} {e : T4 W} (hi : i < 4 ^ n) (hj : j < 4 ^ n) (h : j ≠ i) : treeAt n (T4.putN (.leaf v) n i e) j = treeAt n e j := by
  simp only [treeAt, T4.putN_eq, T4.path_other _ hi hj h]
theorem Row.set_list {r : Row} {i : Nat} {v : W} (hi : i < r.len) : (r.set i v).list = r.list.set i v.val := by
  cases r with
  | l cs => rfl
  | t n len e =>
    simp only [Row.set]
    cases hb : Nat.ble len (4 ^ n) with
    | false => rfl
    | true =>
      have hle : len ≤ 4 ^ n := Nat.le_of_ble_eq_true hb
      simp only [cond_true, Row.list]
      simp only [Row.len] at hi
      apply List.ext_getElem?
      intro k
      rw [List.getElem?_set]
      by_cases hk : k < len
      · rw [List.getElem?_map, List.getElem?_range hk, List.getElem?_map, List.getElem?_range hk]
        by_cases hik : i = k
        · subst hik
          simp [hk, treeAt_same]
        · simp only [hik, if_false, Option.map_some]
          rw [treeAt_other (by omega) (by omega) (fun h => hik h.symm)]
      · have hik : i ≠ k := by omega
        simp [hik, hk]
theorem Row.set_len {r : Row} {i : Nat} {v : W} : (r.set i v).len = r.len := by
  cases r with
  | l cs => simp [Row.set, Row.len]
  | t n len e =>
    simp only [Row.set]
    cases hb : Nat.ble len (4 ^ n) with
    | false =>
      show (List.set _ _ _).length = len
      simp [Row.list]
    | true => rfl
theorem Row.sub_list {r : Row} {off k : Nat} : r.sub off k = (r.list.drop off).take k := by
  cases r with
  | l cs => rfl
  | t n len e =>
    simp only [Row.sub]
    cases hb : Nat.ble (off + k) len with
    | false => rfl
    | true =>
      have hle : off + k ≤ len := Nat.le_of_ble_eq_true hb
      simp only [cond_true, Row.list]
      apply List.ext_getElem?
      intro j
      rw [List.getElem?_map, List.getElem?_take]
      by_cases hj : j < k
      · rw [if_pos hj, List.getElem?_drop, List.getElem?_map, List.getElem?_range hj, List.getElem?_range (by omega)]
        rfl
      · rw [if_neg hj]
        simp [hj]
theorem fillT_at {n : Nat} : ∀ {vs : List Value} {k : Nat} {e : T4 W} {i : Nat}, k + vs.length ≤ 4 ^ n → i < 4 ^ n → treeAt n (fillT n k vs e) i = if i < k then treeAt n e i else match vs[i - k]? with
    | some v => v
    | none => treeAt n e i
  | [], k, e, i, _, _ => by simp [fillT]
  | v :: vs, k, e, i, hk, hi => by
    rw [fillT, fillT_at (by simp at hk; omega) hi]
    by_cases h1 : i < k
    · rw [if_pos (by omega), if_pos h1, treeAt_other (by simp at hk; omega) hi (by omega)]
    · rw [if_neg h1]
      by_cases h2 : i = k
      · subst h2
        rw [if_pos (by omega), treeAt_same, toW_val]
        simp
      · rw [if_neg (by omega), treeAt_other (by simp at hk; omega) hi h2]
        have : i - k = (i - (k + 1)) + 1 := by omega
        rw [this]
        rfl
theorem Row.of_list (cs : List Value) : (Row.of cs).list = cs := by
  unfold Row.of
  dsimp only
  cases h1 : Nat.ble cs.length 8 with
  | true => rfl
  | false =>
    cases h2 : Nat.blt cs.length 16777216 with
    | false => rfl
    | true =>
      have hl : cs.length ≤ 4 ^ deep cs.length := deep_ok (Nat.le_of_ble_eq_true h2)
      simp only [cond_false, cond_true, Row.list]
      apply List.ext_getElem?
      intro k
      by_cases hk : k < cs.length
      · rw [List.getElem?_map, List.getElem?_range hk, Option.map_some, fillT_at (by omega) (by omega)]
        simp [hk]
      · simp [hk]
theorem Row.ext_list (vs : List Value) (r : Row) : (r.ext vs).list = r.list ++ vs := by
  cases r with
  | l cs => exact Row.of_list _
  | t n len e =>
    simp only [Row.ext]
    cases hb : Nat.ble (len + vs.length) (4 ^ n) with
    | false => exact Row.of_list _
    | true =>
      have hle : len + vs.length ≤ 4 ^ n := Nat.le_of_ble_eq_true hb
      simp only [cond_true, Row.list]
      apply List.ext_getElem?
      intro k
      by_cases hk : k < len
      · rw [List.getElem?_map, List.getElem?_range (by omega), Option.map_some, fillT_at hle (by omega), if_pos hk, List.getElem?_append_left (by simpa using hk), List.getElem?_map, List.getElem?_range hk]
        rfl
      · by_cases hk2 : k < len + vs.length
        · have hv : k - len < vs.length := by omega
          rw [List.getElem?_map, List.getElem?_range hk2, Option.map_some, fillT_at hle (by omega), if_neg hk, List.getElem?_append_right (by simp; omega)]
          simp [hv]
        · have : (((List.range len).map (treeAt n e)) ++ vs).length ≤ k := by simp; omega
          rw [List.getElem?_eq_none this]
          simp; omega
end row
/-- A block under its name: its cells, its element type, and whether its capacity is one that was drawn (then there may be more cells). -/
structure Blk where
  raw : Row
  elem : TypeId
  grow : Bool
noncomputable def Blk.cells (b : Blk) : List Value := b.raw.list
noncomputable def Blk.of (cs : List Value) (e : TypeId) (g : Bool) : Blk := ⟨Row.of cs, e, g⟩
theorem Blk.of_cells (cs : List Value) (e : TypeId) (g : Bool) : (Blk.of cs e g).cells = cs := Row.of_list cs
/-- Cells put in, from a place on. -/
noncomputable def Blk.putAll (b : Blk) (off : Nat) : List Value → Blk
  | [] => b
  | v :: vs => Blk.putAll ⟨b.raw.set off (toW v), b.elem, b.grow⟩ (off + 1) vs
/-- Cells put behind. -/
noncomputable def Blk.ext (b : Blk) (vs : List Value) : Blk := ⟨b.raw.ext vs, b.elem, b.grow⟩
theorem Blk.ext_cells (b : Blk) (vs : List Value) : (b.ext vs).cells = b.cells ++ vs := Row.ext_list vs b.raw
theorem Blk.length (b : Blk) : b.cells.length = b.raw.len := b.raw.list_length
/-- A map's entry: key, value, stamp. -/
structure Ent where
  key : Value
  val : Value
  born : Nat
/-- What lies under a name. -/
inductive Ob where
  | row (b : Blk)
  | map (es : List Ent) (clock : Nat)
/-- The blocks by their names. -/
structure Hp where
  t : T4 Ob
  next : Nat
def roomD : Nat := 8
def roomN : Nat := 65536
noncomputable def Hp.ob (h : Hp) (i : Nat) : Option Ob := bif Nat.blt i roomN then T4.get (path roomD i) h.t else none
noncomputable def Hp.get (h : Hp) (i : Nat) : Option Blk := match h.ob i with
  | some (.row b) => some b
  | _ => none
def obT : Option Ob → T4 Ob
  | some b => .leaf b
  | none => .nil
noncomputable def Hp.put (h : Hp) (i : Nat) (b : Option Ob) : Hp := ⟨T4.putN (obT b) roomD i h.t, h.next⟩
noncomputable def Hp.set (h : Hp) (i : Nat) (b : Blk) : Hp := h.put i (some (.row b))
noncomputable def Hp.allocOb (h : Hp) (b : Ob) : Option (Nat × Hp) := bif Nat.blt h.next roomN then some (h.next, ⟨T4.putN (.leaf b) roomD h.next h.t, h.next + 1⟩) else none
noncomputable def Hp.alloc (h : Hp) (b : Blk) : Option (Nat × Hp) := h.allocOb (.row b)

/-- What lies under a name, handed on. -/
noncomputable def Hp.find (h : Hp) (i : Nat) (k : Blk → Bool) : Bool := Bool.rec false (T4.find roomD i h.t fun o => Ob.rec (motive := fun _ => Bool) k (fun _ _ => false) o) (Nat.ble (Nat.succ i) roomN)
theorem Hp.find_get {h : Hp} {i : Nat} {k : Blk → Bool} (hf : h.find i k = true) : ∃ b, h.get i = some b ∧ k b = true := by
  unfold Hp.find at hf
  unfold Hp.get Hp.ob
  cases hb : Nat.ble (Nat.succ i) roomN with
  | false => rw [hb] at hf; cases hf
  | true =>
    rw [hb] at hf
    rw [show Nat.blt i roomN = true from hb]
    have h2 : (T4.find roomD i h.t fun o => Ob.rec (motive := fun _ => Bool) k (fun _ _ => false) o) = true := hf
    rw [T4.find_eq] at h2
    rw [cond_true]
    cases hg : T4.get (path roomD i) h.t with
    | none => rw [hg] at h2; cases h2
    | some o =>
      rw [hg] at h2
      cases o with
      | row b => exact ⟨b, rfl, h2⟩
      | map _ _ => cases h2

/-- A capacity that was drawn; one that is not known and is not asked for. -/
def capG : Nat := 2 ^ 80
def capX : Nat := 2 ^ 80 + 1

/-- A value of one cell that holds no address. -/
def leafB : Value → Bool
  | .bool _ | .int _ _ | .float _ _ | .string _ | .pointer none | .nilFunc | .nilIface => true
  | .slice none _ _ | .map none => true
  | _ => false
/-- A value that holds no address. -/
def flatB : Value → Bool
  | .agg cs => cs.toList.all leafB
  | .tuple vs => vs.toList.all fun v => match v with
    | .agg cs => cs.toList.all leafB
    | .tuple us => us.isEmpty
    | v => leafB v
  | v => leafB v
/-- A value of one cell. -/
def cellB : Value → Bool
  | .agg _ | .tuple _ => false
  | _ => true

/-- What a piece of the model tells that looks at no memory. -/
def pureRun {α : Type} (P : Program) : Sem α → Option α
  | .pure a => some a
  | .program k => pureRun P (k P)
  | .mark _ k => pureRun P k
  | _ => none

abbrev Tmps := List Value
def ev (τ : Tmps) : Operand → Value
  | .tmp t => τ.getD t undef
  | .const v => v
  | .global g => .pointer (some ⟨g, 0, none⟩)
  | .func f => .func (.func f) #[] #[]
/-- A constant holds no address. -/
def opdB : Operand → Bool
  | .const v => flatB v
  | .global _ => false
  | _ => true
def putT (τ : Tmps) (d : Option Tmp) (v : Value) : Tmps := match d with
  | some d => τ.set d v
  | none => τ

def aggQ (P : Program) (t : TypeId) : Option Bool := match P.underlying t with
  | some (.struct _) | some (.array _ _) => some true
  | some _ => some false
  | none => none
def szQ (P : Program) (t : TypeId) : Option Nat := (P.info? t).map (·.size)
def zeroQ (P : Program) (t : TypeId) : Option Value := match (P.info? t).bind (·.zero) with
  | some v => if flatB v then some v else none
  | none => none

/-- n cells from a place on. -/
noncomputable def cellsAt (h : Hp) (i off n : Nat) : Option (List Value) := match h.get i with
  | some b => bif Nat.ble (off + n) b.raw.len then some (b.raw.sub off n) else none
  | none => none
noncomputable def loadQ (P : Program) (h : Hp) (t : TypeId) : Value → Option Value
  | .pointer (some ⟨i, off, none⟩) => match aggQ P t, szQ P t with
    | some true, some n => (cellsAt h i off n).map fun cs => .agg cs.toArray
    | some false, _ => (h.get i).bind fun b => (b.raw.at off).map W.val
    | _, _ => none
  | _ => none
/-- Cells put in one by one, from a place on. -/
def setAll : List Value → Nat → List Value → List Value
  | cs, _, [] => cs
  | cs, n, v :: vs => setAll (cs.set n v) (n + 1) vs
noncomputable def storeCellsL (h : Hp) (i off : Nat) (vs : List Value) : Option Hp := match vs with
  | [] => some h
  | _ => match h.get i with
    | some b => bif Nat.ble (off + vs.length) b.raw.len && vs.all cellB then some (h.set i (b.putAll off vs)) else none
    | none => none
noncomputable def storeL (P : Program) (h : Hp) (t : TypeId) (a v : Value) : Option Hp := match a, szQ P t with
  | .pointer (some ⟨i, off, none⟩), some n => if v.cells.size = n then storeCellsL h i off v.cells.toList else none
  | _, _ => none

def intV : Value → Option Int
  | .int _ n => some n
  | _ => none
/-- A bound of a slice expression. -/
def boundQ (v : Option Value) (d top : Nat) : Option Nat := match v with
  | none => some d
  | some (.int _ n) => if 0 ≤ n ∧ n ≤ (top : Int) then some n.toNat else none
  | some _ => none
def sliceQ (P : Program) (t : TypeId) (x : Value) (lo hi mx : Option Value) : Option Value := match P.underlying t, x with
  | some .string, .string s => if mx.isSome then none else
      (boundQ hi s.size s.size).bind fun h => (boundQ lo 0 h).bind fun l => some (.string ⟨((s.data.toList.drop l).take (h - l)).toArray⟩)
  | some (.slice e), .slice none 0 0 =>
      (boundQ mx 0 0).bind fun m => (boundQ hi 0 m).bind fun h => (boundQ lo 0 h).bind fun _ => if mx.isSome && hi.isNone then none else (szQ P e).bind fun _ => some (.slice none 0 0)
  | some (.slice e), .slice (some ⟨i, off, none⟩) len cap => match mx with
      | some _ => (boundQ mx 0 (if cap < capG then cap else len)).bind fun m => (boundQ hi 0 m).bind fun h => (boundQ lo 0 h).bind fun l =>
          if hi.isNone || capG ≤ m then none else (szQ P e).bind fun z => some (.slice (some ⟨i, if m = l then off else off + l * z, none⟩) (h - l) (m - l))
      | none => (boundQ hi len (if cap < capG then cap else len)).bind fun h => (boundQ lo 0 h).bind fun l => (szQ P e).bind fun z =>
          if cap < capG then some (.slice (some ⟨i, if cap = l then off else off + l * z, none⟩) (h - l) (cap - l))
          else if l = 0 then some (.slice (some ⟨i, off, none⟩) h cap)
          else if l < len then some (.slice (some ⟨i, off + l * z, none⟩) (h - l) capX) else none
  | some (.array n e), .pointer (some ⟨i, off, none⟩) =>
      (boundQ mx n n).bind fun m => (boundQ hi m m).bind fun h => (boundQ lo 0 h).bind fun l => if mx.isSome && hi.isNone || capG ≤ n then none else (szQ P e).bind fun z =>
        some (.slice (some ⟨i, if m = l then off else off + l * z, none⟩) (h - l) (m - l))
  | _, _ => none
def fieldAddrQ (P : Program) (s : TypeId) (x : Value) (f : Nat) : Option Value := match P.underlying s, x with
  | some (.struct fields), .pointer (some ⟨i, off, none⟩) => match fields[f]? with
    | some fd => match szQ P fd.type with
      | some (_ + 1) => some (.pointer (some ⟨i, off + fd.offset, none⟩))
      | _ => none
    | none => none
  | _, _ => none
def partQ (P : Program) (t : TypeId) (cs : Array Value) (off : Nat) : Option Value := match aggQ P t, szQ P t with
  | some true, some n => some (.agg (cs.toList.drop off |>.take n).toArray)
  | some false, _ => cs.toList[off]?
  | _, _ => none
def fieldQ (P : Program) (t : TypeId) (x : Value) (f : Nat) : Option Value := match P.underlying t, x with
  | some (.struct fields), .agg cs => match fields[f]? with
    | some fd => partQ P fd.type cs fd.offset
    | none => none
  | _, _ => none
def indexAddrQ (P : Program) (t : TypeId) (x ix : Value) : Option Value := match P.underlying t, x, ix with
  | some (.slice e), .slice (some ⟨i, off, none⟩) len _, .int _ n => if 0 ≤ n ∧ n < (len : Int) then (szQ P e).map fun z => .pointer (some ⟨i, off + n.toNat * z, none⟩) else none
  | some (.array len e), .pointer (some ⟨i, off, none⟩), .int _ n => if 0 ≤ n ∧ n < (len : Int) then (szQ P e).map fun z => .pointer (some ⟨i, off + n.toNat * z, none⟩) else none
  | _, _, _ => none
def indexQ (P : Program) (t : TypeId) (x ix : Value) : Option Value := match P.underlying t, x, ix with
  | some (.array len e), .agg cs, .int _ n => if 0 ≤ n ∧ n < (len : Int) then (szQ P e).bind fun z => partQ P e cs (n.toNat * z) else none
  | some .string, .string s, .int _ n => if 0 ≤ n then (s.data.toList[n.toNat]?).map fun b => .int .u8 b.toNat else none
  | _, _, _ => none
/-- '==' with a nil that is written. -/
def nilEqQ (d : TypeDesc) (u v : Value) : Option Bool := match d, u, v with
  | .pointer _, .pointer (some _), .pointer none | .pointer _, .pointer none, .pointer (some _) => some false
  | .slice _, .slice (some _) _ _, .slice none _ _ | .slice _, .slice none _ _, .slice (some _) _ _ => some false
  | .func .., .func _ _ _, .nilFunc | .func .., .nilFunc, .func _ _ _ => some false
  | _, _, _ => none
def binQ (P : Program) (op : BinOp) (t : TypeId) (x y : Operand) (u v : Value) : Option Value :=
  match u, v with
  | .int _ _, .int _ _ => (pureRun P (binOp op t u v)).bind fun r => if leafB r then some r else none
  | .string a, .string b => match op with
    | .add => if a.size + b.size < 2 ^ 40 then some (.string ⟨(a.data.toList ++ b.data.toList).toArray⟩) else none
    | .eql => some (.bool (a.data.toList == b.data.toList))
    | .neq => some (.bool (!(a.data.toList == b.data.toList)))
    | .lss => some (.bool (Op.bytesLess a.data.toList b.data.toList))
    | .leq => some (.bool (Op.bytesLess a.data.toList b.data.toList || a.data.toList == b.data.toList))
    | .gtr => some (.bool !(Op.bytesLess a.data.toList b.data.toList || a.data.toList == b.data.toList))
    | .geq => some (.bool !(Op.bytesLess a.data.toList b.data.toList))
    | _ => none
  | _, _ =>
    if flatB u && flatB v then (pureRun P (do eqGuard op t x y u v; binOp op t u v)).bind fun r => if leafB r then some r else none
    else (P.underlying t).bind fun d => match op with
      | .eql => (nilEqQ d u v).map .bool
      | .neq => (nilEqQ d u v).map fun b => .bool !b
      | _ => none
/-- Pointers to the same place. -/
def samePtr (P : Program) (op : BinOp) (t : TypeId) (u v : Value) : Option Value := match u, v with
  | .pointer (some ⟨i, o, none⟩), .pointer (some ⟨j, p, none⟩) => match P.underlying t with
    | some (.pointer e) => if i = j ∧ o = p ∧ (szQ P e).isSome then (match op with
      | .eql => some (.bool true)
      | .neq => some (.bool false)
      | _ => none) else none
    | _ => none
  | _, _ => none
def binP (P : Program) (op : BinOp) (t : TypeId) (x y : Operand) (u v : Value) : Option Value := match samePtr P op t u v with
  | some r => some r
  | none => binQ P op t x y u v
def bytesOf : List Value → Option (List UInt8)
  | [] => some []
  | .int .u8 n :: vs => (bytesOf vs).map (UInt8.ofNat n.toNat :: ·)
  | _ => none
noncomputable def convQ (P : Program) (h : Hp) (src dst : TypeId) (v : Value) : Option Value := match P.underlying src, P.underlying dst, v with
  | some (.slice e), some .string, .slice none _ _ => match P.underlying e with
    | some (.int .u8) => some (.string ⟨#[]⟩)
    | _ => none
  | some (.slice e), some .string, .slice (some ⟨i, off, none⟩) len _ => match P.underlying e with
    | some (.int .u8) => ((cellsAt h i off len).bind bytesOf).map fun bs => .string ⟨bs.toArray⟩
    | _ => none
  | _, _, v => if leafB v then (pureRun P (convert src dst v)).bind fun r => if leafB r then some r else none else none
/-- Bytes, each below 256. -/
def bytesX : List Value → Option (List UInt8)
  | [] => some []
  | .int .u8 (.ofNat n) :: vs => if n < 256 then (bytesX vs).map (UInt8.ofNat n :: ·) else none
  | _ => none
/-- A pointer as one without a type, and back. -/
noncomputable def convP (P : Program) (h : Hp) (src dst : TypeId) (v : Value) : Option Value := match v with
  | .pointer (some ⟨i, off, none⟩) => match P.underlying src, P.underlying dst with
    | some (.pointer t), some .unsafePointer => match szQ P t, h.get i with
      | some (_ + 1), some b => bif Nat.blt off b.raw.len then some v else none
      | _, _ => none
    | some .unsafePointer, some (.pointer u) => match szQ P u, h.get i with
      | some _, some b => bif !b.grow && liesAt P P.depth b.elem (b.raw.len / P.cellsOf b.elem) off u 1 then some v else none
      | _, _ => none
    | _, _ => none
  | v => convQ P h src dst v
def allQ : List (Option Value) → Option (List Value)
  | [] => some []
  | some v :: vs => (allQ vs).map (v :: ·)
  | none :: _ => none

/-- The place of a key among a map's entries, and what lies there. -/
def findQ (k : Value) : List Ent → Nat → Option (Option (Nat × Value))
  | [], _ => some none
  | e :: es, i => match k, e.key with
    | .int j a, .int j' b => if j = j' then if a = b then some (some (i, e.val)) else findQ k es (i + 1) else none
    | .string a, .string b => if a.data.toList = b.data.toList then some (some (i, e.val)) else findQ k es (i + 1)
    | _, _ => none
def keyB (P : Program) (t : TypeId) (k : Value) : Bool := match P.underlying t, k with
  | some (.int j), .int j' _ => j = j'
  | some .string, .string _ => true
  | _, _ => false
noncomputable def lookupQ (P : Program) (h : Hp) (t : TypeId) (m k : Value) (ok : Bool) : Option Value := match P.underlying t with
  | some (.map kt et) => if keyB P kt k then (match m with
      | .map none => some []
      | .map (some r) => match h.ob r with
        | some (.map es _) => some es
        | _ => none
      | _ => none).bind fun es => (findQ k es 0).bind fun r => (match r with
      | some (_, v) => some (v, true)
      | none => (zeroQ P et).map fun z => (z, false)).map fun (v, b) => if ok then .tuple #[v, .bool b] else v
    else none
  | _ => none
noncomputable def updateL (P : Program) (h : Hp) (t : TypeId) (m k v : Value) : Option Hp := match P.underlying t, m with
  | some (.map kt _), .map (some r) => if keyB P kt k then match h.ob r with
      | some (.map es clock) => (findQ k es 0).map fun f => match f with
        | some (i, _) => h.put r (some (.map (es.modify i fun e => { e with val := v }) clock))
        | none => h.put r (some (.map (es ++ [⟨k, v, clock⟩]) (clock + 1)))
      | _ => none
    else none
  | _, _ => none
/-- What an operation yields that changes nothing. -/
noncomputable def opQ (P : Program) (h : Hp) (η : Operand → Value) (o : Op) : Option Value := match o with
  | .move x | .assign x => some (η x)
  | .pick c a b => match η c with
    | .bool t => some (if t then η a else η b)
    | _ => none
  | .load t a => loadQ P h t (η a)
  | .nilCheck x => match η x with
    | .pointer (some a) => some (.pointer (some a))
    | .func (.func f) a b => some (.func (.func f) a b)
    | _ => none
  | .binOp op t x y _ => binP P op t x y (η x) (η y)
  | .unOp op _ x => if leafB (η x) then (pureRun P (Op.unary op (η x))).bind fun r => if leafB r then some r else none else none
  | .convert src dst x => convP P h src dst (η x)
  | .sliceToArrayPointer t x => match P.underlying t, η x with
    | some (.array n _), .slice (some a) len _ => if n ≤ len then some (.pointer (some a)) else none
    | _, _ => none
  | .makeFunc (.func f) first captured => some (.func (.func f) (first.map η) (captured.map η))
  | .slice t x lo hi mx => sliceQ P t (η x) (lo.map η) (hi.map η) (mx.map η)
  | .fieldAddr s x f => fieldAddrQ P s (η x) f
  | .field t x f => fieldQ P t (η x) f
  | .indexAddr t x ix => indexAddrQ P t (η x) (η ix)
  | .index t x ix => indexQ P t (η x) (η ix)
  | .lookup t m k ok => lookupQ P h t (η m) (η k) ok
  | .extract t ix => match η t with
    | .tuple vs => vs.toList[ix]?
    | _ => none
  | .build t parts => match zeroQ P t, P.underlying t with
    | some z, some (.struct fields) => if fields.toList.all fun f => (szQ P f.type).isSome then
      (Instr.fill (fun i => (fields[i]?).map fun f => (f.offset, (szQ P f.type).getD 0)) z.cells (parts.toList.map fun (i, x) => (i, η x))).map .agg else none
    | some z, some (.array _ e) => (szQ P e).bind fun n =>
      (Instr.fill (fun i => some (i * n, n)) z.cells (parts.toList.map fun (i, x) => (i, η x))).map .agg
    | _, _ => none
  | .call { callee := .builtin .len, args, argTypes } => match args.toList, argTypes[0]? with
    | [x], some t => match P.underlying t, η x with
      | some .string, .string s => some (goInt s.size)
      | some (.slice _), .slice _ n _ => some (goInt n)
      | some (.array n _), _ => some (goInt n)
      | _, _ => none
    | _, _ => none
  | .call { callee := .builtin .cap, args, argTypes } => match args.toList, argTypes[0]? with
    | [x], some t => match P.underlying t, η x with
      | some (.slice _), .slice _ _ n => if n < capG then some (goInt n) else none
      | _, _ => none
    | _, _ => none
  | .call { callee := .builtin .unsafeSliceData, args, argTypes := _ } => match args.toList with
    | [x] => match η x with
      | .slice (some ⟨i, off, none⟩) (_ + 1) _ => some (.pointer (some ⟨i, off, none⟩))
      | .slice none _ _ => some (.pointer none)
      | _ => none
    | _ => none
  | .call { callee := .builtin .max, args, argTypes := _ } => match args.toList with
    | [x, y] => match η x, η y with
      | .int k a, .int _ b => some (.int k (if b > a then b else a))
      | _, _ => none
    | _ => none
  | .call { callee := .builtin .min, args, argTypes := _ } => match args.toList with
    | [x, y] => match η x, η y with
      | .int k a, .int _ b => some (.int k (if b < a then b else a))
      | _, _ => none
    | _ => none
  | _ => none

/-- The cells of a zero value, n times. -/
def zerosL (z : List Value) : Nat → List Value
  | 0 => []
  | n + 1 => z ++ zerosL z n
def bytesQ (P : Program) (t : TypeId) : Option Nat := (P.info? t).map (·.bytes)
noncomputable def appendL (P : Program) (h : Hp) (elem : TypeId) (base : Option Addr) (len cap : Nat) (new : List Value) (n : Nat) : Option (Value × Hp) :=
  (szQ P elem).bind fun z => (bytesQ P elem).bind fun bs => (zeroQ P elem).bind fun zv =>
  if z = 0 || zv.cells.size ≠ z || !(new.all cellB) || new.length ≠ n * z || 2 ^ 24 < len + n || bs = 0 || 2 ^ 20 < bs then none else
  match base with
  | none => if len = 0 ∧ cap = 0 then (if n = 0 then some (.slice none 0 0, h) else (h.alloc (Blk.of new elem true)).map fun (j, h') => (.slice (some ⟨j, 0, none⟩) n capG, h')) else none
  | some ⟨i, off, none⟩ =>
    if n = 0 then some (.slice (some ⟨i, off, none⟩) len cap, h)
    else if cap < capG then
      if len + n ≤ cap then (storeCellsL h i (off + len * z) new).map fun h' => (.slice (some ⟨i, off, none⟩) (len + n) cap, h')
      else (cellsAt h i off (len * z)).bind fun old => (h.alloc (Blk.of (old ++ new) elem true)).map fun (j, h') => (.slice (some ⟨j, 0, none⟩) (len + n) capG, h')
    else if cap = capG then match h.get i with
      | some b => if b.grow && b.elem = elem && b.raw.len = len * z then ((h.put i none).alloc (b.ext new)).map fun (j, h') => (.slice (some ⟨j, 0, none⟩) (len + n) capG, h') else none
      | none => none
    else none
  | _ => none
/-- The first cells of what is appended or copied. -/
noncomputable def firstQ (h : Hp) (z n : Nat) : Value → Option (List Value)
  | .slice none _ _ => some []
  | .slice (some ⟨i, off, none⟩) _ _ => cellsAt h i off (n * z)
  | .string s => some ((s.data.toList.take n).map fun b => .int .u8 b.toNat)
  | _ => none
def lenQ : Value → Option Nat
  | .slice _ n _ => some n
  | .string s => some s.size
  | _ => none
/-- What an operation yields that makes or writes memory. -/
noncomputable def opL (P : Program) (h : Hp) (η : Operand → Value) (o : Op) : Option (Value × Hp) := match o with
  | .alloc e => (zeroQ P e).bind fun z => (h.alloc (Blk.of z.cells.toList e false)).map fun (i, h') => (.pointer (some ⟨i, 0, none⟩), h')
  | .box e x => (h.alloc (Blk.of (η x).cells.toList e false)).map fun (i, h') => (.pointer (some ⟨i, 0, none⟩), h')
  | .buildSlice t len parts => match P.underlying t with
    | some (.slice e) => (szQ P e).bind fun n => (zeroQ P e).bind fun z => if 2 ^ 24 < len * n || z.cells.size ≠ n || 2 ^ 24 < len then none else
      (Instr.fill (fun i => some (i * n, n)) (zerosL z.cells.toList len).toArray (parts.toList.map fun (i, x) => (i, η x))).bind fun cells =>
        (h.alloc (Blk.of cells.toList e false)).map fun (i, h') => (.slice (some ⟨i, 0, none⟩) len len, h')
    | _ => none
  | .store t a x => (storeL P h t (η a) (η x)).map fun h' => (undef, h')
  | .makeMap _ none => (h.allocOb (.map [] 0)).map fun (i, h') => (.map (some i), h')
  | .mapUpdate t m k x | .insert t m k x => (updateL P h t (η m) (η k) (η x)).map fun h' => (undef, h')
  | .makeSlice t l c => match P.underlying t, η l, η c with
    | some (.slice e), .int _ n, .int _ m => (szQ P e).bind fun z => (zeroQ P e).bind fun v =>
      if 0 ≤ n ∧ n ≤ m ∧ m ≤ 2 ^ 20 ∧ (bytesQ P e).getD (2 ^ 30) ≤ 2 ^ 20 ∧ v.cells.size = z then
        (h.alloc (Blk.of (zerosL v.cells.toList m.toNat) e false)).map fun (i, h') => (.slice (some ⟨i, 0, none⟩) n.toNat m.toNat, h')
      else none
    | _, _, _ => none
  | .convert src dst x => match P.underlying src, P.underlying dst, η x with
    | some .string, some (.slice e), .string s => match P.underlying e with
      | some (.int .u8) => if s.size ≤ 2 ^ 20 ∧ szQ P e = some 1 then (h.alloc (Blk.of (s.data.toList.map fun b => .int .u8 b.toNat) e true)).map fun (i, h') => (.slice (some ⟨i, 0, none⟩) s.size capG, h') else none
      | _ => none
    | _, _, _ => none
  | .call { callee := .builtin .append, args, argTypes } => match args.toList, argTypes.toList with
    | [s, x], [ts, tx] => match P.underlying ts, P.underlying tx, η s with
      | some (.slice e), some (.slice _), .slice base len cap => (szQ P e).bind fun z => (lenQ (η x)).bind fun n => (firstQ h z n (η x)).bind fun new => appendL P h e base len cap new n
      | some (.slice e), some (.int _), .slice base len cap => match η x with
        | .int _ m => if 0 ≤ m ∧ m ≤ 2 ^ 20 then (zeroQ P e).bind fun z => appendL P h e base len cap (zerosL z.cells.toList m.toNat) m.toNat else none
        | _ => none
      | some (.slice e), some .string, .slice base len cap => (szQ P e).bind fun z => (lenQ (η x)).bind fun n => (firstQ h z n (η x)).bind fun new => appendL P h e base len cap new n
      | _, _, _ => none
    | _, _ => none
  | .call { callee := .builtin .copy, args, argTypes } => match args.toList, argTypes[0]? with
    | [d, s], some t => match P.underlying t, η d with
      | some (.slice e), .slice base len _ => (szQ P e).bind fun z => (lenQ (η s)).bind fun m => let n := min m len
        (firstQ h z n (η s)).bind fun cs => match base with
          | none => some (goInt n, h)
          | some ⟨i, off, none⟩ => (storeCellsL h i off cs).map fun h' => (goInt n, h')
          | _ => none
      | _, _ => none
    | _, _ => none
  | .call { callee := .builtin .unsafeString, args, argTypes } => match args.toList, argTypes.toList with
    | [x, y], [pt, _] => match P.underlying pt, η x, η y with
      | some (.pointer e), .pointer (some ⟨i, 0, none⟩), .int .i64 (.ofNat n) => match h.get i with
        | some b => if b.elem = e ∧ P.cellsOf e = 1 ∧ 0 < n ∧ n ≤ 9223372036854775807 then ((cellsAt h i 0 n).bind bytesX).map fun bs => (.string ⟨bs.toArray⟩, h.put i none) else none
        | none => none
      | _, _, _ => none
    | _, _ => none
  | .call { callee := .builtin .clear, args, argTypes } => match args.toList, argTypes[0]? with
    | [s], some t => match P.underlying t, η s with
      | some (.slice _), .slice none _ _ => some (.tuple #[], h)
      | some (.slice e), .slice (some ⟨i, off, none⟩) n _ => (zeroQ P e).bind fun v => (storeCellsL h i off (zerosL v.cells.toList n)).map fun h' => (.tuple #[], h')
      | _, _ => none
    | _, _ => none
  | _ => none

/-- A call's function and arguments. -/
noncomputable def calleeQ (η : Operand → Value) : Op → Option (FuncId × List Value)
  | .call { callee := .value f, args, .. } => match η f with
    | .func (.func g) first captured => some (g, first.toList ++ args.toList.map η ++ captured.toList)
    | _ => none
  | _ => none
end Go.Proofs.YtlagmjdifilheaaGreat.Exe
