/- Texts in one: Methods that are called by way of an interface: the type, the method, how deep the receiver lies (0: the value, 1: its one part), the function. · An executor over an abstract heap: what a function of a program does at given arguments, by names for the blocks and not their numbers. Definitions alone; no condition. · What a value by names stands for: the relation to values by numbers, and the laws of it. No condition. · A world by names: what lies under each name, and that nothing that was there has turned; stores, new blocks. No condition. · Operations that change nothing: what the executor tells of them is what the model does. No condition. · More operations that change nothing, and all of them: what the executor tells of them is what the model does. No condition. · Maps, literals, len and cap; and all operations that change nothing. No condition. · All operations that change nothing. No condition. · Operations that make or write memory, but for append: what the executor tells of them is what the model does. No condition. · append: what the executor tells of it is what the model does. No condition. · append by names, and all operations that make or write memory. No condition. · All operations that make or write memory. No condition. · All operations that make or write memory. No condition. · The executor once more, made for the kernel: the slots in a tree, each operation read once, what comes next handed on as a function. Definitions alone; no condition. -/
import GoSem.Dispatch
import Derived.WalkKit
import Derived.Below
import Derived.Lib.Hide
import Derived.RangeFuncRecord
import Derived.Lib.Builder
import Derived.Laws.BytesString
import Derived.Laws.Cover3
import Derived.Lib.UnsafeStr
import Derived.Laws.Append
namespace Go.Proofs.YtphfjhpgcdmonaaGreatDoor.Exe
open Go
def methTab : List (TypeId × String × Nat × FuncId) :=
(258, "Start", 1, 394) ::
(253, "Start", 1, 315) ::
  []
end Go.Proofs.YtphfjhpgcdmonaaGreatDoor.Exe
namespace Go.Proofs.YtphfjhpgcdmonaaGreatDoor.Exe
open Go Go.RowKit

/-- A value, the commonest ones set apart. -/
inductive W where
  | u (n : Nat)
  | i (n : Nat)
  | b (t : Bool)
  | p (blk off : Nat)
  | o (v : Value)
def W.val : W → Value
  | .u n => .int .u64 (.ofNat n)
  | .i n => .int .i64 (.ofNat n)
  | .b t => .bool t
  | .p blk off => .pointer (some ⟨blk, off, none⟩)
  | .o v => v
def toW (v : Value) : W := match v with
  | .int k n => match k, n with
    | .u64, .ofNat n => .u n
    | .i64, .ofNat n => .i n
    | _, _ => .o v
  | .bool t => .b t
  | .pointer q => match q with
    | some ⟨i, off, none⟩ => .p i off
    | _ => .o v
  | v => .o v
theorem toW_val (v : Value) : (toW v).val = v := by
  unfold toW
  split
  · split <;> rfl
  · rfl
  · split <;> rfl
  · rfl

noncomputable def normW (x : W) : W := W.rec (motive := fun _ => W) (fun n => .u n) (fun n => .i n) (fun t => .b t) (fun i off => .p i off) (fun v => toW v) x
theorem normW_val (x : W) : (normW x).val = x.val := by
  cases x with
  | o v => exact toW_val v
  | _ => rfl

/-- Trees of four branches each, and the roads in them. -/
inductive Dg where
  | d0 | d1 | d2 | d3
inductive T4 (α : Type) where
  | nil
  | leaf (v : α)
  | n4 (p q r s : T4 α)
noncomputable def dg (n : Nat) : Dg := Nat.rec .d0 (fun m _ => Nat.rec .d1 (fun m' _ => Nat.rec .d2 (fun _ _ => .d3) m') m) n
noncomputable def path (n : Nat) : Nat → List Dg := Nat.rec (motive := fun _ => Nat → List Dg) (fun _ => []) (fun _ ih t => dg (Nat.mod t 4) :: ih (Nat.div t 4)) n
noncomputable def T4.get {α : Type} (l : List Dg) : T4 α → Option α := List.rec (motive := fun _ => T4 α → Option α)
  (fun t => T4.rec (motive := fun _ => Option α) none (fun v => some v) (fun _ _ _ _ _ _ _ _ => none) t)
  (fun d _ ih t => T4.rec (motive := fun _ => Option α) none (fun _ => none) (fun p q r s _ _ _ _ => Dg.rec (motive := fun _ => Option α) (ih p) (ih q) (ih r) (ih s) d) t) l
noncomputable def T4.put {α : Type} (v : T4 α) (l : List Dg) : T4 α → T4 α := List.rec (motive := fun _ => T4 α → T4 α) (fun _ => v)
  (fun d _ ih t => T4.rec (motive := fun _ => T4 α)
    (Dg.rec (motive := fun _ => T4 α) (.n4 (ih .nil) .nil .nil .nil) (.n4 .nil (ih .nil) .nil .nil) (.n4 .nil .nil (ih .nil) .nil) (.n4 .nil .nil .nil (ih .nil)) d)
    (fun _ => Dg.rec (motive := fun _ => T4 α) (.n4 (ih .nil) .nil .nil .nil) (.n4 .nil (ih .nil) .nil .nil) (.n4 .nil .nil (ih .nil) .nil) (.n4 .nil .nil .nil (ih .nil)) d)
    (fun p q r s _ _ _ _ => Dg.rec (motive := fun _ => T4 α) (.n4 (ih p) q r s) (.n4 p (ih q) r s) (.n4 p q (ih r) s) (.n4 p q r (ih s)) d) t) l
/-- How deep a tree is that has room for so many. -/
def deep (L : Nat) : Nat := bif L.ble 4 then 1 else bif L.ble 16 then 2 else bif L.ble 64 then 3 else bif L.ble 256 then 4 else bif L.ble 1024 then 5 else bif L.ble 4096 then 6 else bif L.ble 16384 then 7 else 12

/-- The same by numbers. -/
noncomputable def T4.find {α : Type} (n : Nat) : Nat → T4 α → (α → Bool) → Bool := Nat.rec (motive := fun _ => Nat → T4 α → (α → Bool) → Bool)
  (fun _ t k => T4.rec (motive := fun _ => Bool) false k (fun _ _ _ _ _ _ _ _ => false) t)
  (fun _ ih i t k => T4.rec (motive := fun _ => Bool) false (fun _ => false) (fun p q r s _ _ _ _ => Nat.rec (motive := fun _ => Bool) (ih (Nat.div i 4) p k) (fun m _ => Nat.rec (motive := fun _ => Bool) (ih (Nat.div i 4) q k) (fun m' _ => Nat.rec (motive := fun _ => Bool) (ih (Nat.div i 4) r k) (fun _ _ => ih (Nat.div i 4) s k) m') m) (Nat.mod i 4)) t) n
noncomputable def T4.putN {α : Type} (v : T4 α) (n : Nat) : Nat → T4 α → T4 α := Nat.rec (motive := fun _ => Nat → T4 α → T4 α) (fun _ _ => v)
  (fun _ ih i t => T4.rec (motive := fun _ => T4 α)
    (Nat.rec (motive := fun _ => T4 α) (.n4 (ih (Nat.div i 4) .nil) .nil .nil .nil) (fun m _ => Nat.rec (motive := fun _ => T4 α) (.n4 .nil (ih (Nat.div i 4) .nil) .nil .nil) (fun m' _ => Nat.rec (motive := fun _ => T4 α) (.n4 .nil .nil (ih (Nat.div i 4) .nil) .nil) (fun _ _ => .n4 .nil .nil .nil (ih (Nat.div i 4) .nil)) m') m) (Nat.mod i 4))
    (fun _ => Nat.rec (motive := fun _ => T4 α) (.n4 (ih (Nat.div i 4) .nil) .nil .nil .nil) (fun m _ => Nat.rec (motive := fun _ => T4 α) (.n4 .nil (ih (Nat.div i 4) .nil) .nil .nil) (fun m' _ => Nat.rec (motive := fun _ => T4 α) (.n4 .nil .nil (ih (Nat.div i 4) .nil) .nil) (fun _ _ => .n4 .nil .nil .nil (ih (Nat.div i 4) .nil)) m') m) (Nat.mod i 4))
    (fun p q r s _ _ _ _ => Nat.rec (motive := fun _ => T4 α) (.n4 (ih (Nat.div i 4) p) q r s) (fun m _ => Nat.rec (motive := fun _ => T4 α) (.n4 p (ih (Nat.div i 4) q) r s) (fun m' _ => Nat.rec (motive := fun _ => T4 α) (.n4 p q (ih (Nat.div i 4) r) s) (fun _ _ => .n4 p q r (ih (Nat.div i 4) s)) m') m) (Nat.mod i 4)) t) n

section tree
variable {α : Type}
theorem dg_cases {β : Type} (n : Nat) (a b c d : β) : (Nat.rec (motive := fun _ => β) a (fun m _ => Nat.rec (motive := fun _ => β) b (fun m' _ => Nat.rec (motive := fun _ => β) c (fun _ _ => d) m') m) n : β) = Dg.rec (motive := fun _ => β) a b c d (dg n) := by
  match n with
  | 0 | 1 | 2 | _ + 3 => rfl
theorem T4.find_eq : ∀ (n i : Nat) (t : T4 α) (k : α → Bool), T4.find n i t k = match T4.get (path n i) t with
    | some v => k v
    | none => false
  | 0, _, t, _ => by cases t <;> rfl
  | n + 1, i, t, k => by
    cases t with
    | nil => rfl
    | leaf v => rfl
    | n4 p q r s =>
      refine (dg_cases (i % 4) (T4.find n (i / 4) p k) (T4.find n (i / 4) q k) (T4.find n (i / 4) r k) (T4.find n (i / 4) s k)).trans ?_
      show _ = match T4.get (dg (i % 4) :: path n (i / 4)) (.n4 p q r s) with
        | some v => k v
        | none => false
      cases dg (i % 4) <;> exact T4.find_eq n (i / 4) _ k
theorem T4.putN_eq (v : T4 α) : ∀ (n i : Nat) (t : T4 α), T4.putN v n i t = T4.put v (path n i) t
  | 0, _, _ => rfl
  | n + 1, i, t => by
    show _ = T4.put v (dg (i % 4) :: path n (i / 4)) t
    have ih := T4.putN_eq v n (i / 4)
    cases t with
    | nil =>
      refine (dg_cases (i % 4) (T4.n4 (T4.putN v n (i / 4) .nil) .nil .nil .nil) (T4.n4 .nil (T4.putN v n (i / 4) .nil) .nil .nil) (T4.n4 .nil .nil (T4.putN v n (i / 4) .nil) .nil) (T4.n4 .nil .nil .nil (T4.putN v n (i / 4) .nil))).trans ?_
      rw [ih]
      rfl
    | leaf _ =>
      refine (dg_cases (i % 4) (T4.n4 (T4.putN v n (i / 4) .nil) .nil .nil .nil) (T4.n4 .nil (T4.putN v n (i / 4) .nil) .nil .nil) (T4.n4 .nil .nil (T4.putN v n (i / 4) .nil) .nil) (T4.n4 .nil .nil .nil (T4.putN v n (i / 4) .nil))).trans ?_
      rw [ih]
      rfl
    | n4 p q r s =>
      refine (dg_cases (i % 4) (T4.n4 (T4.putN v n (i / 4) p) q r s) (T4.n4 p (T4.putN v n (i / 4) q) r s) (T4.n4 p q (T4.putN v n (i / 4) r) s) (T4.n4 p q r (T4.putN v n (i / 4) s))).trans ?_
      rw [ih, ih, ih, ih]
      rfl
theorem T4.put_nil (v : T4 α) (t : T4 α) : T4.put v [] t = v := rfl
def T4.sub (d : Dg) : T4 α → T4 α
  | .n4 p q r s => match d with
    | .d0 => p
    | .d1 => q
    | .d2 => r
    | .d3 => s
  | _ => .nil
theorem T4.get_nil (l : List Dg) : T4.get l (.nil : T4 α) = none := by cases l <;> rfl
theorem T4.get_cons (d : Dg) (l : List Dg) (t : T4 α) : T4.get (d :: l) t = T4.get l (t.sub d) := by
  cases t with
  | nil => exact (T4.get_nil l).symm
  | leaf v => exact (T4.get_nil l).symm
  | n4 p q r s => cases d <;> rfl
theorem T4.sub_put (v : T4 α) (d : Dg) (l : List Dg) (t : T4 α) : (T4.put v (d :: l) t).sub d = T4.put v l (t.sub d) := by
  cases t <;> cases d <;> rfl
theorem T4.sub_put_ne (v : T4 α) {d d' : Dg} (hd : d' ≠ d) (l : List Dg) (t : T4 α) : (T4.put v (d :: l) t).sub d' = t.sub d' := by
  cases t <;> cases d <;> cases d' <;> first | rfl | exact absurd rfl hd
theorem T4.get_put_same (v : T4 α) : ∀ (l : List Dg) (t : T4 α), T4.get l (T4.put v l t) = T4.get [] v
  | [], _ => rfl
  | d :: l, t => by rw [T4.get_cons, T4.sub_put, T4.get_put_same v l]
theorem T4.get_put_other (v : T4 α) : ∀ (l l' : List Dg) (t : T4 α), l.length = l'.length → l' ≠ l → T4.get l' (T4.put v l t) = T4.get l' t
  | [], [], _, _, h => absurd rfl h
  | d :: l, d' :: l', t, hl, h => by
    rw [T4.get_cons, T4.get_cons]
    by_cases hd : d' = d
    · subst hd
      rw [T4.sub_put, T4.get_put_other v l l' _ (by simpa using hl) (fun e => h (by rw [e]))]
    · rw [T4.sub_put_ne v hd]
  | [], _ :: _, _, hl, _ => by simp at hl
  | _ :: _, [], _, hl, _ => by simp at hl
theorem path_zero (t : Nat) : path 0 t = [] := rfl
theorem path_succ (n t : Nat) : path (n + 1) t = dg (t % 4) :: path n (t / 4) := rfl
theorem path_length : ∀ n t, (path n t).length = n
  | 0, _ => rfl
  | n + 1, t => by rw [path_succ, List.length_cons, path_length n]
theorem dg_inj {a b : Nat} (ha : a < 4) (hb : b < 4) (h : dg a = dg b) : a = b := by
  match a, b, ha, hb with
  | 0, 0, _, _ | 1, 1, _, _ | 2, 2, _, _ | 3, 3, _, _ => rfl
  | 0, 1, _, _ | 0, 2, _, _ | 0, 3, _, _ | 1, 0, _, _ | 1, 2, _, _ | 1, 3, _, _ | 2, 0, _, _ | 2, 1, _, _ | 2, 3, _, _ | 3, 0, _, _ | 3, 1, _, _ | 3, 2, _, _ => exact Dg.noConfusion h
theorem path_inj : ∀ (n a b : Nat), a < 4 ^ n → b < 4 ^ n → path n a = path n b → a = b
  | 0, a, b, ha, hb, _ => by simp at ha hb; omega
  | n + 1, a, b, ha, hb, h => by
    rw [path_succ, path_succ] at h
    injection h with h1 h2
    have e1 := dg_inj (Nat.mod_lt a (by omega)) (Nat.mod_lt b (by omega)) h1
    rw [Nat.pow_succ] at ha hb
    have e2 := path_inj n (a / 4) (b / 4) (by omega) (by omega) h2
    omega
theorem T4.get_leaf (v : α) : T4.get [] (.leaf v) = some v := rfl
theorem T4.get_none : T4.get [] (.nil : T4 α) = none := rfl
theorem T4.path_same (v : T4 α) (n i : Nat) (t : T4 α) : T4.get (path n i) (T4.put v (path n i) t) = T4.get [] v := T4.get_put_same v _ t
theorem T4.path_other (v : T4 α) {n i j : Nat} (hi : i < 4 ^ n) (hj : j < 4 ^ n) (h : j ≠ i) (t : T4 α) : T4.get (path n j) (T4.put v (path n i) t) = T4.get (path n j) t :=
  T4.get_put_other v _ _ t (by rw [path_length, path_length]) (fun e => h (path_inj n j i hj hi e))
theorem deep_ok {L : Nat} (h : L < 2 ^ 24) : L ≤ 4 ^ deep L := by
  unfold deep
  have c : ∀ a b : Nat, a.ble b = true ↔ a ≤ b := fun a b => ⟨Nat.le_of_ble_eq_true, Nat.ble_eq_true_of_le⟩
  by_cases h1 : L.ble 4 = true
  · rw [h1]; exact (c _ _).1 h1
  rw [Bool.eq_false_iff.2 h1]
  by_cases h1 : L.ble 16 = true
  · rw [h1]; exact (c _ _).1 h1
  rw [Bool.eq_false_iff.2 h1]
  by_cases h1 : L.ble 64 = true
  · rw [h1]; exact (c _ _).1 h1
  rw [Bool.eq_false_iff.2 h1]
  by_cases h1 : L.ble 256 = true
  · rw [h1]; exact (c _ _).1 h1
  rw [Bool.eq_false_iff.2 h1]
  by_cases h1 : L.ble 1024 = true
  · rw [h1]; exact (c _ _).1 h1
  rw [Bool.eq_false_iff.2 h1]
  by_cases h1 : L.ble 4096 = true
  · rw [h1]; exact (c _ _).1 h1
  rw [Bool.eq_false_iff.2 h1]
  by_cases h1 : L.ble 16384 = true
  · rw [h1]; exact (c _ _).1 h1
  rw [Bool.eq_false_iff.2 h1]
  show L ≤ 4 ^ 12
  omega
end tree
attribute [irreducible] T4.get T4.put path T4.find T4.putN

/-- A row of cells: a list, or a tree of so many. -/
inductive Row where
  | l (cs : List Value)
  | t (n len : Nat) (e : T4 W)
noncomputable def treeAt (n : Nat) (e : T4 W) (i : Nat) : Value := match T4.get (path n i) e with
  | some v => v.val
  | none => undef
noncomputable def Row.list : Row → List Value
  | .l cs => cs
  | .t n len e => (List.range len).map (treeAt n e)
def Row.len : Row → Nat
  | .l cs => cs.length
  | .t _ len _ => len
noncomputable def Row.at (i : Nat) : Row → Option W
  | .l cs => (cs[i]?).map toW
  | .t n len e => bif Nat.blt i len then (match T4.get (path n i) e with
    | some v => some (normW v)
    | none => some (.o undef)) else none
noncomputable def Row.set (i : Nat) (v : W) (r : Row) : Row := match r with
  | .l cs => .l (cs.set i v.val)
  | .t n len e => bif Nat.ble len (4 ^ n) then .t n len (T4.putN (.leaf v) n i e) else .l ((Row.t n len e).list.set i v.val)
noncomputable def Row.sub (off k : Nat) (r : Row) : List Value := match r with
  | .l cs => (cs.drop off).take k
  | .t n len e => bif Nat.ble (off + k) len then (List.range k).map (fun i => treeAt n e (off + i)) else ((Row.t n len e).list.drop off).take k
noncomputable def fillT (n : Nat) : Nat → List Value → T4 W → T4 W
  | _, [], e => e
  | k, v :: vs, e => fillT n (k + 1) vs (T4.putN (.leaf (toW v)) n k e)
/-- The same for cells: what they are is looked at where they are read. -/
noncomputable def fillR (n : Nat) : Nat → List Value → T4 W → T4 W
  | _, [], e => e
  | k, v :: vs, e => fillR n (k + 1) vs (T4.putN (.leaf (.o v)) n k e)
noncomputable def Row.of (cs : List Value) : Row := let n := cs.length
  bif Nat.ble n 8 then .l cs else bif Nat.blt n 16777216 then .t (deep n) n (fillR (deep n) 0 cs .nil) else .l cs
noncomputable def Row.ext (vs : List Value) (r : Row) : Row := match r with
  | .l cs => Row.of (cs ++ vs)
  | .t n len e => bif Nat.ble (len + vs.length) (4 ^ n) then .t n (len + vs.length) (fillR n len vs e) else Row.of ((Row.t n len e).list ++ vs)
/-- The cell at a place, handed on. -/
noncomputable def Row.find (i : Nat) (r : Row) (k : W → Bool) : Bool := Row.rec (motive := fun _ => Bool)
  (fun cs => match cs[i]? with
    | some v => k (toW v)
    | none => false)
  (fun n len e => Bool.rec false (T4.find n i e fun w => k (normW w)) (Nat.ble (Nat.succ i) len)) r
section row
theorem Row.find_at {r : Row} {i : Nat} {k : W → Bool} (h : r.find i k = true) : ∃ v, r.at i = some v ∧ k v = true := by
  cases r with
  | l cs =>
    have h' : (match cs[i]? with
      | some v => k (toW v)
      | none => false) = true := h
    cases hc : cs[i]? with
    | none => rw [hc] at h'; cases h'
    | some v =>
      rw [hc] at h'
      exact ⟨toW v, by simp [Row.at, hc], h'⟩
  | t n len e =>
    have h' : (Bool.rec false (T4.find n i e fun w => k (normW w)) (Nat.ble (Nat.succ i) len) : Bool) = true := h
    cases hb : Nat.ble (Nat.succ i) len with
    | false => rw [hb] at h'; cases h'
    | true =>
      rw [hb] at h'
      have h2 : T4.find n i e (fun w => k (normW w)) = true := h'
      rw [T4.find_eq] at h2
      cases hg : T4.get (path n i) e with
      | none => rw [hg] at h2; cases h2
      | some v =>
        rw [hg] at h2
        refine ⟨normW v, ?_, h2⟩
        simp only [Row.at]
        rw [show Nat.blt i len = true from hb, hg]
        rfl
theorem Row.list_length (r : Row) : r.list.length = r.len := by
  cases r with
  | l cs => rfl
  | t n len e => simp [Row.list, Row.len]
theorem Row.at_list {r : Row} {i : Nat} {v : W} (h : r.at i = some v) : r.list[i]? = some v.val := by
  cases r with
  | l cs =>
    simp only [Row.at, Option.map_eq_some_iff] at h
    obtain ⟨x, h1, rfl⟩ := h
    simp only [Row.list, h1, toW_val]
  | t n len e =>
    simp only [Row.at, Row.list] at h ⊢
    cases hb : Nat.blt i len with
    | false => rw [hb] at h; cases h
    | true =>
      rw [hb] at h
      have hi : i < len := Nat.le_of_ble_eq_true hb
      simp only [List.getElem?_map, List.getElem?_range hi, Option.map_some, treeAt]
      cases hg : T4.get (path n i) e with
      | none =>
        rw [hg] at h
        cases h
        rfl
      | some x =>
        rw [hg] at h
        cases h
        exact congrArg some (normW_val x).symm
theorem treeAt_same {n i : Nat} {v : W} {e : T4 W} : treeAt n (T4.putN (.leaf v) n i e) i = v.val := by
  simp only [treeAt, T4.putN_eq, T4.path_same, T4.get_leaf]
theorem treeAt_other {n i j : Nat} {v : W} {e : T4 W} (hi : i < 4 ^ n) (hj : j < 4 ^ n) (h : j ≠ i) : treeAt n (T4.putN (.leaf v) n i e) j = treeAt n e j := by
  simp only [treeAt, T4.putN_eq, T4.path_other _ hi hj h]
theorem Row.set_list {r : Row} {i : Nat} {v : W} (hi : i < r.len) : (r.set i v).list = r.list.set i v.val := by
  cases r with
  | l cs => rfl
  | t n len e =>
    simp only [Row.set]
    cases hb : Nat.ble len (4 ^ n) with
    | false => rfl
    | true =>
      have hle : len ≤ 4 ^ n := Nat.le_of_ble_eq_true hb
      simp only [cond_true, Row.list]
      simp only [Row.len] at hi
      apply List.ext_getElem?
      intro k
      rw [List.getElem?_set]
      by_cases hk : k < len
      · rw [List.getElem?_map, List.getElem?_range hk, List.getElem?_map, List.getElem?_range hk]
        by_cases hik : i = k
        · subst hik
          simp [hk, treeAt_same]
        · simp only [hik, if_false, Option.map_some]
          rw [treeAt_other (by omega) (by omega) (fun h => hik h.symm)]
      · have hik : i ≠ k := by omega
        simp [hik, hk]
theorem Row.set_len {r : Row} {i : Nat} {v : W} : (r.set i v).len = r.len := by
  cases r with
  | l cs => simp [Row.set, Row.len]
  | t n len e =>
    simp only [Row.set]
    cases hb : Nat.ble len (4 ^ n) with
    | false =>
      show (List.set _ _ _).length = len
      simp [Row.list]
    | true => rfl
theorem Row.sub_list {r : Row} {off k : Nat} : r.sub off k = (r.list.drop off).take k := by
  cases r with
  | l cs => rfl
  | t n len e =>
    simp only [Row.sub]
    cases hb : Nat.ble (off + k) len with
    | false => rfl
    | true =>
      have hle : off + k ≤ len := Nat.le_of_ble_eq_true hb
      simp only [cond_true, Row.list]
      apply List.ext_getElem?
      intro j
      rw [List.getElem?_map, List.getElem?_take]
      by_cases hj : j < k
      · rw [if_pos hj, List.getElem?_drop, List.getElem?_map, List.getElem?_range hj, List.getElem?_range (by omega)]
        rfl
      · rw [if_neg hj]
        simp [hj]
theorem fillR_at {n : Nat} : ∀ {vs : List Value} {k : Nat} {e : T4 W} {i : Nat}, k + vs.length ≤ 4 ^ n → i < 4 ^ n → treeAt n (fillR n k vs e) i = if i < k then treeAt n e i else match vs[i - k]? with
    | some v => v
    | none => treeAt n e i
  | [], k, e, i, _, _ => by simp [fillR]
  | v :: vs, k, e, i, hk, hi => by
    rw [fillR, fillR_at (by simp at hk; omega) hi]
    by_cases h1 : i < k
    · rw [if_pos (by omega), if_pos h1, treeAt_other (by simp at hk; omega) hi (by omega)]
    · rw [if_neg h1]
      by_cases h2 : i = k
      · subst h2
        rw [if_pos (by omega), treeAt_same]
        simp [W.val]
      · rw [if_neg (by omega), treeAt_other (by simp at hk; omega) hi h2]
        have : i - k = (i - (k + 1)) + 1 := by omega
        rw [this]
        rfl
theorem Row.of_list (cs : List Value) : (Row.of cs).list = cs := by
  unfold Row.of
  dsimp only
  cases h1 : Nat.ble cs.length 8 with
  | true => rfl
  | false =>
    cases h2 : Nat.blt cs.length 16777216 with
    | false => rfl
    | true =>
      have hl : cs.length ≤ 4 ^ deep cs.length := deep_ok (Nat.le_of_ble_eq_true h2)
      simp only [cond_false, cond_true, Row.list]
      apply List.ext_getElem?
      intro k
      by_cases hk : k < cs.length
      · rw [List.getElem?_map, List.getElem?_range hk, Option.map_some, fillR_at (by omega) (by omega)]
        simp [hk]
      · simp [hk]
theorem Row.ext_list (vs : List Value) (r : Row) : (r.ext vs).list = r.list ++ vs := by
  cases r with
  | l cs => exact Row.of_list _
  | t n len e =>
    simp only [Row.ext]
    cases hb : Nat.ble (len + vs.length) (4 ^ n) with
    | false => exact Row.of_list _
    | true =>
      have hle : len + vs.length ≤ 4 ^ n := Nat.le_of_ble_eq_true hb
      simp only [cond_true, Row.list]
      apply List.ext_getElem?
      intro k
      by_cases hk : k < len
      · rw [List.getElem?_map, List.getElem?_range (by omega), Option.map_some, fillR_at hle (by omega), if_pos hk, List.getElem?_append_left (by simpa using hk), List.getElem?_map, List.getElem?_range hk]
        rfl
      · by_cases hk2 : k < len + vs.length
        · have hv : k - len < vs.length := by omega
          rw [List.getElem?_map, List.getElem?_range hk2, Option.map_some, fillR_at hle (by omega), if_neg hk, List.getElem?_append_right (by simp; omega)]
          simp [hv]
        · have : (((List.range len).map (treeAt n e)) ++ vs).length ≤ k := by simp; omega
          rw [List.getElem?_eq_none this]
          simp; omega
end row
/-- A block under its name: its cells, its element type, and whether its capacity is one that was drawn (then there may be more cells). -/
structure Blk where
  raw : Row
  elem : TypeId
  grow : Bool
noncomputable def Blk.cells (b : Blk) : List Value := b.raw.list
noncomputable def Blk.of (cs : List Value) (e : TypeId) (g : Bool) : Blk := ⟨Row.of cs, e, g⟩
theorem Blk.of_cells (cs : List Value) (e : TypeId) (g : Bool) : (Blk.of cs e g).cells = cs := Row.of_list cs
/-- Cells put in, from a place on. -/
noncomputable def Blk.putMany (b : Blk) (off : Nat) : List Value → Blk
  | [] => b
  | v :: vs => Blk.putMany ⟨b.raw.set off (.o v), b.elem, b.grow⟩ (off + 1) vs
noncomputable def Blk.putAll (b : Blk) (off : Nat) (vs : List Value) : Blk := match vs with
  | [v] => ⟨b.raw.set off (toW v), b.elem, b.grow⟩
  | vs => b.putMany off vs
/-- Cells put behind. -/
noncomputable def Blk.ext (b : Blk) (vs : List Value) : Blk := ⟨b.raw.ext vs, b.elem, b.grow⟩
theorem Blk.ext_cells (b : Blk) (vs : List Value) : (b.ext vs).cells = b.cells ++ vs := Row.ext_list vs b.raw
theorem Blk.length (b : Blk) : b.cells.length = b.raw.len := b.raw.list_length
/-- A map's entry: key, value, stamp. -/
structure Ent where
  key : Value
  val : Value
  born : Nat
/-- What lies under a name. -/
inductive Ob where
  | row (b : Blk)
  | map (es : List Ent) (clock : Nat)
/-- The blocks by their names. -/
structure Hp where
  t : T4 Ob
  next : Nat
def roomD : Nat := 8
def roomN : Nat := 65536
noncomputable def Hp.ob (h : Hp) (i : Nat) : Option Ob := bif Nat.blt i roomN then T4.get (path roomD i) h.t else none
noncomputable def Hp.get (h : Hp) (i : Nat) : Option Blk := match h.ob i with
  | some (.row b) => some b
  | _ => none
def obT : Option Ob → T4 Ob
  | some b => .leaf b
  | none => .nil
noncomputable def Hp.put (h : Hp) (i : Nat) (b : Option Ob) : Hp := ⟨T4.putN (obT b) roomD i h.t, h.next⟩
noncomputable def Hp.set (h : Hp) (i : Nat) (b : Blk) : Hp := h.put i (some (.row b))
noncomputable def Hp.allocOb (h : Hp) (b : Ob) : Option (Nat × Hp) := bif Nat.blt h.next roomN then some (h.next, ⟨T4.putN (.leaf b) roomD h.next h.t, h.next + 1⟩) else none
noncomputable def Hp.alloc (h : Hp) (b : Blk) : Option (Nat × Hp) := h.allocOb (.row b)

/-- What lies under a name, handed on. -/
noncomputable def Hp.find (h : Hp) (i : Nat) (k : Blk → Bool) : Bool := Bool.rec false (T4.find roomD i h.t fun o => Ob.rec (motive := fun _ => Bool) k (fun _ _ => false) o) (Nat.ble (Nat.succ i) roomN)
theorem Hp.find_get {h : Hp} {i : Nat} {k : Blk → Bool} (hf : h.find i k = true) : ∃ b, h.get i = some b ∧ k b = true := by
  unfold Hp.find at hf
  unfold Hp.get Hp.ob
  cases hb : Nat.ble (Nat.succ i) roomN with
  | false => rw [hb] at hf; cases hf
  | true =>
    rw [hb] at hf
    rw [show Nat.blt i roomN = true from hb]
    have h2 : (T4.find roomD i h.t fun o => Ob.rec (motive := fun _ => Bool) k (fun _ _ => false) o) = true := hf
    rw [T4.find_eq] at h2
    rw [cond_true]
    cases hg : T4.get (path roomD i) h.t with
    | none => rw [hg] at h2; cases h2
    | some o =>
      rw [hg] at h2
      cases o with
      | row b => exact ⟨b, rfl, h2⟩
      | map _ _ => cases h2

/-- A capacity that was drawn; one that is not known and is not asked for. -/
def capG : Nat := 2 ^ 80
def capX : Nat := 2 ^ 80 + 1

/-- A value of one cell that holds no address. -/
def leafB : Value → Bool
  | .bool _ | .int _ _ | .float _ _ | .string _ | .pointer none | .nilFunc | .nilIface => true
  | .slice none _ _ | .map none => true
  | _ => false
/-- A value that holds no address. -/
def flatB : Value → Bool
  | .agg cs => cs.toList.all leafB
  | .tuple vs => vs.toList.all fun v => match v with
    | .agg cs => cs.toList.all leafB
    | .tuple us => us.isEmpty
    | v => leafB v
  | v => leafB v
/-- A value of one cell. -/
def cellB : Value → Bool
  | .agg _ | .tuple _ => false
  | _ => true

/-- What a piece of the model tells that looks at no memory. -/
def pureRun {α : Type} (P : Program) : Sem α → Option α
  | .pure a => some a
  | .program k => pureRun P (k P)
  | .mark _ k => pureRun P k
  | _ => none

abbrev Tmps := List Value
def ev (τ : Tmps) : Operand → Value
  | .tmp t => τ.getD t undef
  | .const v => v
  | .global g => .pointer (some ⟨g, 0, none⟩)
  | .func f => .func (.func f) #[] #[]
/-- A constant holds no address. -/
def opdB : Operand → Bool
  | .const v => flatB v
  | .global _ => false
  | _ => true
def putT (τ : Tmps) (d : Option Tmp) (v : Value) : Tmps := match d with
  | some d => τ.set d v
  | none => τ

def aggQ (P : Program) (t : TypeId) : Option Bool := match P.underlying t with
  | some (.struct _) | some (.array _ _) => some true
  | some _ => some false
  | none => none
def szQ (P : Program) (t : TypeId) : Option Nat := (P.info? t).map (·.size)
def zeroQ (P : Program) (t : TypeId) : Option Value := match (P.info? t).bind (·.zero) with
  | some v => if flatB v then some v else none
  | none => none

/-- n cells from a place on. -/
noncomputable def cellsAt (h : Hp) (i off n : Nat) : Option (List Value) := match h.get i with
  | some b => bif Nat.ble (off + n) b.raw.len then some (b.raw.sub off n) else none
  | none => none
noncomputable def loadQ (P : Program) (h : Hp) (t : TypeId) : Value → Option Value
  | .pointer (some ⟨i, off, none⟩) => match aggQ P t, szQ P t with
    | some true, some n => (cellsAt h i off n).map fun cs => .agg cs.toArray
    | some false, _ => (h.get i).bind fun b => (b.raw.at off).map W.val
    | _, _ => none
  | _ => none
/-- Cells put in one by one, from a place on. -/
def setAll : List Value → Nat → List Value → List Value
  | cs, _, [] => cs
  | cs, n, v :: vs => setAll (cs.set n v) (n + 1) vs
noncomputable def storeCellsL (h : Hp) (i off : Nat) (vs : List Value) : Option Hp := match vs with
  | [] => some h
  | _ => match h.get i with
    | some b => bif Nat.ble (off + vs.length) b.raw.len && vs.all cellB then some (h.set i (b.putAll off vs)) else none
    | none => none
noncomputable def storeL (P : Program) (h : Hp) (t : TypeId) (a v : Value) : Option Hp := match a, szQ P t with
  | .pointer (some ⟨i, off, none⟩), some n => if v.cells.size = n then storeCellsL h i off v.cells.toList else none
  | _, _ => none

def intV : Value → Option Int
  | .int _ n => some n
  | _ => none
/-- A bound of a slice expression. -/
def boundQ (v : Option Value) (d top : Nat) : Option Nat := match v with
  | none => some d
  | some (.int _ n) => if 0 ≤ n ∧ n ≤ (top : Int) then some n.toNat else none
  | some _ => none
def sliceQ (P : Program) (t : TypeId) (x : Value) (lo hi mx : Option Value) : Option Value := match P.underlying t, x with
  | some .string, .string s => if mx.isSome then none else
      (boundQ hi s.size s.size).bind fun h => (boundQ lo 0 h).bind fun l => some (.string ⟨((s.data.toList.drop l).take (h - l)).toArray⟩)
  | some (.slice e), .slice none 0 0 =>
      (boundQ mx 0 0).bind fun m => (boundQ hi 0 m).bind fun h => (boundQ lo 0 h).bind fun _ => if mx.isSome && hi.isNone then none else (szQ P e).bind fun _ => some (.slice none 0 0)
  | some (.slice e), .slice (some ⟨i, off, none⟩) len cap => match mx with
      | some _ => (boundQ mx 0 (if cap < capG then cap else len)).bind fun m => (boundQ hi 0 m).bind fun h => (boundQ lo 0 h).bind fun l =>
          if hi.isNone || capG ≤ m then none else (szQ P e).bind fun z => some (.slice (some ⟨i, if m = l then off else off + l * z, none⟩) (h - l) (m - l))
      | none => (boundQ hi len (if cap < capG then cap else len)).bind fun h => (boundQ lo 0 h).bind fun l => (szQ P e).bind fun z =>
          if cap < capG then some (.slice (some ⟨i, if cap = l then off else off + l * z, none⟩) (h - l) (cap - l))
          else if l = 0 then some (.slice (some ⟨i, off, none⟩) h cap)
          else if l < len then some (.slice (some ⟨i, off + l * z, none⟩) (h - l) capX) else none
  | some (.array n e), .pointer (some ⟨i, off, none⟩) =>
      (boundQ mx n n).bind fun m => (boundQ hi m m).bind fun h => (boundQ lo 0 h).bind fun l => if mx.isSome && hi.isNone || capG ≤ n then none else (szQ P e).bind fun z =>
        some (.slice (some ⟨i, if m = l then off else off + l * z, none⟩) (h - l) (m - l))
  | _, _ => none
def fieldAddrQ (P : Program) (s : TypeId) (x : Value) (f : Nat) : Option Value := match P.underlying s, x with
  | some (.struct fields), .pointer (some ⟨i, off, none⟩) => match fields[f]? with
    | some fd => match szQ P fd.type with
      | some (_ + 1) => some (.pointer (some ⟨i, off + fd.offset, none⟩))
      | _ => none
    | none => none
  | _, _ => none
def partQ (P : Program) (t : TypeId) (cs : Array Value) (off : Nat) : Option Value := match aggQ P t, szQ P t with
  | some true, some n => some (.agg (cs.toList.drop off |>.take n).toArray)
  | some false, _ => cs.toList[off]?
  | _, _ => none
def fieldQ (P : Program) (t : TypeId) (x : Value) (f : Nat) : Option Value := match P.underlying t, x with
  | some (.struct fields), .agg cs => match fields[f]? with
    | some fd => partQ P fd.type cs fd.offset
    | none => none
  | _, _ => none
def indexAddrQ (P : Program) (t : TypeId) (x ix : Value) : Option Value := match P.underlying t, x, ix with
  | some (.slice e), .slice (some ⟨i, off, none⟩) len _, .int _ n => if 0 ≤ n ∧ n < (len : Int) then (szQ P e).map fun z => .pointer (some ⟨i, off + n.toNat * z, none⟩) else none
  | some (.array len e), .pointer (some ⟨i, off, none⟩), .int _ n => if 0 ≤ n ∧ n < (len : Int) then (szQ P e).map fun z => .pointer (some ⟨i, off + n.toNat * z, none⟩) else none
  | _, _, _ => none
def indexQ (P : Program) (t : TypeId) (x ix : Value) : Option Value := match P.underlying t, x, ix with
  | some (.array len e), .agg cs, .int _ n => if 0 ≤ n ∧ n < (len : Int) then (szQ P e).bind fun z => partQ P e cs (n.toNat * z) else none
  | some .string, .string s, .int _ n => if 0 ≤ n then (s.data.toList[n.toNat]?).map fun b => .int .u8 b.toNat else none
  | _, _, _ => none
/-- '==' with a nil that is written. -/
def nilEqQ (d : TypeDesc) (u v : Value) : Option Bool := match d, u, v with
  | .pointer _, .pointer (some _), .pointer none | .pointer _, .pointer none, .pointer (some _) => some false
  | .slice _, .slice (some _) _ _, .slice none _ _ | .slice _, .slice none _ _, .slice (some _) _ _ => some false
  | .func .., .func _ _ _, .nilFunc | .func .., .nilFunc, .func _ _ _ => some false
  | .map _ _, .map (some _), .map none | .map _ _, .map none, .map (some _) => some false
  | .interface _, .iface _ _, .nilIface | .interface _, .nilIface, .iface _ _ => some false
  | _, _, _ => none
def binQ (P : Program) (op : BinOp) (t : TypeId) (x y : Operand) (u v : Value) : Option Value :=
  match u, v with
  | .int _ _, .int _ _ => (pureRun P (binOp op t u v)).bind fun r => if leafB r then some r else none
  | .string a, .string b => match op with
    | .add => if a.size + b.size < 2 ^ 40 then some (.string ⟨(a.data.toList ++ b.data.toList).toArray⟩) else none
    | .eql => some (.bool (a.data.toList == b.data.toList))
    | .neq => some (.bool (!(a.data.toList == b.data.toList)))
    | .lss => some (.bool (Op.bytesLess a.data.toList b.data.toList))
    | .leq => some (.bool (Op.bytesLess a.data.toList b.data.toList || a.data.toList == b.data.toList))
    | .gtr => some (.bool !(Op.bytesLess a.data.toList b.data.toList || a.data.toList == b.data.toList))
    | .geq => some (.bool !(Op.bytesLess a.data.toList b.data.toList))
    | _ => none
  | _, _ =>
    if flatB u && flatB v then (pureRun P (do eqGuard op t x y u v; binOp op t u v)).bind fun r => if leafB r then some r else none
    else (P.underlying t).bind fun d => match op with
      | .eql => (nilEqQ d u v).map .bool
      | .neq => (nilEqQ d u v).map fun b => .bool !b
      | _ => none
/-- Pointers to the same place. -/
def samePtr (P : Program) (op : BinOp) (t : TypeId) (u v : Value) : Option Value := match u, v with
  | .pointer (some ⟨i, o, none⟩), .pointer (some ⟨j, p, none⟩) => match P.underlying t with
    | some (.pointer e) => if i = j ∧ o = p ∧ (szQ P e).isSome then (match op with
      | .eql => some (.bool true)
      | .neq => some (.bool false)
      | _ => none) else none
    | _ => none
  | _, _ => none
def binP (P : Program) (op : BinOp) (t : TypeId) (x y : Operand) (u v : Value) : Option Value := match samePtr P op t u v with
  | some r => some r
  | none => binQ P op t x y u v
def bytesOf : List Value → Option (List UInt8)
  | [] => some []
  | .int .u8 n :: vs => (bytesOf vs).map (UInt8.ofNat n.toNat :: ·)
  | _ => none
noncomputable def convQ (P : Program) (h : Hp) (src dst : TypeId) (v : Value) : Option Value := match P.underlying src, P.underlying dst, v with
  | some (.slice e), some .string, .slice none _ _ => match P.underlying e with
    | some (.int .u8) => some (.string ⟨#[]⟩)
    | _ => none
  | some (.slice e), some .string, .slice (some ⟨i, off, none⟩) len _ => match P.underlying e with
    | some (.int .u8) => ((cellsAt h i off len).bind bytesOf).map fun bs => .string ⟨bs.toArray⟩
    | _ => none
  | _, _, v => if leafB v then (pureRun P (convert src dst v)).bind fun r => if leafB r then some r else none else none
/-- Bytes, each below 256. -/
def bytesX : List Value → Option (List UInt8)
  | [] => some []
  | .int .u8 (.ofNat n) :: vs => if n < 256 then (bytesX vs).map (UInt8.ofNat n :: ·) else none
  | _ => none
/-- A pointer as one without a type, and back. -/
noncomputable def convP (P : Program) (h : Hp) (src dst : TypeId) (v : Value) : Option Value := match v with
  | .pointer (some ⟨i, off, none⟩) => match P.underlying src, P.underlying dst with
    | some (.pointer t), some .unsafePointer => match szQ P t, h.get i with
      | some (_ + 1), some b => bif Nat.blt off b.raw.len then some v else none
      | _, _ => none
    | some .unsafePointer, some (.pointer u) => match szQ P u, h.get i with
      | some _, some b => bif !b.grow && liesAt P P.depth b.elem (b.raw.len / P.cellsOf b.elem) off u 1 then some v else none
      | _, _ => none
    | _, _ => none
  | v => convQ P h src dst v
def allQ : List (Option Value) → Option (List Value)
  | [] => some []
  | some v :: vs => (allQ vs).map (v :: ·)
  | none :: _ => none

/-- Values that are the same, as far as it is told. -/
def eq1 : Value → Value → Bool
  | .int k a, .int k' b => decide (k = k') && decide (a = b)
  | .bool a, .bool b => a == b
  | .string a, .string b => decide (a.data.toList = b.data.toList)
  | .pointer none, .pointer none => true
  | .pointer (some ⟨i, o, none⟩), .pointer (some ⟨j, p, none⟩) => Nat.beq i j && Nat.beq o p
  | .slice none a b, .slice none c d => Nat.beq a c && Nat.beq b d
  | .slice (some ⟨i, o, none⟩) a b, .slice (some ⟨j, p, none⟩) c d => Nat.beq i j && Nat.beq o p && (Nat.beq a c && Nat.beq b d)
  | .map none, .map none => true
  | .map (some i), .map (some j) => Nat.beq i j
  | .nilFunc, .nilFunc => true
  | .nilIface, .nilIface => true
  | .func (.func f) xs ys, .func (.func g) xs' ys' => Nat.beq f g && (xs.isEmpty && ys.isEmpty && (xs'.isEmpty && ys'.isEmpty))
  | _, _ => false
def eqL : List Value → List Value → Bool
  | [], [] => true
  | a :: l, b :: m => eq1 a b && eqL l m
  | _, _ => false
def eqV : Value → Value → Bool
  | .agg xs, .agg ys => eqL xs.toList ys.toList
  | .tuple xs, .tuple ys => eqL xs.toList ys.toList
  | u, v => eq1 u v
/-- The place of a key among a map's entries, and what lies there. -/
def findQ (k : Value) : List Ent → Nat → Option (Option (Nat × Value))
  | [], _ => some none
  | e :: es, i => match k, e.key with
    | .int j a, .int j' b => if j = j' then if a = b then some (some (i, e.val)) else findQ k es (i + 1) else none
    | .string a, .string b => if a.data.toList = b.data.toList then some (some (i, e.val)) else findQ k es (i + 1)
    | _, _ => none
def keyB (P : Program) (t : TypeId) (k : Value) : Bool := match P.underlying t, k with
  | some (.int j), .int j' _ => j = j'
  | some .string, .string _ => true
  | _, _ => false
/-- A key of more parts than one, all flat. -/
def aggB (P : Program) (t : TypeId) (k : Value) : Bool := match P.underlying t, k with
  | some (.struct _), .agg _ => flatB k
  | _, _ => false
def findP (P : Program) (t : TypeId) (k : Value) : List Ent → Nat → Option (Option (Nat × Value))
  | [], _ => some none
  | e :: es, i => match pureRun P (Op.equal t k e.key) with
    | some true => if eqV k e.key then some (some (i, e.val)) else none
    | some false => findP P t k es (i + 1)
    | none => none
/-- The place of a key of whatever kind. -/
def findK (P : Program) (t : TypeId) (k : Value) (b : Bool) (es : List Ent) : Option (Option (Nat × Value)) := if keyB P t k then findQ k es 0 else if aggB P t k then
    match pureRun P (Instr.checkKey b 10000 t k), pureRun P (Instr.keyThatStays k k) with
    | some _, some k2 => if eqV k2 k then findP P t k es 0 else none
    | _, _ => none
  else none
noncomputable def lookupQ (P : Program) (h : Hp) (t : TypeId) (m k : Value) (ok : Bool) : Option Value := match P.underlying t with
  | some (.map kt et) => (match m with
      | .map none => some []
      | .map (some r) => match h.ob r with
        | some (.map es _) => some es
        | _ => none
      | _ => none).bind fun es => (findK P kt k es.isEmpty es).bind fun r => (match r with
      | some (_, v) => some (v, true)
      | none => (zeroQ P et).map fun z => (z, false)).map fun (v, b) => if ok then .tuple #[v, .bool b] else v
  | _ => none
noncomputable def updateL (P : Program) (h : Hp) (t : TypeId) (m k v : Value) : Option Hp := match P.underlying t, m with
  | some (.map kt _), .map (some r) => match h.ob r with
      | some (.map es clock) => (findK P kt k false es).map fun f => match f with
        | some (i, _) => h.put r (some (.map (es.modify i fun e => { e with val := v }) clock))
        | none => h.put r (some (.map (es ++ [⟨k, v, clock⟩]) (clock + 1)))
      | _ => none
  | _, _ => none
/-- What an operation yields that changes nothing. -/
noncomputable def opQ (P : Program) (h : Hp) (η : Operand → Value) (o : Op) : Option Value := match o with
  | .move x | .assign x => some (η x)
  | .pick c a b => match η c with
    | .bool t => some (if t then η a else η b)
    | _ => none
  | .load t a => loadQ P h t (η a)
  | .nilCheck x => match η x with
    | .pointer (some a) => some (.pointer (some a))
    | .func (.func f) a b => some (.func (.func f) a b)
    | _ => none
  | .binOp op t x y _ => binP P op t x y (η x) (η y)
  | .unOp op _ x => if leafB (η x) then (pureRun P (Op.unary op (η x))).bind fun r => if leafB r then some r else none else none
  | .convert src dst x => convP P h src dst (η x)
  | .makeInterface t x => match P.underlying t with
    | some (.interface _) => none
    | some _ => some (.iface t (η x))
    | none => none
  | .sliceToArrayPointer t x => match P.underlying t, η x with
    | some (.array n _), .slice (some a) len _ => if n ≤ len then some (.pointer (some a)) else none
    | _, _ => none
  | .makeFunc (.func f) first captured => some (.func (.func f) (first.map η) (captured.map η))
  | .slice t x lo hi mx => sliceQ P t (η x) (lo.map η) (hi.map η) (mx.map η)
  | .fieldAddr s x f => fieldAddrQ P s (η x) f
  | .field t x f => fieldQ P t (η x) f
  | .indexAddr t x ix => indexAddrQ P t (η x) (η ix)
  | .index t x ix => indexQ P t (η x) (η ix)
  | .lookup t m k ok => lookupQ P h t (η m) (η k) ok
  | .extract t ix => match η t with
    | .tuple vs => vs.toList[ix]?
    | _ => none
  | .build t parts => match zeroQ P t, P.underlying t with
    | some z, some (.struct fields) => if fields.toList.all fun f => (szQ P f.type).isSome then
      (Instr.fill (fun i => (fields[i]?).map fun f => (f.offset, (szQ P f.type).getD 0)) z.cells (parts.toList.map fun (i, x) => (i, η x))).map .agg else none
    | some z, some (.array _ e) => (szQ P e).bind fun n =>
      (Instr.fill (fun i => some (i * n, n)) z.cells (parts.toList.map fun (i, x) => (i, η x))).map .agg
    | _, _ => none
  | .call { callee := .builtin .len, args, argTypes } => match args.toList, argTypes[0]? with
    | [x], some t => match P.underlying t, η x with
      | some .string, .string s => some (goInt s.size)
      | some (.slice _), .slice _ n _ => some (goInt n)
      | some (.array n _), _ => some (goInt n)
      | _, _ => none
    | _, _ => none
  | .call { callee := .builtin .cap, args, argTypes } => match args.toList, argTypes[0]? with
    | [x], some t => match P.underlying t, η x with
      | some (.slice _), .slice _ _ n => if n < capG then some (goInt n) else none
      | _, _ => none
    | _, _ => none
  | .call { callee := .builtin .unsafeSliceData, args, argTypes := _ } => match args.toList with
    | [x] => match η x with
      | .slice (some ⟨i, off, none⟩) (_ + 1) _ => some (.pointer (some ⟨i, off, none⟩))
      | .slice none _ _ => some (.pointer none)
      | _ => none
    | _ => none
  | .call { callee := .builtin .max, args, argTypes := _ } => match args.toList with
    | [x, y] => match η x, η y with
      | .int k a, .int _ b => some (.int k (if b > a then b else a))
      | _, _ => none
    | _ => none
  | .call { callee := .builtin .min, args, argTypes := _ } => match args.toList with
    | [x, y] => match η x, η y with
      | .int k a, .int _ b => some (.int k (if b < a then b else a))
      | _, _ => none
    | _ => none
  | _ => none

/-- The cells of a zero value, n times. -/
def zerosL (z : List Value) : Nat → List Value
  | 0 => []
  | n + 1 => z ++ zerosL z n
def bytesQ (P : Program) (t : TypeId) : Option Nat := (P.info? t).map (·.bytes)
noncomputable def appendL (P : Program) (h : Hp) (elem : TypeId) (base : Option Addr) (len cap : Nat) (new : List Value) (n : Nat) : Option (Value × Hp) :=
  (szQ P elem).bind fun z => (bytesQ P elem).bind fun bs => (zeroQ P elem).bind fun zv =>
  if z = 0 || zv.cells.size ≠ z || !(new.all cellB) || new.length ≠ n * z || 2 ^ 24 < len + n || bs = 0 || 2 ^ 20 < bs then none else
  match base with
  | none => if len = 0 ∧ cap = 0 then (if n = 0 then some (.slice none 0 0, h) else (h.alloc (Blk.of new elem true)).map fun (j, h') => (.slice (some ⟨j, 0, none⟩) n capG, h')) else none
  | some ⟨i, off, none⟩ =>
    if n = 0 then some (.slice (some ⟨i, off, none⟩) len cap, h)
    else if cap < capG then
      if len + n ≤ cap then (storeCellsL h i (off + len * z) new).map fun h' => (.slice (some ⟨i, off, none⟩) (len + n) cap, h')
      else (cellsAt h i off (len * z)).bind fun old => (h.alloc (Blk.of (old ++ new) elem true)).map fun (j, h') => (.slice (some ⟨j, 0, none⟩) (len + n) capG, h')
    else if cap = capG then match h.get i with
      | some b => if b.grow && b.elem = elem && b.raw.len = len * z then ((h.put i none).alloc (b.ext new)).map fun (j, h') => (.slice (some ⟨j, 0, none⟩) (len + n) capG, h') else none
      | none => none
    else none
  | _ => none
/-- The first cells of what is appended or copied. -/
noncomputable def firstQ (h : Hp) (z n : Nat) : Value → Option (List Value)
  | .slice none _ _ => some []
  | .slice (some ⟨i, off, none⟩) _ _ => cellsAt h i off (n * z)
  | .string s => some ((s.data.toList.take n).map fun b => .int .u8 b.toNat)
  | _ => none
def lenQ : Value → Option Nat
  | .slice _ n _ => some n
  | .string s => some s.size
  | _ => none
/-- What an operation yields that makes or writes memory. -/
noncomputable def opL (P : Program) (h : Hp) (η : Operand → Value) (o : Op) : Option (Value × Hp) := match o with
  | .alloc e => (zeroQ P e).bind fun z => (h.alloc (Blk.of z.cells.toList e false)).map fun (i, h') => (.pointer (some ⟨i, 0, none⟩), h')
  | .box e x => (h.alloc (Blk.of (η x).cells.toList e false)).map fun (i, h') => (.pointer (some ⟨i, 0, none⟩), h')
  | .buildSlice t len parts => match P.underlying t with
    | some (.slice e) => (szQ P e).bind fun n => (zeroQ P e).bind fun z => if 2 ^ 24 < len * n || z.cells.size ≠ n || 2 ^ 24 < len then none else
      (Instr.fill (fun i => some (i * n, n)) (zerosL z.cells.toList len).toArray (parts.toList.map fun (i, x) => (i, η x))).bind fun cells =>
        (h.alloc (Blk.of cells.toList e false)).map fun (i, h') => (.slice (some ⟨i, 0, none⟩) len len, h')
    | _ => none
  | .store t a x => (storeL P h t (η a) (η x)).map fun h' => (undef, h')
  | .makeMap _ none => (h.allocOb (.map [] 0)).map fun (i, h') => (.map (some i), h')
  | .mapUpdate t m k x | .insert t m k x => (updateL P h t (η m) (η k) (η x)).map fun h' => (undef, h')
  | .makeSlice t l c => match P.underlying t, η l, η c with
    | some (.slice e), .int _ n, .int _ m => (szQ P e).bind fun z => (zeroQ P e).bind fun v =>
      if 0 ≤ n ∧ n ≤ m ∧ m ≤ 2 ^ 20 ∧ (bytesQ P e).getD (2 ^ 30) ≤ 2 ^ 20 ∧ v.cells.size = z then
        (h.alloc (Blk.of (zerosL v.cells.toList m.toNat) e false)).map fun (i, h') => (.slice (some ⟨i, 0, none⟩) n.toNat m.toNat, h')
      else none
    | _, _, _ => none
  | .convert src dst x => match P.underlying src, P.underlying dst, η x with
    | some .string, some (.slice e), .string s => match P.underlying e with
      | some (.int .u8) => if s.size ≤ 2 ^ 20 ∧ szQ P e = some 1 then (h.alloc (Blk.of (s.data.toList.map fun b => .int .u8 b.toNat) e true)).map fun (i, h') => (.slice (some ⟨i, 0, none⟩) s.size capG, h') else none
      | _ => none
    | _, _, _ => none
  | .call { callee := .builtin .append, args, argTypes } => match args.toList, argTypes.toList with
    | [s, x], [ts, tx] => match P.underlying ts, P.underlying tx, η s with
      | some (.slice e), some (.slice _), .slice base len cap => (szQ P e).bind fun z => (lenQ (η x)).bind fun n => (firstQ h z n (η x)).bind fun new => appendL P h e base len cap new n
      | some (.slice e), some (.int _), .slice base len cap => match η x with
        | .int _ m => if 0 ≤ m ∧ m ≤ 2 ^ 20 then (zeroQ P e).bind fun z => appendL P h e base len cap (zerosL z.cells.toList m.toNat) m.toNat else none
        | _ => none
      | some (.slice e), some .string, .slice base len cap => (szQ P e).bind fun z => (lenQ (η x)).bind fun n => (firstQ h z n (η x)).bind fun new => appendL P h e base len cap new n
      | _, _, _ => none
    | _, _ => none
  | .call { callee := .builtin .copy, args, argTypes } => match args.toList, argTypes[0]? with
    | [d, s], some t => match P.underlying t, η d with
      | some (.slice e), .slice base len _ => (szQ P e).bind fun z => (lenQ (η s)).bind fun m => let n := min m len
        (firstQ h z n (η s)).bind fun cs => match base with
          | none => some (goInt n, h)
          | some ⟨i, off, none⟩ => (storeCellsL h i off cs).map fun h' => (goInt n, h')
          | _ => none
      | _, _ => none
    | _, _ => none
  | .call { callee := .builtin .unsafeString, args, argTypes } => match args.toList, argTypes.toList with
    | [x, y], [pt, _] => match P.underlying pt, η x, η y with
      | some (.pointer e), .pointer (some ⟨i, 0, none⟩), .int .i64 (.ofNat n) => match h.get i with
        | some b => if b.elem = e ∧ P.cellsOf e = 1 ∧ 0 < n ∧ n ≤ 9223372036854775807 then ((cellsAt h i 0 n).bind bytesX).map fun bs => (.string ⟨bs.toArray⟩, h.put i none) else none
        | none => none
      | _, _, _ => none
    | _, _ => none
  | .call { callee := .builtin .clear, args, argTypes } => match args.toList, argTypes[0]? with
    | [s], some t => match P.underlying t, η s with
      | some (.slice _), .slice none _ _ => some (.tuple #[], h)
      | some (.slice e), .slice (some ⟨i, off, none⟩) n _ => (zeroQ P e).bind fun v => (storeCellsL h i off (zerosL v.cells.toList n)).map fun h' => (.tuple #[], h')
      | _, _ => none
    | _, _ => none
  | _ => none

/-- A call's function and arguments. -/
noncomputable def calleeQ (η : Operand → Value) : Op → Option (FuncId × List Value)
  | .call { callee := .value f, args, .. } => match η f with
    | .func (.func g) first captured => some (g, first.toList ++ args.toList.map η ++ captured.toList)
    | _ => none
  | _ => none
/-- A receiver, by how deep it lies. -/
def recvQ : Nat → Value → Option Value
  | 0, v => some v
  | _, .agg cs => match cs.toList with
    | [v] => some v
    | _ => none
  | _, _ => none
def methQ (t : TypeId) (name : String) : List (TypeId × String × Nat × FuncId) → Option (Nat × FuncId)
  | [] => none
  | (t', n', p, g) :: l => bif Nat.beq t t' && decide (n' = name) then some (p, g) else methQ t name l
end Go.Proofs.YtphfjhpgcdmonaaGreatDoor.Exe
namespace Go.Proofs.YtphfjhpgcdmonaaGreatDoor.Exe
open Go Go.RowKit

/-- Of names, the blocks' numbers; of names of blocks whose capacity was drawn, that capacity. -/
structure Env where
  ρ : Nat → Option Nat
  κ : Nat → Nat
def Env.le (E E' : Env) : Prop := ∀ i b, E.ρ i = some b → E'.ρ i = some b ∧ E'.κ i = E.κ i
theorem Env.le_refl (E : Env) : E.le E := fun _ _ h => ⟨h, rfl⟩
theorem Env.le_trans {A B C : Env} (h : A.le B) (k : B.le C) : A.le C := fun i b hi => ⟨(k i b (h i b hi).1).1, ((k i b (h i b hi).1).2).trans (h i b hi).2⟩

inductive Rel (E : Env) : Value → Value → Prop
  | leaf (v : Value) (h : leafB v = true) : Rel E v v
  | ptr (i b off : Nat) (h : E.ρ i = some b) : Rel E (.pointer (some ⟨i, off, none⟩)) (.pointer (some ⟨b, off, none⟩))
  | slice (i b off len cap cap' : Nat) (h : E.ρ i = some b) (hl : len ≤ cap') (hk : cap < capG → cap' = cap) (hg : cap = capG → off = 0 ∧ cap' = E.κ i) : Rel E (.slice (some ⟨i, off, none⟩) len cap) (.slice (some ⟨b, off, none⟩) len cap')
  | map (i b : Nat) (h : E.ρ i = some b) : Rel E (.map (some i)) (.map (some b))
  | func (f : Fn) (xs xs' ys ys' : Array Value) (hs : xs.toList.length = xs'.toList.length) (h : ∀ (k : Nat) (c c' : Value), xs.toList[k]? = some c → xs'.toList[k]? = some c' → Rel E c c')
      (hs' : ys.toList.length = ys'.toList.length) (h' : ∀ (k : Nat) (c c' : Value), ys.toList[k]? = some c → ys'.toList[k]? = some c' → Rel E c c') : Rel E (.func f xs ys) (.func f xs' ys')
  | iface (t : TypeId) (v v' : Value) (h : Rel E v v') : Rel E (.iface t v) (.iface t v')
  | agg (xs xs' : Array Value) (hs : xs.toList.length = xs'.toList.length) (h : ∀ (k : Nat) (c c' : Value), xs.toList[k]? = some c → xs'.toList[k]? = some c' → Rel E c c') : Rel E (.agg xs) (.agg xs')
  | tuple (xs xs' : Array Value) (hs : xs.toList.length = xs'.toList.length) (h : ∀ (k : Nat) (c c' : Value), xs.toList[k]? = some c → xs'.toList[k]? = some c' → Rel E c c') : Rel E (.tuple xs) (.tuple xs')

theorem Rel.mono {E E' : Env} (hE : E.le E') {v x : Value} (h : Rel E v x) : Rel E' v x := by
  induction h with
  | leaf v h => exact .leaf v h
  | ptr i b off h => exact .ptr i b off (hE i b h).1
  | slice i b off len cap cap' h hl hk hg => exact .slice i b off len cap cap' (hE i b h).1 hl hk (fun e => ⟨(hg e).1, (hg e).2.trans (hE i b h).2.symm⟩)
  | map i b h => exact .map i b (hE i b h).1
  | func f xs xs' ys ys' hs _ hs' _ ih ih' => exact .func f xs xs' ys ys' hs ih hs' ih'
  | iface t v v' _ ih => exact .iface t v v' ih
  | agg xs xs' hs _ ih => exact .agg xs xs' hs ih
  | tuple xs xs' hs _ ih => exact .tuple xs xs' hs ih

/-- Lists, value by value. -/
def RelL (E : Env) : List Value → List Value → Prop
  | [], [] => True
  | a :: l, b :: l' => Rel E a b ∧ RelL E l l'
  | _, _ => False
theorem RelL.length {E : Env} : ∀ {l l' : List Value}, RelL E l l' → l.length = l'.length
  | [], [], _ => rfl
  | _ :: _, _ :: _, h => congrArg (· + 1) (RelL.length h.2)
theorem RelL.at {E : Env} : ∀ {l l' : List Value}, RelL E l l' → ∀ (k : Nat) (c c' : Value), l[k]? = some c → l'[k]? = some c' → Rel E c c'
  | [], [], _, k, c, c', h1, _ => by simp at h1
  | a :: l, b :: l', h, 0, c, c', h1, h2 => by
    simp at h1 h2
    exact h1 ▸ h2 ▸ h.1
  | a :: l, b :: l', h, k + 1, c, c', h1, h2 => RelL.at h.2 k c c' (by simpa using h1) (by simpa using h2)
theorem RelL.of {E : Env} : ∀ {l l' : List Value}, l.length = l'.length → (∀ (k : Nat) (c c' : Value), l[k]? = some c → l'[k]? = some c' → Rel E c c') → RelL E l l'
  | [], [], _, _ => trivial
  | a :: l, b :: l', hs, h => ⟨h 0 a b rfl rfl, RelL.of (by simpa using hs) (fun k c c' h1 h2 => h (k + 1) c c' (by simpa using h1) (by simpa using h2))⟩
  | [], _ :: _, hs, _ => by simp at hs
  | _ :: _, [], hs, _ => by simp at hs
theorem RelL.mono {E E' : Env} (hE : E.le E') : ∀ {l l' : List Value}, RelL E l l' → RelL E' l l'
  | [], [], _ => trivial
  | _ :: _, _ :: _, h => ⟨h.1.mono hE, RelL.mono hE h.2⟩
theorem RelL.get {E : Env} {l l' : List Value} (h : RelL E l l') {k : Nat} {c : Value} (hk : l[k]? = some c) : ∃ c', l'[k]? = some c' ∧ Rel E c c' := by
  have h1 : k < l'.length := by rw [← h.length]; exact (List.getElem?_eq_some_iff.1 hk).1
  exact ⟨l'[k], List.getElem?_eq_getElem h1, h.at k c _ hk (List.getElem?_eq_getElem h1)⟩
theorem RelL.append {E : Env} : ∀ {l l' m m' : List Value}, RelL E l l' → RelL E m m' → RelL E (l ++ m) (l' ++ m')
  | [], [], _, _, _, h => h
  | _ :: _, _ :: _, _, _, h, k => ⟨h.1, RelL.append h.2 k⟩
theorem RelL.take {E : Env} : ∀ (n : Nat) {l l' : List Value}, RelL E l l' → RelL E (l.take n) (l'.take n)
  | 0, _, _, _ => by simp [RelL]
  | _ + 1, [], [], _ => by simp [RelL]
  | n + 1, _ :: _, _ :: _, h => ⟨h.1, RelL.take n h.2⟩
theorem RelL.drop {E : Env} : ∀ (n : Nat) {l l' : List Value}, RelL E l l' → RelL E (l.drop n) (l'.drop n)
  | 0, _, _, h => h
  | _ + 1, [], [], _ => by simp [RelL]
  | n + 1, _ :: _, _ :: _, h => RelL.drop n h.2
theorem RelL.set {E : Env} : ∀ (n : Nat) {l l' : List Value} {v x : Value}, RelL E l l' → Rel E v x → RelL E (l.set n v) (l'.set n x)
  | _, [], [], _, _, _, _ => by simp [RelL]
  | 0, _ :: _, _ :: _, _, _, h, k => ⟨k, h.2⟩
  | n + 1, _ :: _, _ :: _, _, _, h, k => ⟨h.1, RelL.set n h.2 k⟩
theorem RelL.replicate {E : Env} {v x : Value} (h : Rel E v x) : ∀ n, RelL E (List.replicate n v) (List.replicate n x)
  | 0 => trivial
  | n + 1 => ⟨h, RelL.replicate h n⟩
theorem RelL.map {E : Env} {α : Type} {f g : α → Value} : ∀ {l : List α}, (∀ a ∈ l, Rel E (f a) (g a)) → RelL E (l.map f) (l.map g)
  | [], _ => trivial
  | a :: l, h => ⟨h a (by simp), RelL.map (fun b hb => h b (by simp [hb]))⟩
theorem relL_agg {E : Env} {cs cs' : Array Value} (h : RelL E cs.toList cs'.toList) : Rel E (.agg cs) (.agg cs') := .agg cs cs' h.length h.at
theorem relL_tuple {E : Env} {cs cs' : Array Value} (h : RelL E cs.toList cs'.toList) : Rel E (.tuple cs) (.tuple cs') := .tuple cs cs' h.length h.at
theorem relL_func {E : Env} {f : Fn} {xs xs' ys ys' : Array Value} (h : RelL E xs.toList xs'.toList) (k : RelL E ys.toList ys'.toList) : Rel E (.func f xs ys) (.func f xs' ys') :=
  .func f xs xs' ys ys' h.length h.at k.length k.at

section inv
variable {E : Env} {x : Value}
theorem Rel.of_leaf {v : Value} (h : Rel E v x) (hl : leafB v = true) : x = v := by
  cases h <;> first | rfl | simp [leafB] at hl
theorem Rel.to_agg {cs : Array Value} (h : Rel E (.agg cs) x) : ∃ cs', x = .agg cs' ∧ RelL E cs.toList cs'.toList := by
  cases h with
  | leaf _ h => simp [leafB] at h
  | agg xs xs' hs h => exact ⟨xs', rfl, RelL.of hs h⟩
theorem Rel.to_tuple {cs : Array Value} (h : Rel E (.tuple cs) x) : ∃ cs', x = .tuple cs' ∧ RelL E cs.toList cs'.toList := by
  cases h with
  | leaf _ h => simp [leafB] at h
  | tuple xs xs' hs h => exact ⟨xs', rfl, RelL.of hs h⟩
theorem Rel.to_func {f : Fn} {xs ys : Array Value} (h : Rel E (.func f xs ys) x) : ∃ xs' ys', x = .func f xs' ys' ∧ RelL E xs.toList xs'.toList ∧ RelL E ys.toList ys'.toList := by
  cases h with
  | leaf _ h => simp [leafB] at h
  | func f xs xs' ys ys' hs h hs' h' => exact ⟨xs', ys', rfl, RelL.of hs h, RelL.of hs' h'⟩
theorem Rel.to_iface {t : TypeId} {v : Value} (h : Rel E (.iface t v) x) : ∃ v', x = .iface t v' ∧ Rel E v v' := by
  cases h with
  | leaf _ h => simp [leafB] at h
  | iface t v v' h => exact ⟨v', rfl, h⟩
theorem Rel.to_ptr {i off : Nat} (h : Rel E (.pointer (some ⟨i, off, none⟩)) x) : ∃ b, E.ρ i = some b ∧ x = .pointer (some ⟨b, off, none⟩) := by
  cases h with
  | leaf _ h => simp [leafB] at h
  | ptr i b off h => exact ⟨b, h, rfl⟩
theorem Rel.to_ptr' {a : Addr} (h : Rel E (.pointer (some a)) x) : ∃ i b, E.ρ i = some b ∧ a = ⟨i, a.off, none⟩ ∧ x = .pointer (some ⟨b, a.off, none⟩) := by
  cases h with
  | leaf _ h => simp [leafB] at h
  | ptr i b off h => exact ⟨i, b, h, rfl, rfl⟩
theorem Rel.to_slice {i off len cap : Nat} (h : Rel E (.slice (some ⟨i, off, none⟩) len cap) x) :
    ∃ b cap', E.ρ i = some b ∧ x = .slice (some ⟨b, off, none⟩) len cap' ∧ len ≤ cap' ∧ (cap < capG → cap' = cap) ∧ (cap = capG → off = 0 ∧ cap' = E.κ i) := by
  cases h with
  | leaf _ h => simp [leafB] at h
  | slice i b off len cap cap' h hl hk hg => exact ⟨b, cap', h, rfl, hl, hk, hg⟩
theorem Rel.to_slice' {a : Option Addr} {len cap : Nat} (h : Rel E (.slice a len cap) x) : ∃ a' cap', x = .slice a' len cap' ∧ (a = none → a' = none ∧ cap' = cap) ∧
    (∀ s, a = some s → ∃ i b, E.ρ i = some b ∧ s = ⟨i, s.off, none⟩ ∧ a' = some ⟨b, s.off, none⟩ ∧ len ≤ cap' ∧ (cap < capG → cap' = cap) ∧ (cap = capG → s.off = 0 ∧ cap' = E.κ i)) := by
  cases h with
  | leaf _ h =>
    cases a with
    | none => exact ⟨none, cap, rfl, (fun _ => ⟨rfl, rfl⟩), (fun s e => by cases e)⟩
    | some s => simp [leafB] at h
  | slice i b off len cap cap' h hl hk hg => exact ⟨_, cap', rfl, (fun e => by cases e), (fun s e => by cases e; exact ⟨i, b, h, rfl, rfl, hl, hk, hg⟩)⟩
theorem Rel.to_map {i : Nat} (h : Rel E (.map (some i)) x) : ∃ b, E.ρ i = some b ∧ x = .map (some b) := by
  cases h with
  | leaf _ h => simp [leafB] at h
  | map i b h => exact ⟨b, h, rfl⟩
theorem RelL.of_leaf : ∀ {l l' : List Value}, RelL E l l' → l.all leafB = true → l' = l
  | [], [], _, _ => rfl
  | a :: l, b :: l', h, hl => by
    simp only [List.all_cons, Bool.and_eq_true] at hl
    rw [h.1.of_leaf hl.1, RelL.of_leaf h.2 hl.2]
theorem RelL.refl_leaf : ∀ {l : List Value}, l.all leafB = true → RelL E l l
  | [], _ => trivial
  | a :: l, hl => by
    simp only [List.all_cons, Bool.and_eq_true] at hl
    exact ⟨.leaf a hl.1, RelL.refl_leaf hl.2⟩
/-- What lies in a tuple that holds no address. -/
def partB (v : Value) : Bool := match v with
  | .agg cs => cs.toList.all leafB
  | .tuple us => us.isEmpty
  | v => leafB v
theorem flatB_tuple (vs : Array Value) : flatB (.tuple vs) = vs.toList.all partB := rfl
theorem Rel.of_part {v : Value} (h : Rel E v x) (hl : partB v = true) : x = v := by
  cases h with
  | leaf => rfl
  | agg xs xs' hs h =>
    have := RelL.of_leaf (RelL.of hs h) hl
    rw [Array.toList_inj.1 this]
  | tuple xs xs' hs h =>
    have h0 : xs = #[] := by simpa [partB] using hl
    subst h0
    have : xs' = #[] := by
      apply Array.toList_inj.1
      simpa using hs.symm
    rw [this]
  | ptr => simp [partB, leafB] at hl
  | slice => simp [partB, leafB] at hl
  | map => simp [partB, leafB] at hl
  | func => simp [partB, leafB] at hl
  | iface => simp [partB, leafB] at hl
theorem RelL.of_part : ∀ {l l' : List Value}, RelL E l l' → l.all partB = true → l' = l
  | [], [], _, _ => rfl
  | a :: l, b :: l', h, hl => by
    simp only [List.all_cons, Bool.and_eq_true] at hl
    rw [h.1.of_part hl.1, RelL.of_part h.2 hl.2]
theorem Rel.refl_part {v : Value} (hl : partB v = true) : Rel E v v := by
  cases v with
  | agg cs => exact relL_agg (RelL.refl_leaf hl)
  | tuple us =>
    have h0 : us = #[] := by simpa [partB] using hl
    subst h0
    exact relL_tuple trivial
  | _ => exact .leaf _ hl
theorem RelL.refl_part : ∀ {l : List Value}, l.all partB = true → RelL E l l
  | [], _ => trivial
  | a :: l, hl => by
    simp only [List.all_cons, Bool.and_eq_true] at hl
    exact ⟨.refl_part hl.1, RelL.refl_part hl.2⟩
theorem Rel.of_flat {v : Value} (h : Rel E v x) (hl : flatB v = true) : x = v := by
  cases h with
  | leaf => rfl
  | agg xs xs' hs h =>
    have := RelL.of_leaf (RelL.of hs h) hl
    rw [Array.toList_inj.1 this]
  | tuple xs xs' hs h =>
    have := RelL.of_part (RelL.of hs h) (flatB_tuple xs ▸ hl)
    rw [Array.toList_inj.1 this]
  | ptr => simp [flatB, leafB] at hl
  | slice => simp [flatB, leafB] at hl
  | map => simp [flatB, leafB] at hl
  | func => simp [flatB, leafB] at hl
  | iface => simp [flatB, leafB] at hl
theorem Rel.refl_flat {v : Value} (hl : flatB v = true) : Rel E v v := by
  cases v with
  | agg cs => exact relL_agg (RelL.refl_leaf hl)
  | tuple us => exact relL_tuple (RelL.refl_part (flatB_tuple us ▸ hl))
  | _ => exact .leaf _ hl
theorem Rel.cells {v : Value} (h : Rel E v x) : RelL E v.cells.toList x.cells.toList := by
  cases h with
  | leaf _ hv => cases x <;> first | exact ⟨.leaf _ hv, trivial⟩ | simp [leafB] at hv
  | agg xs xs' hs h => exact RelL.of hs h
  | ptr i b off h => exact ⟨.ptr i b off h, trivial⟩
  | slice i b off len cap cap' h hl hk hg => exact ⟨.slice i b off len cap cap' h hl hk hg, trivial⟩
  | map i b h => exact ⟨.map i b h, trivial⟩
  | func f xs xs' ys ys' hs h hs' h' => exact ⟨.func f xs xs' ys ys' hs h hs' h', trivial⟩
  | iface t v v' h => exact ⟨.iface t v v' h, trivial⟩
  | tuple xs xs' hs h => exact ⟨.tuple xs xs' hs h, trivial⟩
theorem Rel.cell {v : Value} (h : Rel E v x) (hc : cellB v = true) : cellB x = true := by
  cases h <;> first | exact hc | rfl | simp [cellB] at hc
theorem Rel.undef : Rel E undef undef := relL_tuple trivial
end inv
end Go.Proofs.YtphfjhpgcdmonaaGreatDoor.Exe
namespace Go.Proofs.YtphfjhpgcdmonaaGreatDoor.Exe
open Go Go.RowKit

/-- What lies under a name, and the block that it stands for. -/
def ObR (E : Env) (P : Program) (i : Nat) : Ob → Obj → Prop
  | .row b, o => ∃ cs fr, o = .cells cs b.elem fr ∧ (∀ k, k < cs.size → ¬ (fr.1 ≤ k ∧ k < fr.2)) ∧ RelL E b.cells (cs.toList.take b.cells.length) ∧
      (b.grow = false → cs.size = b.cells.length) ∧ (b.grow = true → ∃ info, P.info? b.elem = some info ∧ cs.size = E.κ i * info.size)
  | .map es clock, o => ∃ es', o = .map es' clock ∧ es'.toList.length = es.length ∧ ∀ (k : Nat) (e : Ent) (e' : MapEntry), es[k]? = some e → es'.toList[k]? = some e' → e'.key = e.key ∧ e'.born = e.born ∧ Rel E e.val e'.val
theorem ObR.mono {E E' : Env} {P : Program} {i b : Nat} {ob : Ob} {o : Obj} (hE : E.le E') (hi : E.ρ i = some b) (h : ObR E P i ob o) : ObR E' P i ob o := by
  cases ob with
  | row blk =>
    obtain ⟨cs, fr, h1, h2, h3, h4, h5⟩ := h
    exact ⟨cs, fr, h1, h2, h3.mono hE, h4, fun hg => by rw [(hE i b hi).2]; exact h5 hg⟩
  | map es clock =>
    obtain ⟨es', h1, h2, h3⟩ := h
    exact ⟨es', h1, h2, fun k e e' a c => ⟨(h3 k e e' a c).1, (h3 k e e' a c).2.1, (h3 k e e' a c).2.2.mono hE⟩⟩

/-- All that was there is as it was, but for the blocks of one's own. -/
structure Keep (S : Nat → Prop) (w w' : World) : Prop where
  os : w'.os = w.os
  tape : w'.tape = w.tape
  output : w'.output = w.output
  size : w.heap.size ≤ w'.heap.size
  block : ∀ k, k < w.heap.size → ¬ S k → w'.heap[k]? = w.heap[k]?
theorem Keep.refl (S : Nat → Prop) (w : World) : Keep S w w := ⟨rfl, rfl, rfl, Nat.le_refl _, fun _ _ _ => rfl⟩
theorem Keep.trans {S : Nat → Prop} {a b c : World} (h : Keep S a b) (k : Keep S b c) : Keep S a c :=
  ⟨k.os.trans h.os, k.tape.trans h.tape, k.output.trans h.output, Nat.le_trans h.size k.size, fun i hi hn => (k.block i (Nat.lt_of_lt_of_le hi h.size) hn).trans (h.block i hi hn)⟩
theorem Keep.drew {S : Nat → Prop} {a w : World} (h : Keep S a w) : Keep S a w.drew := ⟨h.os, h.tape, h.output, h.size, h.block⟩
theorem Keep.alloc (S : Nat → Prop) (w : World) (o : Obj) : Keep S w (w.alloc o) := ⟨rfl, rfl, rfl, by simp, fun k hk _ => Below.heap_alloc _ _ _ hk⟩
theorem Keep.freeze {S : Nat → Prop} {a w : World} (h : Keep S a w) {b : Nat} (hb : S b) (n : Nat) : Keep S a (w.freeze ⟨b, 0, none⟩ n) := by
  refine h.trans ?_
  unfold World.freeze
  split
  · exact Keep.refl S w
  · exact ⟨rfl, rfl, rfl, by simp, fun k _ hk => by
      have hne : ¬ b = k := fun e => hk (e ▸ hb)
      simp only [Array.getElem?_modify]
      rw [if_neg hne]⟩
theorem Keep.below {w w' : World} (h : Keep (fun k => w.heap.size ≤ k) w w') : Below w.heap.size w w' := ⟨h.os, h.tape, h.output, h.size, fun k hk => h.block k hk (Nat.not_le_of_lt hk)⟩
structure WR (E : Env) (P : Program) (B : Nat → Prop) (w0 w : World) (h : Hp) : Prop where
  below : Keep B w0 w
  base : ∀ k, w0.heap.size ≤ k → B k
  live : ∀ i ob b, h.ob i = some ob → E.ρ i = some b → ∃ o, B b ∧ w.heap[b]? = some o ∧ ObR E P i ob o
  inj : ∀ i j b, (h.ob i).isSome = true → (h.ob j).isSome = true → E.ρ i = some b → E.ρ j = some b → i = j
  fresh : ∀ i, h.next ≤ i → E.ρ i = none

theorem Hp.ob_small {h : Hp} {i : Nat} (hi : (h.ob i).isSome = true) : i < roomN := by
  unfold Hp.ob at hi
  cases hb : Nat.blt i roomN with
  | false => rw [hb] at hi; cases hi
  | true => exact Nat.le_of_ble_eq_true hb
theorem Hp.ob_eq {h : Hp} {i : Nat} (hi : i < roomN) : h.ob i = T4.get (path roomD i) h.t := by
  unfold Hp.ob
  rw [show Nat.blt i roomN = true from Nat.ble_eq_true_of_le hi]
  rfl
theorem Hp.ob_big {h : Hp} {i : Nat} (hi : ¬ i < roomN) : h.ob i = none := by
  cases hb : h.ob i with
  | none => rfl
  | some o => exact absurd (Hp.ob_small (by rw [hb]; rfl)) hi
theorem room_eq : roomN = 4 ^ roomD := by decide
theorem Hp.ob_put_same {h : Hp} {i : Nat} {v : Option Ob} (hi : i < roomN) : (h.put i v).ob i = v := by
  rw [Hp.ob_eq hi]
  unfold Hp.put
  rw [T4.putN_eq, T4.path_same]
  cases v
  · exact T4.get_none
  · exact T4.get_leaf _
theorem put_tree_other {t v : T4 Ob} {n n' i j : Nat} (hi : i < roomN) (hj : j ≠ i) : (⟨T4.putN v roomD i t, n⟩ : Hp).ob j = (⟨t, n'⟩ : Hp).ob j := by
  by_cases hs : j < roomN
  · rw [Hp.ob_eq hs, Hp.ob_eq hs, T4.putN_eq]
    exact T4.path_other _ (by rw [← room_eq]; exact hi) (by rw [← room_eq]; exact hs) hj _
  · rw [Hp.ob_big hs, Hp.ob_big hs]
theorem Hp.ob_put_other {h : Hp} {i j : Nat} {v : Option Ob} (hi : i < roomN) (hj : j ≠ i) : (h.put i v).ob j = h.ob j := put_tree_other hi hj
theorem Hp.next_put {h : Hp} {i : Nat} {v : Option Ob} : (h.put i v).next = h.next := rfl
theorem Hp.get_ob {h : Hp} {i : Nat} {b : Blk} (hb : h.get i = some b) : h.ob i = some (.row b) := by
  unfold Hp.get at hb
  split at hb
  · rename_i b' e; rw [e]; cases hb; rfl
  · cases hb
section
variable {E : Env} {P : Program} {B : Nat → Prop} {w0 w : World} {h : Hp}
theorem WR.base' (W : WR E P B w0 w h) : ∀ k, w.heap.size ≤ k → B k := fun k hk => W.base k (Nat.le_trans W.below.size hk)
theorem WR.row (W : WR E P B w0 w h) {i b : Nat} {blk : Blk} (hi : h.get i = some blk) (hρ : E.ρ i = some b) : ∃ cs fr, B b ∧ w.heap[b]? = some (.cells cs blk.elem fr) ∧ (∀ k, k < cs.size → ¬ (fr.1 ≤ k ∧ k < fr.2)) ∧
    RelL E blk.cells (cs.toList.take blk.cells.length) ∧ (blk.grow = false → cs.size = blk.cells.length) ∧ (blk.grow = true → ∃ info, P.info? blk.elem = some info ∧ cs.size = E.κ i * info.size) := by
  obtain ⟨o, h2, h3, cs, fr, rfl, h4, h5, h6, h7⟩ := W.live i _ b (Hp.get_ob hi) hρ
  exact ⟨cs, fr, h2, h3, h4, h5, h6, h7⟩
/-- A name that is put on anew, with the same block. -/
theorem WR.update (W : WR E P B w0 w h) {i b : Nat} {ob ob' : Ob} {o : Obj} (hi : h.ob i = some ob) (hρ : E.ρ i = some b) (hO : ObR E P i ob' o) : WR E P B w0 (w.putObj b o) (h.put i (some ob')) := by
  have hlt : i < roomN := Hp.ob_small (by rw [hi]; rfl)
  have hsm : ∀ j, ((h.put i (some ob')).ob j).isSome = true → (h.ob j).isSome = true := fun j hj => by
    by_cases hji : j = i
    · rw [hji, hi]; rfl
    · rwa [Hp.ob_put_other hlt hji] at hj
  obtain ⟨o', h2, h3, _⟩ := W.live i ob b hi hρ
  have hb : b < w.heap.size := (Array.getElem?_eq_some_iff.1 h3).1
  refine ⟨W.below.trans ⟨rfl, rfl, rfl, by simp, fun k _ hk => World.putObj_heap_other (by rintro rfl; exact hk h2)⟩, W.base, fun j oj c hj hc => ?_, fun j k c hj hk => W.inj j k c (hsm j hj) (hsm k hk), fun j hj => W.fresh j hj⟩
  by_cases hji : j = i
  · subst hji
    rw [Hp.ob_put_same hlt] at hj
    cases hj
    obtain rfl : b = c := Option.some.inj (hρ.symm.trans hc)
    exact ⟨o, h2, World.putObj_heap_same hb, hO⟩
  · rw [Hp.ob_put_other hlt hji] at hj
    obtain ⟨oc, k2, k3, k4⟩ := W.live j oj c hj hc
    refine ⟨oc, k2, (World.putObj_heap_other (fun e => ?_)).trans k3, k4⟩
    exact hji (W.inj j i b (by rw [hj]; rfl) (by rw [hi]; rfl) (e ▸ hc) hρ)
/-- A name that is given up. -/
theorem WR.kill (W : WR E P B w0 w h) (i : Nat) (hlt : i < roomN) : WR E P B w0 w (h.put i none) := by
  have key : ∀ j, j ≠ i → (h.put i none).ob j = h.ob j := fun j hj => Hp.ob_put_other hlt hj
  have hself : (h.put i none).ob i = none := Hp.ob_put_same hlt
  have sm : ∀ j, ((h.put i none).ob j).isSome = true → (h.ob j).isSome = true := fun j hj => by
    by_cases hji : j = i
    · rw [hji, hself] at hj; cases hj
    · rwa [key j hji] at hj
  refine ⟨W.below, W.base, fun j oj c hj hc => ?_, fun j k c hj hk => W.inj j k c (sm j hj) (sm k hk), fun j hj => W.fresh j hj⟩
  by_cases hji : j = i
  · rw [hji, hself] at hj; cases hj
  · rw [key j hji] at hj; exact W.live j oj c hj hc
/-- One more name. -/
def Env.upd (E : Env) (i b c : Nat) : Env := ⟨fun j => if j = i then some b else E.ρ j, fun j => if j = i then c else E.κ j⟩
theorem Env.upd_same (E : Env) (i b c : Nat) : (E.upd i b c).ρ i = some b ∧ (E.upd i b c).κ i = c := by simp [Env.upd]
theorem Env.le_upd {E : Env} {i b c : Nat} (hi : E.ρ i = none) : E.le (E.upd i b c) := fun j d hj => by
  have hne : j ≠ i := fun e => by rw [e, hi] at hj; cases hj
  simp [Env.upd, hne, hj]
/-- A name that stood for no block, and now stands for one that no name that is still there stands for. -/
theorem WR.bind (W : WR E P B w0 w h) {w' : World} (hw : Keep B w w') {i : Nat} {ob : Ob} {o : Obj} {b c : Nat} (hi : h.ob i = some ob) (hn : E.ρ i = none) (hlt : i < h.next) (hB : B b) (hno : ∀ j, (h.ob j).isSome = true → E.ρ j ≠ some b)
    (hkeep : ∀ k, k ≠ b → k < w.heap.size → w'.heap[k]? = w.heap[k]?) (hb : w'.heap[b]? = some o) (hO : ObR (E.upd i b c) P i ob o) : WR (E.upd i b c) P B w0 w' h := by
  have hle : E.le (E.upd i b c) := Env.le_upd hn
  have hother : ∀ j d, j ≠ i → ((E.upd i b c).ρ j = some d ↔ E.ρ j = some d) := fun j d hj => by simp [Env.upd, hj]
  refine ⟨W.below.trans hw, W.base, fun j oj d hj hd => ?_, fun j k d hj hk hjd hkd => ?_, fun j hj => ?_⟩
  · by_cases hji : j = i
    · subst hji
      rw [hi] at hj
      cases hj
      rw [(Env.upd_same E _ b c).1] at hd
      cases hd
      exact ⟨o, hB, hb, hO⟩
    · have hd' := (hother j d hji).1 hd
      obtain ⟨od, k2, k3, k4⟩ := W.live j oj d hj hd'
      exact ⟨od, k2, (hkeep d (fun e => hno j (by rw [hj]; rfl) (e ▸ hd')) (Array.getElem?_eq_some_iff.1 k3).1).trans k3, k4.mono hle hd'⟩
  · by_cases hji : j = i <;> by_cases hki : k = i
    · rw [hji, hki]
    · subst hji
      rw [(Env.upd_same E _ b c).1] at hjd
      cases hjd
      exact absurd ((hother k b hki).1 hkd) (hno k hk)
    · subst hki
      rw [(Env.upd_same E _ b c).1] at hkd
      cases hkd
      exact absurd ((hother j b hji).1 hjd) (hno j hj)
    · exact W.inj j k d hj hk ((hother j d hji).1 hjd) ((hother k d hki).1 hkd)
  · have hne : j ≠ i := by omega
    simp only [Env.upd, hne, if_false]
    exact W.fresh j hj
theorem allocOb_some {ob : Ob} {i : Nat} {h' : Hp} (ha : h.allocOb ob = some (i, h')) : i = h.next ∧ h.next < roomN ∧ h' = ⟨T4.putN (.leaf ob) roomD h.next h.t, h.next + 1⟩ := by
  unfold Hp.allocOb at ha
  cases hb : Nat.blt h.next roomN with
  | false => rw [hb] at ha; cases ha
  | true =>
    rw [hb] at ha
    cases ha
    exact ⟨rfl, Nat.le_of_ble_eq_true hb, rfl⟩
theorem allocOb_self {ob : Ob} {i : Nat} {h' : Hp} (ha : h.allocOb ob = some (i, h')) : h'.ob i = some ob := by
  obtain ⟨rfl, hn, rfl⟩ := allocOb_some ha
  rw [Hp.ob_eq hn, T4.putN_eq]
  exact (T4.path_same _ _ _ _).trans (T4.get_leaf _)
theorem allocOb_other {ob : Ob} {i j : Nat} {h' : Hp} (ha : h.allocOb ob = some (i, h')) (hj : j ≠ i) : h'.ob j = h.ob j := by
  obtain ⟨rfl, hn, rfl⟩ := allocOb_some ha
  exact put_tree_other hn hj
/-- A name more, that stands for no block as yet. -/
theorem WR.float (W : WR E P B w0 w h) {ob : Ob} {i : Nat} {h' : Hp} (ha : h.allocOb ob = some (i, h')) : WR E P B w0 w h' := by
  have hi := (allocOb_some ha).1
  have hnx : h'.next = h.next + 1 := by rw [(allocOb_some ha).2.2]
  have hno : ∀ b, E.ρ i ≠ some b := fun b e => by rw [hi, W.fresh _ (Nat.le_refl _)] at e; cases e
  refine ⟨W.below, W.base, fun j oj c hj hc => ?_, fun j k c hj hk hjc hkc => ?_, fun j hj => W.fresh j (by omega)⟩
  · by_cases hji : j = i
    · exact absurd (hji ▸ hc) (hno c)
    · rw [allocOb_other ha hji] at hj
      exact W.live j oj c hj hc
  · by_cases hji : j = i
    · exact absurd (hji ▸ hjc) (hno c)
    · by_cases hki : k = i
      · exact absurd (hki ▸ hkc) (hno c)
      · rw [allocOb_other ha hji] at hj
        rw [allocOb_other ha hki] at hk
        exact W.inj j k c hj hk hjc hkc
/-- No name stands for a block that is not there yet. -/
theorem WR.unborn (W : WR E P B w0 w h) {j : Nat} (hj : (h.ob j).isSome = true) : E.ρ j ≠ some w.heap.size := fun e => by
  obtain ⟨ob, hob⟩ := Option.isSome_iff_exists.1 hj
  obtain ⟨o', _, h3, _⟩ := W.live j ob _ hob e
  have := (Array.getElem?_eq_some_iff.1 h3).1
  omega
/-- A new block, for a name that stood for none. -/
theorem WR.born (W : WR E P B w0 w h) {ob : Ob} {o : Obj} {i c : Nat} (hi : h.ob i = some ob) (hn : E.ρ i = none) (hlt : i < h.next) (hO : ObR (E.upd i w.heap.size c) P i ob o) : WR (E.upd i w.heap.size c) P B w0 (w.alloc o) h :=
  W.bind (Keep.alloc B w o) hi hn hlt (W.base' _ (Nat.le_refl _)) (fun _ hj => W.unborn hj) (fun _ _ hk => Below.heap_alloc _ _ _ hk) (World.alloc_heap_new w o) hO
/-- A new name for a block that no name that is still there stands for. -/
theorem WR.name (W : WR E P B w0 w h) {w' : World} (hw : Keep B w w') {ob : Ob} {o : Obj} {i b c : Nat} {h' : Hp} (ha : h.allocOb ob = some (i, h')) (hB : B b) (hno : ∀ i, (h.ob i).isSome = true → E.ρ i ≠ some b)
    (hkeep : ∀ k, k ≠ b → k < w.heap.size → w'.heap[k]? = w.heap[k]?) (hb : w'.heap[b]? = some o) (hO : ObR (E.upd i b c) P i ob o) : WR (E.upd i b c) P B w0 w' h' := by
  have hi := (allocOb_some ha).1
  have hn : E.ρ i = none := by rw [hi]; exact W.fresh _ (Nat.le_refl _)
  refine (W.float ha).bind hw (allocOb_self ha) hn (by rw [(allocOb_some ha).2.2, hi]; exact Nat.lt_succ_self _) hB (fun j hj e => ?_) hkeep hb hO
  by_cases hji : j = i
  · rw [hji, hn] at e; cases e
  · exact hno j (by rwa [allocOb_other ha hji] at hj) e
/-- A new block. -/
theorem WR.alloc (W : WR E P B w0 w h) {ob : Ob} {o : Obj} {i c : Nat} {h' : Hp} (ha : h.allocOb ob = some (i, h')) (hO : ObR (E.upd i w.heap.size c) P i ob o) : WR (E.upd i w.heap.size c) P B w0 (w.alloc o) h' ∧ E.le (E.upd i w.heap.size c) ∧ (E.upd i w.heap.size c).ρ i = some w.heap.size := by
  have hi := (allocOb_some ha).1
  have hn : E.ρ i = none := by rw [hi]; exact W.fresh _ (Nat.le_refl _)
  exact ⟨(W.float ha).born (allocOb_self ha) hn (by rw [(allocOb_some ha).2.2, hi]; exact Nat.lt_succ_self _) hO, Env.le_upd hn, (Env.upd_same _ _ _ _).1⟩
end

/-- The names of before stand for what they stood for; those that stood for nothing still do. -/
def Grow (E : Env) (h : Hp) (E' : Env) (h' : Hp) : Prop := E.le E' ∧ h.next ≤ h'.next ∧ ∀ i, i < h.next → E.ρ i = none → E'.ρ i = none
theorem Grow.same {E : Env} {h h' : Hp} (hn : h'.next = h.next) : Grow E h E h' := ⟨E.le_refl, Nat.le_of_eq hn.symm, fun _ _ h => h⟩
theorem Grow.refl (E : Env) (h : Hp) : Grow E h E h := Grow.same rfl
theorem Grow.trans {E1 E2 E3 : Env} {h1 h2 h3 : Hp} (g : Grow E1 h1 E2 h2) (k : Grow E2 h2 E3 h3) : Grow E1 h1 E3 h3 :=
  ⟨Env.le_trans g.1 k.1, Nat.le_trans g.2.1 k.2.1, fun i hi hn => k.2.2 i (Nat.lt_of_lt_of_le hi g.2.1) (g.2.2 i hi hn)⟩
theorem Grow.upd {E : Env} {h h' : Hp} {i b c : Nat} (hi : i = h.next) (hn : h'.next = h.next + 1) (hf : E.ρ i = none) : Grow E h (E.upd i b c) h' :=
  ⟨Env.le_upd hf, by omega, fun j hj h0 => by
    have : j ≠ i := by omega
    simp [Env.upd, this, h0]⟩
theorem allocOb_next {h h' : Hp} {ob : Ob} {i : Nat} (ha : h.allocOb ob = some (i, h')) : h'.next = h.next + 1 := by rw [(allocOb_some ha).2.2]
theorem storeCellsL_next {h h' : Hp} {i off : Nat} {vs : List Value} (hs : storeCellsL h i off vs = some h') : h'.next = h.next := by
  unfold storeCellsL at hs
  split at hs
  · cases hs; rfl
  · split at hs
    · rename_i blk _
      cases hc : (Nat.ble (off + vs.length) blk.raw.len && vs.all cellB) with
      | false => rw [hc] at hs; cases hs
      | true => rw [hc] at hs; cases hs; rfl
    · cases hs
theorem storeL_next {P : Program} {h h' : Hp} {t : TypeId} {a v : Value} (hs : storeL P h t a v = some h') : h'.next = h.next := by
  unfold storeL at hs
  split at hs
  · split at hs
    · exact storeCellsL_next hs
    · cases hs
  · cases hs
theorem updateL_next {P : Program} {h h' : Hp} {t : TypeId} {m k v : Value} (hs : updateL P h t m k v = some h') : h'.next = h.next := by
  unfold updateL at hs
  split at hs
  · split at hs
    · rename_i kt et r hu x es clock _
      cases hf : findK P kt k false es with
      | none => simp [hf] at hs
      | some r =>
        simp only [hf, Option.map_some, Option.some.injEq] at hs
        rw [← hs]
        cases r <;> rfl
    · cases hs
  · cases hs
section mem
variable {E : Env} {P : Program} {B : Nat → Prop} {w0 w : World} {h : Hp}
theorem cell_of {w : World} {b off : Nat} {cs : Array Value} {t : TypeId} {fr : Nat × Nat} (hb : w.heap[b]? = some (.cells cs t fr)) : w.cell? ⟨b, off, none⟩ = cs[off]? := by
  simp [World.cell?, hb]
theorem add_none (b off n : Nat) : (⟨b, off, none⟩ : Addr).add n = ⟨b, off + n, none⟩ := by
  unfold Addr.add; split <;> simp_all
/-- Cells that are read. -/
theorem cellsAt_eq {i off n : Nat} {cs : List Value} (hc : cellsAt h i off n = some cs) : ∃ blk, h.get i = some blk ∧ off + n ≤ blk.cells.length ∧ cs = (blk.cells.drop off).take n ∧ cs.length = n := by
  unfold cellsAt at hc
  split at hc
  · rename_i blk hblk
    cases hb : Nat.ble (off + n) blk.raw.len with
    | false => rw [hb] at hc; cases hc
    | true =>
      rw [hb] at hc
      have hle : off + n ≤ blk.cells.length := by rw [Blk.length]; exact Nat.le_of_ble_eq_true hb
      simp only [cond_true, Option.some.injEq] at hc
      rw [Row.sub_list] at hc
      exact ⟨blk, hblk, hle, hc.symm, by rw [← hc]; show (List.take n (List.drop off blk.cells)).length = n; simp; omega⟩
  · cases hc
theorem run_cells (W : WR E P B w0 w h) {i off n b : Nat} {cs : List Value} (hρ : E.ρ i = some b) (hc : cellsAt h i off n = some cs) :
    ∃ cs', B b ∧ RelL E cs cs' ∧ cs.length = n ∧ (loadCells ⟨b, off, none⟩ n).run P w = .ok cs'.toArray w := by
  obtain ⟨blk, hblk, hle, rfl, hlen⟩ := cellsAt_eq hc
  obtain ⟨cur, fr, h2, h3, _, h5, _, _⟩ := W.row hblk hρ
  have hR := (h5.drop off).take n
  have hlen' := hR.length
  refine ⟨_, h2, hR, hlen, ?_⟩
  have := run_loadCells_list (P := P) w ⟨b, off, none⟩ (((cur.toList.take blk.cells.length).drop off).take n) (fun j v hj => by
    rw [add_none, cell_of h3]
    rw [List.getElem?_take] at hj
    split at hj
    · rw [List.getElem?_drop, List.getElem?_take] at hj
      split at hj
      · simpa using hj
      · cases hj
    · cases hj)
  rw [← hlen', hlen] at this
  exact this
theorem run_cell (W : WR E P B w0 w h) {i off b : Nat} {blk : Blk} {v : Value} (hρ : E.ρ i = some b) (hb : h.get i = some blk) (hv : blk.cells[off]? = some v) :
    ∃ x, Rel E v x ∧ (load ⟨b, off, none⟩).run P w = .ok x w := by
  obtain ⟨cur, fr, _, h3, _, h5, _, _⟩ := W.row hb hρ
  obtain ⟨x, hx, hr⟩ := h5.get hv
  refine ⟨x, hr, ?_⟩
  rw [List.getElem?_take] at hx
  split at hx
  · have hc : w.cell? ⟨b, off, none⟩ = some x := by rw [cell_of h3]; simpa using hx
    simp [run_load, hc]
  · cases hx
theorem setCell_put {w : World} {b off : Nat} {cur : Array Value} {t : TypeId} {fr : Nat × Nat} {v : Value} (hb : w.heap[b]? = some (.cells cur t fr)) :
    w.setCell ⟨b, off, none⟩ v = w.putObj b (.cells (cur.setIfInBounds off v) t fr) := by
  unfold World.setCell World.putObj
  congr 1
  apply Array.ext_getElem?
  intro k
  rw [Array.getElem?_modify, Array.getElem?_setIfInBounds]
  by_cases hk : b = k
  · subst hk
    obtain ⟨hlt, hv⟩ := Array.getElem?_eq_some_iff.1 hb
    simp [hlt, hv]
  · simp [hk]
theorem putObj_putObj {w : World} {b : Nat} {o o' : Obj} : (w.putObj b o).putObj b o' = w.putObj b o' := by
  simp [World.putObj]
theorem putObj_self {w : World} {b : Nat} {o : Obj} (hb : w.heap[b]? = some o) : w.putObj b o = w := by
  unfold World.putObj
  have : w.heap.setIfInBounds b o = w.heap := by
    apply Array.ext_getElem?
    intro k
    rw [Array.getElem?_setIfInBounds]
    by_cases hk : b = k
    · subst hk
      obtain ⟨hlt, hv⟩ := Array.getElem?_eq_some_iff.1 hb
      simp [hlt, hv]
    · simp [hk]
  rw [this]
theorem run_store_cells {b : Nat} {t : TypeId} {fr : Nat × Nat} {off : Nat} : ∀ (vs : List Value) (i : Nat) (cur : Array Value) (w : World), w.heap[b]? = some (.cells cur t fr) → (∀ k, k < cur.size → ¬ (fr.1 ≤ k ∧ k < fr.2)) → off + i + vs.length ≤ cur.size → vs.all cellB = true →
    (storeCells ⟨b, off, none⟩ vs i).run P w = .ok () (w.putObj b (.cells (setAll cur.toList (off + i) vs).toArray t fr))
  | [], i, cur, w, hb, _, _, _ => by
    simp only [storeCells, setAll, Array.toArray_toList]
    rw [putObj_self hb]
    rfl
  | v :: vs, i, cur, w, hb, hfr, hl, hc => by
    simp only [List.all_cons, Bool.and_eq_true] at hc
    have hi : off + i < cur.size := by simp at hl; omega
    have hcell : w.cell? ⟨b, off + i, none⟩ = some cur[off + i] := by rw [cell_of hb]; simp [hi]
    have hfro : w.frozen? ⟨b, off + i, none⟩ = false := by
      simp only [World.frozen?, hb, Bool.and_eq_false_iff, decide_eq_false_iff_not]
      have := hfr (off + i) hi
      by_cases h1 : fr.1 ≤ off + i
      · right; exact fun h2 => this ⟨h1, h2⟩
      · left; exact h1
    have hv : v.oneCell' = true := by
      have := hc.1
      cases v <;> first | rfl | simp [cellB] at this
    have hst : (store ((⟨b, off, none⟩ : Addr).add i) v).run P w = .ok () (w.putObj b (.cells (cur.setIfInBounds (off + i) v) t fr)) := by
      rw [add_none, run_store P w _ v _ hv, hcell]
      simp [hfro, setCell_put hb]
    have hlt := (Array.getElem?_eq_some_iff.1 hb).1
    have ih := run_store_cells (off := off) vs (i + 1) (cur.setIfInBounds (off + i) v) (w.putObj b (.cells (cur.setIfInBounds (off + i) v) t fr)) (World.putObj_heap_same hlt) (by simpa using hfr) (by simp at hl ⊢; omega) hc.2
    simp only [storeCells, Sem.run_bind, hst, Result.andThen_ok, ih, putObj_putObj, setAll, Array.toList_setIfInBounds]
    rw [show off + (i + 1) = off + i + 1 by omega]
theorem setAll_length : ∀ (cs : List Value) (n : Nat) (vs : List Value), (setAll cs n vs).length = cs.length
  | _, _, [] => rfl
  | cs, n, v :: vs => by rw [setAll, setAll_length]; simp
theorem RelL.setAll : ∀ {l l' : List Value} {vs vs' : List Value} (n : Nat), RelL E l l' → RelL E vs vs' → RelL E (setAll l n vs) (setAll l' n vs')
  | _, _, [], [], _, h, _ => h
  | _, _, _ :: _, _ :: _, n, h, k => RelL.setAll (n + 1) (h.set n k.1) k.2
theorem setAll_take : ∀ (cs : List Value) (n m : Nat) (vs : List Value), n + vs.length ≤ m → (setAll cs n vs).take m = setAll (cs.take m) n vs
  | _, _, _, [], _ => rfl
  | cs, n, m, v :: vs, h => by
    simp only [setAll]
    rw [setAll_take _ (n + 1) m vs (by simp at h; omega), List.take_set]
theorem RelL.allCell : ∀ {l l' : List Value}, RelL E l l' → l.all cellB = true → l'.all cellB = true
  | [], [], _, _ => rfl
  | _ :: _, _ :: _, h, hc => by
    simp only [List.all_cons, Bool.and_eq_true] at hc ⊢
    exact ⟨h.1.cell hc.1, RelL.allCell h.2 hc.2⟩
theorem putMany_ok : ∀ (vs : List Value) (blk : Blk) (off : Nat), off + vs.length ≤ blk.raw.len → (blk.putMany off vs).cells = setAll blk.cells off vs ∧ (blk.putMany off vs).elem = blk.elem ∧ (blk.putMany off vs).grow = blk.grow
  | [], _, _, _ => ⟨rfl, rfl, rfl⟩
  | v :: vs, blk, off, hl => by
    have hl' : off + 1 + vs.length ≤ (⟨blk.raw.set off (.o v), blk.elem, blk.grow⟩ : Blk).raw.len := by
      show _ ≤ (blk.raw.set off (.o v)).len
      rw [Row.set_len]
      simp at hl
      omega
    obtain ⟨h1, h2, h3⟩ := putMany_ok vs _ (off + 1) hl'
    refine ⟨h1.trans ?_, h2, h3⟩
    show setAll (blk.raw.set off (.o v)).list (off + 1) vs = _
    rw [Row.set_list (by simp at hl; omega)]
    rfl
theorem putAll_ok (vs : List Value) (blk : Blk) (off : Nat) (hl : off + vs.length ≤ blk.raw.len) : (blk.putAll off vs).cells = setAll blk.cells off vs ∧ (blk.putAll off vs).elem = blk.elem ∧ (blk.putAll off vs).grow = blk.grow := by
  unfold Blk.putAll
  split
  · rename_i v
    refine ⟨?_, rfl, rfl⟩
    show (blk.raw.set off (toW v)).list = _
    rw [Row.set_list (by simp at hl; omega), toW_val]
    rfl
  · exact putMany_ok vs blk off hl
/-- Cells that are written. -/
theorem run_stores (W : WR E P B w0 w h) {i off b : Nat} {vs xs : List Value} {h' : Hp} (hs : storeCellsL h i off vs = some h') (hR : RelL E vs xs) (hρ : E.ρ i = some b) :
    ∃ w', (storeCells ⟨b, off, none⟩ xs).run P w = .ok () w' ∧ WR E P B w0 w' h' := by
  unfold storeCellsL at hs
  split at hs
  · cases hs
    cases xs with
    | nil => exact ⟨w, rfl, W⟩
    | cons _ _ => exact hR.elim
  · split at hs
    · rename_i blk hblk
      cases hc : (Nat.ble (off + vs.length) blk.raw.len && vs.all cellB) with
      | false => rw [hc] at hs; cases hs
      | true =>
        rw [hc] at hs
        cases hs
        simp only [Bool.and_eq_true] at hc
        have hlen0 : off + vs.length ≤ blk.raw.len := Nat.le_of_ble_eq_true hc.1
        have hlen : off + vs.length ≤ blk.cells.length := by rw [Blk.length]; exact hlen0
        obtain ⟨c1, c2, c3⟩ := putAll_ok vs blk off hlen0
        obtain ⟨cur, fr, h2, h3, h4, h5, h6, h7⟩ := W.row hblk hρ
        have hsz : blk.cells.length ≤ cur.size := by
          have := h5.length
          rw [List.length_take] at this
          simp at this
          omega
        have hx := hR.length
        refine ⟨_, run_store_cells (P := P) xs 0 cur w h3 h4 (by omega) (hR.allCell hc.2), ?_⟩
        refine W.update (Hp.get_ob hblk) hρ ⟨_, fr, by rw [c2], by simpa [setAll_length] using h4, ?_, fun hg => by rw [c3] at hg; rw [c1]; simpa [setAll_length] using h6 hg, fun hg => by
          rw [c3] at hg
          obtain ⟨info, k1, k2⟩ := h7 hg
          exact ⟨info, by rw [c2]; exact k1, by simpa [setAll_length] using k2⟩⟩
        rw [c1]
        simp only [setAll_length, Nat.add_zero]
        rw [setAll_take _ _ _ _ (by omega)]
        exact h5.setAll off hR
    · cases hs
end mem
/-- A piece of the model that looks at no memory. -/
theorem pureRun_run {α : Type} {P : Program} {w : World} : ∀ {s : Sem α} {a : α}, pureRun P s = some a → s.run P w = .ok a w
  | .pure _, _, h => by simp only [pureRun, Option.some.injEq] at h; rw [h]; rfl
  | .program k, a, h => pureRun_run (s := k P) h
  | .mark _ k, a, h => pureRun_run (s := k) h
  | .load .., _, h => by simp [pureRun] at h
  | .store .., _, h => by simp [pureRun] at h
  | .new .., _, h => by simp [pureRun] at h
  | .shape .., _, h => by simp [pureRun] at h
  | .freeze .., _, h => by simp [pureRun] at h
  | .frozen .., _, h => by simp [pureRun] at h
  | .getObj .., _, h => by simp [pureRun] at h
  | .setObj .., _, h => by simp [pureRun] at h
  | .choose .., _, h => by simp [pureRun] at h
  | .sys .., _, h => by simp [pureRun] at h
  | .halt .., _, h => by simp [pureRun] at h
end Go.Proofs.YtphfjhpgcdmonaaGreatDoor.Exe
namespace Go.Proofs.YtphfjhpgcdmonaaGreatDoor.Exe
open Go Go.RowKit
section types
variable {P : Program} {w : World} {t : TypeId}
theorem run_size {n : Nat} (h : szQ P t = some n) : (sizeOf t).run P w = .ok n w := by
  unfold szQ at h
  cases hi : P.info? t with
  | none => simp [hi] at h
  | some i => simp [sizeOf, typeInfo, hi] at h ⊢; exact h
theorem run_und {d : TypeDesc} (h : P.underlying t = some d) : (underlying t).run P w = .ok d w := run_underlying h w
theorem run_agg {b : Bool} (h : aggQ P t = some b) : (isAgg t).run P w = .ok b w := by
  unfold aggQ at h
  split at h
  · rename_i fs hu; cases h; simp [isAgg, run_und hu]
  · rename_i n e hu; cases h; simp [isAgg, run_und hu]
  · rename_i d n1 n2 hu
    cases h
    simp only [isAgg, Sem.run_bind, run_und hu, Result.andThen_ok]
    rfl
  · cases h
theorem run_zero {v : Value} (h : zeroQ P t = some v) : (zeroValue t).run P w = .ok v w ∧ flatB v = true := by
  unfold zeroQ at h
  cases hi : P.info? t with
  | none => simp [hi] at h
  | some i =>
    cases hz : i.zero with
    | none => simp [hi, hz] at h
    | some z =>
      simp only [hi, Option.bind_some, hz] at h
      split at h
      · rename_i hf
        cases h
        exact ⟨by simp [zeroValue, typeInfo, hi, hz], hf⟩
      · cases h
end types
section quiet
variable {E : Env} {P : Program} {B : Nat → Prop} {w0 w : World} {h : Hp} {η : Operand → Value} {τ : Tmps} {a : Act}
theorem evL_rel (T : RelL E τ a.tmps.toList) {x : Operand} (hx : opdB x = true) : Rel E (ev τ x) (a.eval x) := by
  cases x with
  | tmp t =>
    have hl := T.length
    by_cases ht : t < τ.length
    · have h1 : τ[t]? = some τ[t] := List.getElem?_eq_getElem ht
      obtain ⟨c, hc, hr⟩ := T.get h1
      have : a.eval (.tmp t) = c := by
        show a.tmps.getD t undef = c
        rw [Array.getD_eq_getD_getElem?, ← Array.getElem?_toList, hc]
        rfl
      rw [this]
      simpa [ev, List.getD, h1] using hr
    · have h1 : τ[t]? = none := List.getElem?_eq_none (Nat.le_of_not_lt ht)
      have h2 : a.tmps[t]? = none := Array.getElem?_eq_none (by simp at hl; rw [← hl]; exact Nat.le_of_not_lt ht)
      have h3 : a.eval (.tmp t) = undef := by
        show a.tmps.getD t undef = undef
        rw [Array.getD_eq_getD_getElem?, h2]; rfl
      rw [h3]
      simpa [ev, List.getD, h1] using Rel.undef
  | const v => exact Rel.refl_flat hx
  | global g => simp [opdB] at hx
  | func f => exact relL_func (E := E) (xs := #[]) (xs' := #[]) (ys := #[]) (ys' := #[]) trivial trivial
/-- Operands by names, and by numbers. -/
def RelE (p : Operand → Bool) (E : Env) (η : Operand → Value) (a : Act) : Prop := ∀ x, p x = true → Rel E (η x) (a.eval x)
theorem ev_rel {p : Operand → Bool} (T : RelE p E η a) {x : Operand} (hx : p x = true) : Rel E (η x) (a.eval x) := T x hx
theorem loadQ_ok (W : WR E P B w0 w h) {t : TypeId} {v x r : Value} (hq : loadQ P h t v = some r) (hr : Rel E v x) : ∃ y, Rel E r y ∧ (Instr.loadAt t x).run P w = .ok y w := by
  unfold loadQ at hq
  split at hq
  · rename_i i off
    obtain ⟨b, hρ, rfl⟩ := hr.to_ptr
    split at hq
    · rename_i n hA hS
      cases hc : cellsAt h i off n with
      | none => simp [hc] at hq
      | some cs =>
        simp only [hc, Option.map_some, Option.some.injEq] at hq
        subst hq
        obtain ⟨cs', _, h3, _, h4⟩ := run_cells W hρ hc
        exact ⟨.agg cs'.toArray, relL_agg (by simpa using h3), by simp [Instr.loadAt, Instr.sureAddr, loadVar, run_agg hA, run_size hS, h4]⟩
    · rename_i hA
      cases hc : h.get i with
      | none => simp [hc] at hq
      | some blk =>
        simp only [hc, Option.bind_some, Option.map_eq_some_iff] at hq
        obtain ⟨v, hv, rfl⟩ := hq
        obtain ⟨x, h2, h3⟩ := run_cell W hρ hc (Row.at_list hv)
        refine ⟨x, h2, ?_⟩
        simp only [Instr.loadAt, Instr.sureAddr, loadVar, Sem.run_bind, Sem.run_pure, Result.andThen_ok, run_agg hA]
        simpa using h3
    · cases hq
  · cases hq
theorem fieldAddrQ_ok {s : TypeId} {v x r : Value} {f : Nat} (hq : fieldAddrQ P s v f = some r) (hr : Rel E v x) : ∃ y, Rel E r y ∧ (Instr.fieldAt s x f).run P w = .ok y w := by
  unfold fieldAddrQ at hq
  split at hq
  · rename_i fields i off hu
    obtain ⟨b, hρ, rfl⟩ := hr.to_ptr
    split at hq
    · rename_i fd hf
      split at hq
      · rename_i n hS
        cases hq
        exact ⟨_, .ptr i b _ hρ, by simp [Instr.fieldAt, run_und hu, hf, Instr.sureAddr, fieldPlace, run_size hS, add_none]⟩
      · cases hq
    · cases hq
  · cases hq
theorem partQ_ok {t : TypeId} {cs cs' : Array Value} {off : Nat} {r : Value} (hq : partQ P t cs off = some r) (hr : RelL E cs.toList cs'.toList) : ∃ y, Rel E r y ∧ (part t cs' off).run P w = .ok y w := by
  unfold partQ at hq
  split at hq
  · rename_i n hA hS
    cases hq
    refine ⟨.agg (cs'.extract off (off + n)), relL_agg ?_, by simp [part, run_agg hA, run_size hS]⟩
    simpa [List.extract] using (hr.drop off).take n
  · rename_i hA
    obtain ⟨y, h1, h2⟩ := hr.get hq
    refine ⟨y, h2, ?_⟩
    have h3 : cs'[off]? = some y := by simpa using h1
    simp [part, run_agg hA, h3]
  · cases hq
theorem fieldQ_ok {t : TypeId} {v x r : Value} {f : Nat} (hq : fieldQ P t v f = some r) (hr : Rel E v x) : ∃ y, Rel E r y ∧ (Instr.field t x f).run P w = .ok y w := by
  unfold fieldQ at hq
  split at hq
  · rename_i fields cs hu
    obtain ⟨cs', rfl, hR⟩ := hr.to_agg
    split at hq
    · rename_i fd hf
      obtain ⟨y, h1, h2⟩ := partQ_ok (w := w) hq hR
      exact ⟨y, h1, by simp [Instr.field, run_und hu, hf, asAgg, h2]⟩
    · cases hq
  · cases hq
theorem Rel.of_int {k : IntKind} {n : Int} {x : Value} (h : Rel E (.int k n) x) : x = .int k n := h.of_leaf rfl
theorem Rel.of_bool {b : Bool} {x : Value} (h : Rel E (.bool b) x) : x = .bool b := h.of_leaf rfl
theorem Rel.of_string {s : ByteArray} {x : Value} (h : Rel E (.string s) x) : x = .string s := h.of_leaf rfl
theorem indexAddrQ_ok {t : TypeId} {v x i j r : Value} (hq : indexAddrQ P t v i = some r) (hr : Rel E v x) (hi : Rel E i j) : ∃ y, Rel E r y ∧ (Instr.indexAt t x j).run P w = .ok y w := by
  unfold indexAddrQ at hq
  split at hq
  · rename_i e i off len cap k n hu
    obtain rfl := hi.of_int
    obtain ⟨b, cap', hρ, rfl, _⟩ := hr.to_slice
    split at hq
    · rename_i hn
      cases hS : szQ P e with
      | none => simp [hS] at hq
      | some z =>
        simp only [hS, Option.map_some, Option.some.injEq] at hq
        subst hq
        exact ⟨_, .ptr i b _ hρ, by simp [Instr.indexAt, asIntOf, run_und hu, run_size hS, add_none, hn]⟩
    · cases hq
  · rename_i len e i off k n hu
    obtain rfl := hi.of_int
    obtain ⟨b, hρ, rfl⟩ := hr.to_ptr
    split at hq
    · rename_i hn
      cases hS : szQ P e with
      | none => simp [hS] at hq
      | some z =>
        simp only [hS, Option.map_some, Option.some.injEq] at hq
        subst hq
        exact ⟨_, .ptr i b _ hρ, by simp [Instr.indexAt, asIntOf, run_und hu, run_size hS, add_none, hn, Instr.sureAddr]⟩
    · cases hq
  · cases hq
theorem indexQ_ok {t : TypeId} {v x i j r : Value} (hq : indexQ P t v i = some r) (hr : Rel E v x) (hi : Rel E i j) : ∃ y, Rel E r y ∧ (Instr.index t x j).run P w = .ok y w := by
  unfold indexQ at hq
  split at hq
  · rename_i len e cs k n hu
    obtain rfl := hi.of_int
    obtain ⟨cs', rfl, hR⟩ := hr.to_agg
    split at hq
    · rename_i hn
      cases hS : szQ P e with
      | none => simp [hS] at hq
      | some z =>
        simp only [hS, Option.bind_some] at hq
        obtain ⟨y, h1, h2⟩ := partQ_ok (w := w) hq hR
        exact ⟨y, h1, by simp [Instr.index, asIntOf, run_und hu, run_size hS, hn, h2]⟩
    · cases hq
  · rename_i s k n hu
    obtain rfl := hi.of_int
    obtain rfl := hr.of_string
    split at hq
    · rename_i hn
      cases hc : s.data.toList[n.toNat]? with
      | none => simp [hc] at hq
      | some b =>
        simp only [hc, Option.map_some, Option.some.injEq] at hq
        subst hq
        refine ⟨_, .leaf _ rfl, ?_⟩
        have h1 : s[n.toNat]? = some b := by
          have h2 := (List.getElem?_eq_some_iff.1 hc)
          obtain ⟨h3, h4⟩ := h2
          have h5 : n.toNat < s.size := by simpa using h3
          rw [getElem?_pos s n.toNat h5]
          congr 1
        simp [Instr.index, asIntOf, run_und hu, hn, h1]
    · cases hq
  · cases hq
/-- Operands that may be left out. -/
def RelO (E : Env) : Option Value → Option Value → Prop
  | none, none => True
  | some a, some b => Rel E a b
  | _, _ => False
theorem run_bound {k : IntKind} {n : Int} {y : Nat} {code : BoundsCode} (h : 0 ≤ n ∧ n ≤ (y : Int)) : (Instr.sliceBound (.int k n) y code).run P w = .ok n.toNat w := by
  simp [Instr.sliceBound, asIntOf, h]
theorem boundQ_some {v v' : Option Value} {d top r : Nat} (hq : boundQ v d top = some r) (hr : RelO E v v') : (v = none ∧ v' = none ∧ r = d) ∨ (∃ k n, v = some (.int k n) ∧ v' = some (.int k n) ∧ 0 ≤ n ∧ n ≤ (top : Int) ∧ r = n.toNat) := by
  unfold boundQ at hq
  split at hq
  · cases v' with
    | none => cases hq; exact .inl ⟨rfl, rfl, rfl⟩
    | some _ => exact hr.elim
  · rename_i k n
    split at hq
    · rename_i hn
      cases hq
      cases v' with
      | none => exact hr.elim
      | some b =>
        obtain rfl := Rel.of_int hr
        exact .inr ⟨k, n, rfl, rfl, hn.1, hn.2, rfl⟩
    · cases hq
  · cases hq
theorem sb_none {isS : Bool} {len cap top hh l : Nat} {lo hi lo' hi' : Option Value} (h1 : boundQ hi len top = some hh) (ht : top ≤ cap) (h2 : boundQ lo 0 hh = some l) (r1 : RelO E hi hi') (r2 : RelO E lo lo') :
    (Instr.sliceBounds isS len cap lo' hi' none).run P w = .ok (l, hh, cap) w := by
  rcases boundQ_some h1 r1 with ⟨rfl, rfl, rfl⟩ | ⟨k, n, rfl, rfl, a1, a2, rfl⟩ <;> rcases boundQ_some h2 r2 with ⟨rfl, rfl, rfl⟩ | ⟨k', n', rfl, rfl, b1, b2, rfl⟩
  · simp [Instr.sliceBounds]
  · simp [Instr.sliceBounds, run_bound ⟨b1, b2⟩]
  · have hn : 0 ≤ n ∧ n ≤ (cap : Int) := ⟨a1, by omega⟩
    simp [Instr.sliceBounds, run_bound hn]
  · have hn : 0 ≤ n ∧ n ≤ (cap : Int) := ⟨a1, by omega⟩
    simp [Instr.sliceBounds, run_bound hn, run_bound ⟨b1, b2⟩]
theorem sb_some {isS : Bool} {len cap top m hh l : Nat} {lo hi mx lo' hi' mx' : Option Value} (h0 : boundQ mx 0 top = some m) (hm : mx.isSome = true) (h1 : boundQ hi 0 m = some hh) (hi1 : hi.isSome = true) (ht : top ≤ cap) (h2 : boundQ lo 0 hh = some l) (r0 : RelO E mx mx') (r1 : RelO E hi hi') (r2 : RelO E lo lo') :
    (Instr.sliceBounds isS len cap lo' hi' mx').run P w = .ok (l, hh, m) w := by
  rcases boundQ_some h0 r0 with ⟨rfl, rfl, rfl⟩ | ⟨k0, n0, rfl, rfl, c1, c2, rfl⟩
  · cases hm
  rcases boundQ_some h1 r1 with ⟨rfl, rfl, rfl⟩ | ⟨k, n, rfl, rfl, a1, a2, rfl⟩
  · cases hi1
  have hn : 0 ≤ n0 ∧ n0 ≤ (cap : Int) := ⟨c1, by omega⟩
  rcases boundQ_some h2 r2 with ⟨rfl, rfl, rfl⟩ | ⟨k', n', rfl, rfl, b1, b2, rfl⟩
  · simp [Instr.sliceBounds, run_bound hn, run_bound ⟨a1, a2⟩]
  · simp [Instr.sliceBounds, run_bound hn, run_bound ⟨a1, a2⟩, run_bound ⟨b1, b2⟩]
theorem boundQ_le {v : Option Value} {d top r : Nat} (hq : boundQ v d top = some r) (hd : d ≤ top) : r ≤ top := by
  unfold boundQ at hq
  split at hq
  · cases hq; exact hd
  · split at hq
    · rename_i hn; cases hq; omega
    · cases hq
  · cases hq
theorem extract_data (s : ByteArray) (l h : Nat) : s.extract l h = ⟨((s.data.toList.drop l).take (h - l)).toArray⟩ := by
  apply ByteArray.ext
  rw [ByteArray.data_extract]
  apply Array.toList_inj.1
  simp [List.extract]
theorem sliceQ_ok {t : TypeId} {v x r : Value} {lo hi mx lo' hi' mx' : Option Value} (hq : sliceQ P t v lo hi mx = some r) (hr : Rel E v x) (r0 : RelO E mx mx') (r1 : RelO E hi hi') (r2 : RelO E lo lo') :
    ∃ y, Rel E r y ∧ (Instr.sliceAt t x lo' hi' mx').run P w = .ok y w := by
  unfold sliceQ at hq
  split at hq
  · -- a string
    rename_i s hu
    obtain rfl := hr.of_string
    split at hq
    · cases hq
    · rename_i hmx
      have hm : mx = none := by cases mx <;> simp_all
      subst hm
      have hm' : mx' = none := by cases mx' <;> simp_all [RelO]
      subst hm'
      cases h1 : boundQ hi s.size s.size with
      | none => simp [h1] at hq
      | some hh =>
        cases h2 : boundQ lo 0 hh with
        | none => simp [h1, h2] at hq
        | some l =>
          simp only [h1, h2, Option.bind_some, Option.some.injEq] at hq
          subst hq
          refine ⟨_, .leaf _ rfl, ?_⟩
          simp [Instr.sliceAt, Instr.slice, run_und hu, sb_none h1 (Nat.le_refl _) h2 r1 r2, extract_data]
  · -- no block
    rename_i e hu
    obtain rfl := hr.of_leaf rfl
    cases h0 : boundQ mx 0 0 with
    | none => simp [h0] at hq
    | some m =>
    have hm := boundQ_le h0 (Nat.le_refl _)
    obtain rfl : m = 0 := by omega
    cases h1 : boundQ hi 0 0 with
    | none => simp [h0, h1] at hq
    | some hh =>
    have hm := boundQ_le h1 (Nat.le_refl _)
    obtain rfl : hh = 0 := by omega
    cases h2 : boundQ lo 0 0 with
    | none => simp [h0, h1, h2] at hq
    | some l =>
    have hm := boundQ_le h2 (Nat.le_refl _)
    obtain rfl : l = 0 := by omega
    simp only [h0, h1, h2, Option.bind_some] at hq
    split at hq
    · cases hq
    · rename_i hb
      cases hS : szQ P e with
      | none => simp [hS] at hq
      | some z =>
        simp only [hS, Option.bind_some, Option.some.injEq] at hq
        subst hq
        refine ⟨_, .leaf _ rfl, ?_⟩
        cases mx with
        | none =>
          obtain rfl : mx' = none := by cases mx' <;> simp_all [RelO]
          simp [Instr.sliceAt, Instr.slice, run_und hu, sb_none h1 (Nat.le_refl _) h2 r1 r2, run_size hS]
        | some m0 =>
          have hhi : hi.isSome = true := by cases hi <;> simp_all
          simp [Instr.sliceAt, Instr.slice, run_und hu, sb_some h0 rfl h1 hhi (Nat.le_refl _) h2 r0 r1 r2, run_size hS]
  · -- a slice
    rename_i e i off len cap hu
    obtain ⟨b, cap', hρ, rfl, hl, hk, hg⟩ := hr.to_slice
    have htop : (if cap < capG then cap else len) ≤ cap' := by
      split
      · rename_i hc; rw [hk hc]; exact Nat.le_refl _
      · exact hl
    split at hq
    · -- a full slice
      rename_i m0
      cases h0 : boundQ (some m0) 0 (if cap < capG then cap else len) with
      | none => simp [h0] at hq
      | some m =>
      cases h1 : boundQ hi 0 m with
      | none => simp [h0, h1] at hq
      | some hh =>
      cases h2 : boundQ lo 0 hh with
      | none => simp [h0, h1, h2] at hq
      | some l =>
      simp only [h0, h1, h2, Option.bind_some] at hq
      split at hq
      · cases hq
      · rename_i hhi
        simp only [Bool.or_eq_true, decide_eq_true_eq, not_or] at hhi
        have hhi' : hi.isSome = true := by cases hi <;> simp_all
        cases hS : szQ P e with
        | none => simp [hS] at hq
        | some z =>
          simp only [hS, Option.bind_some, Option.some.injEq] at hq
          subst hq
          have hb := sb_some (P := P) (w := w) (isS := true) (len := len) h0 rfl h1 hhi' htop h2 r0 r1 r2
          have hm1 := boundQ_le h1 (Nat.zero_le _)
          have hl1 := boundQ_le h2 (Nat.zero_le _)
          have hmG : m < capG := Nat.lt_of_not_le hhi.2
          refine ⟨.slice (some ⟨b, if m = l then off else off + l * z, none⟩) (hh - l) (m - l), .slice i b _ _ _ _ hρ (by omega) (fun _ => rfl) (fun e => by omega), ?_⟩
          by_cases hml : m = l
          · simp [Instr.sliceAt, Instr.slice, run_und hu, hb, run_size hS, hml]
          · simp [Instr.sliceAt, Instr.slice, run_und hu, hb, run_size hS, hml, add_none]
    · obtain rfl : mx' = none := by cases mx' <;> simp_all [RelO]
      cases h1 : boundQ hi len (if cap < capG then cap else len) with
      | none => simp [h1] at hq
      | some hh =>
      cases h2 : boundQ lo 0 hh with
      | none => simp [h1, h2] at hq
      | some l =>
      cases hS : szQ P e with
      | none => simp [h1, hS] at hq
      | some z =>
      simp only [h1, h2, hS, Option.bind_some] at hq
      have hb := sb_none (P := P) (w := w) (isS := true) (len := len) h1 htop h2 r1 r2
      have hl1 := boundQ_le h2 (Nat.zero_le _)
      split at hq
      · rename_i hc
        cases hq
        obtain rfl := hk hc
        rw [if_pos hc] at h1
        have hh1 : hh ≤ cap' := by
          rcases boundQ_some h1 r1 with ⟨_, _, rfl⟩ | ⟨k, n, _, _, a1, a2, rfl⟩
          · exact hl
          · omega
        refine ⟨.slice (some ⟨b, if cap' = l then off else off + l * z, none⟩) (hh - l) (cap' - l), .slice i b _ _ _ _ hρ (by omega) (fun _ => rfl) (fun e => by omega), ?_⟩
        by_cases hml : cap' = l
        · subst hml
          simp [Instr.sliceAt, Instr.slice, run_und hu, hb, run_size hS]
        · simp [Instr.sliceAt, Instr.slice, run_und hu, hb, run_size hS, hml, add_none]
      · rename_i hc
        rw [if_neg hc] at h1
        have hh1 : hh ≤ len := by
          rcases boundQ_some h1 r1 with ⟨_, _, rfl⟩ | ⟨k, n, _, _, a1, a2, rfl⟩
          · exact Nat.le_refl _
          · omega
        split at hq
        · rename_i hl0
          cases hq
          subst hl0
          refine ⟨.slice (some ⟨b, off, none⟩) hh cap', .slice i b _ _ _ _ hρ (by omega) hk hg, ?_⟩
          simp [Instr.sliceAt, Instr.slice, run_und hu, hb, run_size hS, add_none]
        · split at hq
          · rename_i hln
            cases hq
            have hml : cap' ≠ l := by omega
            refine ⟨.slice (some ⟨b, off + l * z, none⟩) (hh - l) (cap' - l), .slice i b _ _ _ _ hρ (by omega) (fun e => by simp [capX, capG] at e) (fun e => by simp [capX, capG] at e), ?_⟩
            simp [Instr.sliceAt, Instr.slice, run_und hu, hb, run_size hS, hml, add_none]
          · cases hq
  · -- an array
    rename_i n e i off hu
    obtain ⟨b, hρ, rfl⟩ := hr.to_ptr
    cases h0 : boundQ mx n n with
    | none => simp [h0] at hq
    | some m =>
    have hmn := boundQ_le h0 (Nat.le_refl _)
    cases h1 : boundQ hi m m with
    | none => simp [h0, h1] at hq
    | some hh =>
    cases h2 : boundQ lo 0 hh with
    | none => simp [h0, h1, h2] at hq
    | some l =>
    simp only [h0, h1, h2, Option.bind_some] at hq
    split at hq
    · cases hq
    · rename_i hb
      simp only [Bool.or_eq_true, decide_eq_true_eq, not_or] at hb
      have hm1 := boundQ_le h1 (Nat.le_refl _)
      have hl1 := boundQ_le h2 (Nat.zero_le _)
      have hnG : n < capG := Nat.lt_of_not_le hb.2
      cases hS : szQ P e with
      | none => simp [hS] at hq
      | some z =>
        simp only [hS, Option.bind_some, Option.some.injEq] at hq
        subst hq
        refine ⟨.slice (some ⟨b, if m = l then off else off + l * z, none⟩) (hh - l) (m - l), .slice i b _ _ _ _ hρ (by omega) (fun _ => rfl) (fun e => by omega), ?_⟩
        have hrun : (Instr.sliceBounds false n n lo' hi' mx').run P w = .ok (l, hh, m) w := by
          cases mx with
          | none =>
            obtain rfl : mx' = none := by cases mx' <;> simp_all [RelO]
            obtain rfl : n = m := by simpa [boundQ] using h0
            exact sb_none h1 (Nat.le_refl _) h2 r1 r2
          | some m0 =>
            have hhi : hi.isSome = true := by cases hi <;> simp_all
            have h0' : boundQ (some m0) 0 n = some m := by cases m0 <;> first | exact h0 | cases h0
            have h1' : boundQ hi 0 m = some hh := by
              cases hi with
              | none => cases hhi
              | some v => cases v <;> first | exact h1 | cases h1
            exact sb_some h0' rfl h1' hhi (Nat.le_refl _) h2 r0 r1 r2
        by_cases hml : m = l
        · simp [Instr.sliceAt, run_und hu, Instr.sureAddr, hrun, run_size hS, hml]
        · simp [Instr.sliceAt, run_und hu, Instr.sureAddr, hrun, run_size hS, hml, add_none]
  · cases hq
end quiet
end Go.Proofs.YtphfjhpgcdmonaaGreatDoor.Exe
namespace Go.Proofs.YtphfjhpgcdmonaaGreatDoor.Exe
open Go Go.RowKit
section quiet
variable {E : Env} {P : Program} {B : Nat → Prop} {w0 w : World} {h : Hp} {η : Operand → Value} {a : Act}
theorem eqGuard_ok {op : BinOp} {t : TypeId} {x y : Operand} {u v : Value} (hi : ∀ a b, ¬ (u = .agg a ∧ v = .agg b)) (hn : ¬ (u = .nilIface ∧ v = .nilIface)) : (eqGuard op t x y u v).run P w = .ok () w := by
  cases op <;> (try rfl) <;> (cases u <;> cases v <;> first | rfl | exact absurd ⟨rfl, rfl⟩ hn | exact absurd ⟨rfl, rfl⟩ (hi _ _))
theorem bind_leaf {o : Option Value} {r : Value} (h : (o.bind fun r => if leafB r then some r else none) = some r) : o = some r ∧ leafB r = true := by
  cases o with
  | none => cases h
  | some v =>
    simp only [Option.bind_some] at h
    split at h
    · rename_i hl; cases h; exact ⟨rfl, hl⟩
    · cases h
theorem nilEq_ok {d : TypeDesc} {t : TypeId} {u v u' v' : Value} {r : Bool} (hq : nilEqQ d u v = some r) (hu : Rel E u u') (hv : Rel E v v') (ht : P.underlying t = some d) :
    (Op.equal t u' v').run P w = .ok r w ∧ (∀ a b, ¬ (u' = .agg a ∧ v' = .agg b)) ∧ ¬ (u' = .nilIface ∧ v' = .nilIface) ∧ (∀ t, binOp .eql t u' v' = (do pure (.bool (← Op.equal t u' v')))) ∧ (∀ t, binOp .neq t u' v' = (do pure (.bool (!(← Op.equal t u' v'))))) := by
  obtain ⟨n, hE⟩ : ∃ n, ∀ x y, Op.equal t x y = Op.equalIn (n + 1) t x y := ⟨9999, fun _ _ => rfl⟩
  unfold nilEqQ at hq
  split at hq
  · cases hq
    obtain ⟨i, b, _, _, rfl⟩ := hu.to_ptr'
    obtain rfl := hv.of_leaf rfl
    exact ⟨(by rw [hE]; simp [Op.equalIn, run_und ht]), (by rintro a b ⟨e, _⟩; cases e), (by rintro ⟨e, _⟩; cases e), (fun _ => rfl), (fun _ => rfl)⟩
  · cases hq
    obtain ⟨i, b, _, _, rfl⟩ := hv.to_ptr'
    obtain rfl := hu.of_leaf rfl
    exact ⟨(by rw [hE]; simp [Op.equalIn, run_und ht]), (by rintro a b ⟨e, _⟩; cases e), (by rintro ⟨e, _⟩; cases e), (fun _ => rfl), (fun _ => rfl)⟩
  · cases hq
    obtain ⟨a', cap', rfl, _, hs⟩ := hu.to_slice'
    obtain ⟨i, b, _, _, rfl, _⟩ := hs _ rfl
    obtain rfl := hv.of_leaf rfl
    exact ⟨(by rw [hE]; simp [Op.equalIn, run_und ht]), (by rintro a b ⟨e, _⟩; cases e), (by rintro ⟨e, _⟩; cases e), (fun _ => rfl), (fun _ => rfl)⟩
  · cases hq
    obtain ⟨a', cap', rfl, _, hs⟩ := hv.to_slice'
    obtain ⟨i, b, _, _, rfl, _⟩ := hs _ rfl
    obtain rfl := hu.of_leaf rfl
    exact ⟨(by rw [hE]; simp [Op.equalIn, run_und ht]), (by rintro a b ⟨e, _⟩; cases e), (by rintro ⟨e, _⟩; cases e), (fun _ => rfl), (fun _ => rfl)⟩
  · cases hq
    obtain ⟨xs, ys, rfl, _⟩ := hu.to_func
    obtain rfl := hv.of_leaf rfl
    exact ⟨(by rw [hE]; simp [Op.equalIn, run_und ht]), (by rintro a b ⟨e, _⟩; cases e), (by rintro ⟨e, _⟩; cases e), (fun _ => rfl), (fun _ => rfl)⟩
  · cases hq
    obtain ⟨xs, ys, rfl, _⟩ := hv.to_func
    obtain rfl := hu.of_leaf rfl
    exact ⟨(by rw [hE]; simp [Op.equalIn, run_und ht]), (by rintro a b ⟨e, _⟩; cases e), (by rintro ⟨e, _⟩; cases e), (fun _ => rfl), (fun _ => rfl)⟩
  · cases hq
    obtain ⟨b, _, rfl⟩ := hu.to_map
    obtain rfl := hv.of_leaf rfl
    exact ⟨(by rw [hE]; simp [Op.equalIn, run_und ht]), (by rintro a b ⟨e, _⟩; cases e), (by rintro ⟨e, _⟩; cases e), (fun _ => rfl), (fun _ => rfl)⟩
  · cases hq
    obtain ⟨b, _, rfl⟩ := hv.to_map
    obtain rfl := hu.of_leaf rfl
    exact ⟨(by rw [hE]; simp [Op.equalIn, run_und ht]), (by rintro a b ⟨e, _⟩; cases e), (by rintro ⟨e, _⟩; cases e), (fun _ => rfl), (fun _ => rfl)⟩
  · cases hq
    obtain ⟨y, rfl, _⟩ := hu.to_iface
    obtain rfl := hv.of_leaf rfl
    exact ⟨(by rw [hE]; simp [Op.equalIn, run_und ht]), (by rintro a b ⟨e, _⟩; cases e), (by rintro ⟨e, _⟩; cases e), (fun _ => rfl), (fun _ => rfl)⟩
  · cases hq
    obtain ⟨y, rfl, _⟩ := hv.to_iface
    obtain rfl := hu.of_leaf rfl
    exact ⟨(by rw [hE]; simp [Op.equalIn, run_und ht]), (by rintro a b ⟨e, _⟩; cases e), (by rintro ⟨_, e⟩; cases e), (fun _ => rfl), (fun _ => rfl)⟩
  · cases hq
theorem binQ_ok {op : BinOp} {t : TypeId} {x y : Operand} {u v u' v' r : Value} (hq : binQ P op t x y u v = some r) (hu : Rel E u u') (hv : Rel E v v') :
    ∃ z, Rel E r z ∧ (do eqGuard op t x y u' v'; binOp op t u' v' : Sem Value).run P w = .ok z w := by
  unfold binQ at hq
  split at hq
  · obtain rfl := hu.of_int
    obtain rfl := hv.of_int
    obtain ⟨h1, h2⟩ := bind_leaf hq
    refine ⟨r, .leaf _ h2, ?_⟩
    rw [Sem.run_bind, eqGuard_ok (by rintro a b ⟨e, _⟩; cases e) (by rintro ⟨e, _⟩; cases e)]
    exact pureRun_run h1
  · rename_i s1 s2
    obtain rfl := hu.of_string
    obtain rfl := hv.of_string
    have hg : (eqGuard op t x y (.string s1) (.string s2)).run P w = .ok () w := eqGuard_ok (by rintro a b ⟨e, _⟩; cases e) (by rintro ⟨e, _⟩; cases e)
    have key : ∀ z, (binOp op t (.string s1) (.string s2)).run P w = .ok z w → (do eqGuard op t x y (.string s1) (.string s2); binOp op t (.string s1) (.string s2) : Sem Value).run P w = .ok z w := fun z hz => by
      rw [Sem.run_bind, hg]; exact hz
    cases op <;> simp only at hq <;> try cases hq
    · -- '+'
      split at hq
      · rename_i hs
        cases hq
        refine ⟨_, .leaf _ rfl, key _ ?_⟩
        have happ : s1 ++ s2 = ⟨(s1.data.toList ++ s2.data.toList).toArray⟩ := by
          apply ByteArray.ext
          apply Array.toList_inj.1
          simp
        have hlt : ¬ (((s1.size + s2.size : Nat) : Int) > IntKind.i64.max) := by
          have : (IntKind.i64.max : Int) = 9223372036854775807 := rfl
          omega
        simp only [binOp, Op.stringOp]
        rw [if_neg hlt, happ]
        rfl
      · cases hq
    all_goals
      refine ⟨_, .leaf _ rfl, key _ ?_⟩
      simp [binOp, Op.stringOp, ByteArray.toList_eq]
  · split at hq
    · rename_i hf
      simp only [Bool.and_eq_true] at hf
      obtain rfl := hu.of_flat hf.1
      obtain rfl := hv.of_flat hf.2
      obtain ⟨h1, h2⟩ := bind_leaf hq
      exact ⟨r, .leaf _ h2, pureRun_run h1⟩
    · cases hd : P.underlying t with
      | none => simp [hd] at hq
      | some d =>
        simp only [hd, Option.bind_some] at hq
        split at hq
        · cases hb : nilEqQ d u v with
          | none => simp [hb] at hq
          | some b =>
            simp only [hb, Option.map_some, Option.some.injEq] at hq
            subst hq
            obtain ⟨h1, h2, h3, h4, _⟩ := nilEq_ok (w := w) hb hu hv hd
            refine ⟨_, .leaf _ rfl, ?_⟩
            rw [Sem.run_bind, eqGuard_ok h2 h3, Result.andThen_ok, h4]
            simp [h1]
        · cases hb : nilEqQ d u v with
          | none => simp [hb] at hq
          | some b =>
            simp only [hb, Option.map_some, Option.some.injEq] at hq
            subst hq
            obtain ⟨h1, h2, h3, _, h5⟩ := nilEq_ok (w := w) hb hu hv hd
            refine ⟨_, .leaf _ rfl, ?_⟩
            rw [Sem.run_bind, eqGuard_ok h2 h3, Result.andThen_ok, h5]
            simp [h1]
        · cases hq
theorem binP_ok {op : BinOp} {t : TypeId} {x y : Operand} {u v u' v' r : Value} (hq : binP P op t x y u v = some r) (hu : Rel E u u') (hv : Rel E v v') :
    ∃ z, Rel E r z ∧ (do eqGuard op t x y u' v'; binOp op t u' v' : Sem Value).run P w = .ok z w := by
  unfold binP at hq
  split at hq
  · rename_i r' hs
    cases hq
    unfold samePtr at hs
    split at hs
    · rename_i i o j p
      split at hs
      · rename_i e hd
        split at hs
        · rename_i hc
          obtain ⟨rfl, rfl, hz⟩ := hc
          obtain ⟨b, h1, rfl⟩ := hu.to_ptr
          obtain ⟨b', h2, rfl⟩ := hv.to_ptr
          obtain rfl : b = b' := Option.some.inj (h1.symm.trans h2)
          have hg : (eqGuard op t x y (.pointer (some ⟨b, o, none⟩)) (.pointer (some ⟨b, o, none⟩))).run P w = .ok () w := eqGuard_ok (by rintro a b ⟨e, _⟩; cases e) (by rintro ⟨e, _⟩; cases e)
          obtain ⟨ti, hti⟩ : ∃ ti, P.info? e = some ti := by
            unfold szQ at hz
            cases hi : P.info? e with
            | none => simp [hi] at hz
            | some i => exact ⟨i, rfl⟩
          have hn := Lib.run_neq_ptr_same (w := w) ⟨b, o, none⟩ hd hti
          split at hs
          · cases hs
            refine ⟨_, .leaf _ rfl, ?_⟩
            rw [Sem.run_bind, hg, Result.andThen_ok]
            have h3 : ∀ d : Nat, (Op.equalIn (d + 1) t (.pointer (some ⟨b, o, none⟩)) (.pointer (some ⟨b, o, none⟩))).run P w = .ok true w := fun d => by
              simp [Op.equalIn, run_underlying hd, sizeOf, typeInfo, hti, run_sameAddr_same]
            simp only [binOp]
            simp [Op.equal, Op.maxDepth, h3 9999]
          · cases hs
            refine ⟨_, .leaf _ rfl, ?_⟩
            rw [Sem.run_bind, hg, Result.andThen_ok]
            exact hn
          · cases hs
        · cases hs
      · cases hs
    · cases hs
  · exact binQ_ok hq hu hv
theorem bytesOf_some : ∀ {cs : List Value} {bs : List UInt8}, bytesOf cs = some bs → ∃ ns : List Int, cs = ns.map (Value.int .u8) ∧ bs = ns.map fun n => UInt8.ofNat n.toNat
  | [], bs, hq => by cases hq; exact ⟨[], rfl, rfl⟩
  | v :: cs, bs, hq => by
    unfold bytesOf at hq
    split at hq
    · rename_i e; cases e
    · rename_i n vs e
      cases e
      cases hb : bytesOf cs with
      | none => simp [hb] at hq
      | some bs' =>
        simp only [hb, Option.map_some, Option.some.injEq] at hq
        obtain ⟨ns, rfl, rfl⟩ := bytesOf_some hb
        exact ⟨n :: ns, rfl, hq.symm⟩
    · cases hq
theorem bytesX_cells : ∀ {cs : List Value} {bs : List UInt8}, bytesX cs = some bs → cs = bs.map fun x => Value.int .u8 x.toNat
  | [], bs, hq => by cases hq; rfl
  | v :: cs, bs, hq => by
    unfold bytesX at hq
    split at hq
    · rename_i e; cases e
    · rename_i n vs e
      cases e
      split at hq
      · rename_i hn
        cases hb : bytesX cs with
        | none => simp [hb] at hq
        | some bs' =>
          simp only [hb, Option.map_some, Option.some.injEq] at hq
          subst hq
          rw [List.map_cons, ← bytesX_cells hb]
          congr 2
          show Int.ofNat n = ((UInt8.ofNat n).toNat : Int)
          rw [UInt8.toNat_ofNat', Nat.mod_eq_of_lt hn]
          rfl
      · cases hq
    · cases hq
theorem push_fold : ∀ (ns : List Int) (s : ByteArray), ns.foldl (fun r n => r.push (UInt8.ofNat n.toNat)) s = ⟨(s.data.toList ++ ns.map fun n => UInt8.ofNat n.toNat).toArray⟩
  | [], s => by simp
  | n :: ns, s => by
    rw [List.foldl_cons, push_fold ns]
    simp [ByteArray.push]
theorem convQ_ok (W : WR E P B w0 w h) {src dst : TypeId} {v x r : Value} (hq : convQ P h src dst v = some r) (hr : Rel E v x) : ∃ z, Rel E r z ∧ (convert src dst x).run P w = .ok z w := by
  unfold convQ at hq
  split at hq
  · rename_i e len cap hs hd
    obtain rfl := hr.of_leaf rfl
    split at hq
    · rename_i he
      cases hq
      refine ⟨_, .leaf _ rfl, ?_⟩
      rw [run_convert_bytes_string w src dst e _ _ _ hs he hd]
      rfl
    · cases hq
  · rename_i e i off len cap hs hd
    obtain ⟨b, cap', hρ, rfl, _⟩ := hr.to_slice
    split at hq
    · rename_i he
      cases hc : cellsAt h i off len with
      | none => simp [hc] at hq
      | some cs =>
        cases hb : bytesOf cs with
        | none => simp [hc, hb] at hq
        | some bs =>
          simp only [hc, Option.bind_some, hb, Option.map_some, Option.some.injEq] at hq
          subst hq
          obtain ⟨cs', _, h3, _, h4⟩ := run_cells W hρ hc
          obtain ⟨ns, rfl, rfl⟩ := bytesOf_some hb
          have : cs' = ns.map (Value.int .u8) := h3.of_leaf (by simp [leafB])
          subst this
          refine ⟨_, .leaf _ rfl, ?_⟩
          rw [run_convert_bytes_string w src dst e _ _ _ hs he hd, run_bytesToString w _ len cap' ns h4, push_fold]
          simp
    · cases hq
  · split at hq
    · rename_i hl
      obtain rfl := hr.of_leaf hl
      obtain ⟨h1, h2⟩ := bind_leaf hq
      exact ⟨r, .leaf _ h2, pureRun_run h1⟩
    · cases hq
theorem shape_cells {w : World} {b : Nat} {cs : Array Value} {t : TypeId} {fr : Nat × Nat} (hb : w.heap[b]? = some (.cells cs t fr)) : w.shape? b = some (t, cs.size) := by simp [World.shape?, hb]
theorem convP_ok (W : WR E P B w0 w h) {src dst : TypeId} {v x r : Value} (hq : convP P h src dst v = some r) (hr : Rel E v x) : ∃ y, Rel E r y ∧ (convert src dst x).run P w = .ok y w := by
  unfold convP at hq
  split at hq
  · rename_i i off
    obtain ⟨b, hρ, rfl⟩ := hr.to_ptr
    split at hq
    · rename_i t hs hd
      split at hq
      · rename_i z blk hz hb
        cases hlt : Nat.blt off blk.raw.len with
        | false => rw [hlt] at hq; cases hq
        | true =>
          rw [hlt] at hq
          cases hq
          obtain ⟨cs, fr, _, h3, _, h5, _, _⟩ := W.row hb hρ
          have hle : off < blk.cells.length := by rw [Blk.length]; exact Nat.le_of_ble_eq_true hlt
          have hsz : blk.cells.length ≤ cs.size := by
            have := h5.length
            rw [List.length_take] at this
            simp at this
            omega
          obtain ⟨ti, hti, hz'⟩ : ∃ ti, P.info? t = some ti ∧ ti.size = z + 1 := by
            unfold szQ at hz
            cases hi : P.info? t with
            | none => simp [hi] at hz
            | some i => exact ⟨i, rfl, by simpa [hi] using hz⟩
          exact ⟨_, .ptr i b off hρ, Lib.run_to_unsafe w ⟨b, off, none⟩ hs hd hti (by omega) (shape_cells h3) (by show off < cs.size; omega)⟩
      · cases hq
    · rename_i u hs hd
      split at hq
      · rename_i z blk hz hb
        cases hl : (!blk.grow && liesAt P P.depth blk.elem (blk.raw.len / P.cellsOf blk.elem) off u 1) with
        | false => rw [hl] at hq; cases hq
        | true =>
          rw [hl] at hq
          cases hq
          simp only [Bool.and_eq_true, Bool.not_eq_true'] at hl
          obtain ⟨cs, fr, _, h3, _, _, h6, _⟩ := W.row hb hρ
          have hsz := h6 hl.1
          rw [Blk.length] at hsz
          obtain ⟨ti, hti⟩ : ∃ ti, P.info? u = some ti := by
            unfold szQ at hz
            cases hi : P.info? u with
            | none => simp [hi] at hz
            | some i => exact ⟨i, rfl⟩
          exact ⟨_, .ptr i b off hρ, Lib.run_from_unsafe w ⟨b, off, none⟩ hs hd hti (shape_cells h3) (by rw [hsz]; exact hl.2)⟩
      · cases hq
    · cases hq
  · exact convQ_ok W hq hr
end quiet
end Go.Proofs.YtphfjhpgcdmonaaGreatDoor.Exe
namespace Go.Proofs.YtphfjhpgcdmonaaGreatDoor.Exe
open Go Go.RowKit
section same
theorem eq1_eq {u v : Value} (h : eq1 u v = true) : u = v := by
  unfold eq1 at h
  split at h
  · simp only [Bool.and_eq_true, decide_eq_true_eq] at h
    rw [h.1, h.2]
  · rename_i a b
    have : a = b := by simpa using h
    rw [this]
  · rename_i a b
    have h1 : a.data.toList = b.data.toList := by simpa using h
    have h2 : a.data = b.data := Array.toList_inj.1 h1
    cases a; cases b
    simp only at h2
    rw [h2]
  · rfl
  · simp only [Bool.and_eq_true, Nat.beq_eq] at h
    rw [h.1, h.2]
  · simp only [Bool.and_eq_true, Nat.beq_eq] at h
    rw [h.1, h.2]
  · simp only [Bool.and_eq_true, Nat.beq_eq] at h
    rw [h.1.1, h.1.2, h.2.1, h.2.2]
  · rfl
  · rw [Nat.eq_of_beq_eq_true h]
  · rfl
  · rfl
  · simp only [Bool.and_eq_true, Nat.beq_eq, Array.isEmpty_iff] at h
    obtain ⟨h1, ⟨h2, h3⟩, h4, h5⟩ := h
    rw [h1, h2, h3, h4, h5]
  · cases h
theorem eqL_eq : ∀ {u v : List Value}, eqL u v = true → u = v
  | [], [], _ => rfl
  | a :: l, b :: m, h => by
    simp only [eqL, Bool.and_eq_true] at h
    rw [eq1_eq h.1, eqL_eq h.2]
  | [], _ :: _, h => by cases h
  | _ :: _, [], h => by cases h
theorem eqV_eq {u v : Value} (h : eqV u v = true) : u = v := by
  unfold eqV at h
  split at h
  · rw [Array.toList_inj.1 (eqL_eq h)]
  · rw [Array.toList_inj.1 (eqL_eq h)]
  · exact eq1_eq h
end same
section quiet
variable {E : Env} {P : Program} {B : Nat → Prop} {w0 w : World} {h : Hp} {η : Operand → Value} {p : Operand → Bool} {a : Act}
/-- A map's entries, by names. -/
def RelM (E : Env) (es : List Ent) (es' : List MapEntry) : Prop := es'.length = es.length ∧ ∀ (k : Nat) (e : Ent) (e' : MapEntry), es[k]? = some e → es'[k]? = some e' → e'.key = e.key ∧ e'.born = e.born ∧ Rel E e.val e'.val
theorem RelM.head {e : Ent} {e' : MapEntry} {es : List Ent} {es' : List MapEntry} (hM : RelM E (e :: es) (e' :: es')) : (e'.key = e.key ∧ e'.born = e.born ∧ Rel E e.val e'.val) ∧ RelM E es es' :=
  ⟨hM.2 0 e e' rfl rfl, by have := hM.1; simpa using this, fun k a b h1 h2 => hM.2 (k + 1) a b (by simpa using h1) (by simpa using h2)⟩
def keyD (d : TypeDesc) (k : Value) : Bool := match d, k with
  | .int j, .int j' _ => j = j'
  | .string, .string _ => true
  | _, _ => false
theorem keyB_d {t : TypeId} {k : Value} (h : keyB P t k = true) : ∃ d, P.underlying t = some d ∧ keyD d k = true := by
  unfold keyB at h
  split at h
  · rename_i j j' n hd; exact ⟨_, hd, h⟩
  · rename_i s hd; exact ⟨_, hd, rfl⟩
  · cases h
theorem data_inj {a b : ByteArray} : a.data.toList = b.data.toList ↔ a = b := ⟨fun h => ByteArray.ext (Array.toList_inj.1 h), fun h => by rw [h]⟩
theorem beq_bytes (a b : ByteArray) : (a == b) = decide (a = b) := by
  have h : (a == b) = (a.data == b.data) := rfl
  rw [h]
  by_cases hab : a = b
  · subst hab; simp
  · have : a.data ≠ b.data := fun e => hab (ByteArray.ext e)
    simp [hab, this]
theorem findQ_ok {d : TypeDesc} {k : Value} (hk : keyD d k = true) : ∀ {es : List Ent} {es' : List MapEntry} (i : Nat) {r : Option (Nat × Value)}, RelM E es es' → findQ k es i = some r →
    ∃ r', Instr.findNow d k es' i = some r' ∧ (match r, r' with
      | none, none => True
      | some (n, v), some (m, x) => n = m ∧ Rel E v x ∧ i ≤ n ∧ ∃ e e', es[n - i]? = some e ∧ es'[n - i]? = some e' ∧ e'.key = e.key ∧ k = e.key
      | _, _ => False)
  | [], [], i, r, _, hq => by cases hq; exact ⟨none, rfl, trivial⟩
  | [], _ :: _, _, _, hM, _ => by have := hM.1; simp at this
  | _ :: _, [], _, _, hM, _ => by have := hM.1; simp at this
  | e :: es, e' :: es', i, r, hM, hq => by
    obtain ⟨⟨h1, h2, h3⟩, hT⟩ := hM.head
    have step : ∀ r, findQ k es (i + 1) = some r → Instr.sameNow d k e'.key = some false → ∃ r', Instr.findNow d k (e' :: es') i = some r' ∧ (match r, r' with
      | none, none => True
      | some (n, v), some (m, x) => n = m ∧ Rel E v x ∧ i ≤ n ∧ ∃ f f', (e :: es)[n - i]? = some f ∧ (e' :: es')[n - i]? = some f' ∧ f'.key = f.key ∧ k = f.key
      | _, _ => False) := fun r hr hs => by
      obtain ⟨r', k1, k2⟩ := findQ_ok hk (i + 1) hT hr
      refine ⟨r', by simp [Instr.findNow, hs, k1], ?_⟩
      cases r with
      | none => cases r' with
        | none => trivial
        | some p => exact k2.elim
      | some p => cases r' with
        | none => exact k2.elim
        | some p' =>
          obtain ⟨a1, a2, a3, f, f', a4, a5, a6, a7⟩ := k2
          refine ⟨a1, a2, by omega, f, f', ?_, ?_, a6, a7⟩
          · rw [show p.1 - i = (p.1 - (i + 1)) + 1 by omega]; simpa using a4
          · rw [show p.1 - i = (p.1 - (i + 1)) + 1 by omega]; simpa using a5
    unfold findQ at hq
    split at hq
    · rename_i j n j' m he
      split at hq
      · rename_i hjj
        subst hjj
        split at hq
        · rename_i hnm
          subst hnm
          cases hq
          have hs : Instr.sameNow d (.int j n) e'.key = some true := by
            rw [h1, he]
            cases d <;> simp [keyD] at hk
            simp [Instr.sameNow]
          exact ⟨some (i, e'.val), (by simp [Instr.findNow, hs]), rfl, h3, Nat.le_refl _, e, e', (by simp), (by simp), h1, he.symm⟩
        · rename_i hnm
          refine step r hq ?_
          rw [h1, he]
          cases d <;> simp [keyD] at hk
          simp [Instr.sameNow, hnm]
      · cases hq
    · rename_i s1 s2 he
      split at hq
      · rename_i hss
        rw [data_inj] at hss
        subst hss
        cases hq
        have hs : Instr.sameNow d (.string s1) e'.key = some true := by
          rw [h1, he]
          cases d <;> simp [keyD] at hk
          simp [Instr.sameNow, beq_bytes]
        exact ⟨some (i, e'.val), by simp [Instr.findNow, hs], rfl, h3, Nat.le_refl _, e, e', by simp, by simp, h1, he.symm⟩
      · rename_i hss
        rw [data_inj] at hss
        refine step r hq ?_
        rw [h1, he]
        cases d <;> simp [keyD] at hk
        simp [Instr.sameNow, beq_bytes, hss]
    · cases hq
theorem checkKey_ok {t : TypeId} {d : TypeDesc} {k : Value} {e : Bool} (hd : P.underlying t = some d) (hk : keyD d k = true) : (Instr.checkKey e 10000 t k).run P w = .ok () w := by
  obtain ⟨n, hn⟩ : ∃ n, Instr.checkKey e 10000 t k = Instr.checkKey e (n + 1) t k := ⟨9999, rfl⟩
  rw [hn]
  cases d <;> cases k <;> simp [keyD] at hk <;> simp [Instr.checkKey, run_und hd]
theorem leaf_key {d : TypeDesc} {k x : Value} (hk : keyD d k = true) (hr : Rel E k x) : x = k := by
  cases d <;> cases k <;> simp [keyD] at hk <;> exact hr.of_leaf rfl
theorem keyStays_ok {k : Value} {d : TypeDesc} (hk : keyD d k = true) : (Instr.keyThatStays k k).run P w = .ok k w := by
  obtain ⟨n, hn⟩ : ∃ n, Instr.sameBits 10000 k k = Instr.sameBits (n + 1) k k := ⟨9999, rfl⟩
  have : Instr.sameBits 10000 k k = true := by
    rw [hn]
    cases d <;> cases k <;> simp [keyD] at hk <;> simp [Instr.sameBits, beq_bytes]
  simp [Instr.keyThatStays, this]
/-- What is found by names, and what is found. -/
def Found (E : Env) (k : Value) (es : List Ent) (es' : List MapEntry) (i : Nat) : Option (Nat × Value) → Option (Nat × Value) → Prop
  | none, none => True
  | some (n, v), some (m, x) => n = m ∧ Rel E v x ∧ i ≤ n ∧ ∃ e e', es[n - i]? = some e ∧ es'[n - i]? = some e' ∧ e'.key = e.key ∧ k = e.key
  | _, _ => False
theorem aggB_eq {t : TypeId} {k : Value} (h : aggB P t k = true) : (∃ fs, P.underlying t = some (.struct fs)) ∧ flatB k = true := by
  unfold aggB at h
  split at h
  · rename_i hu
    exact ⟨⟨_, hu⟩, h⟩
  · cases h
theorem findP_ok {t : TypeId} {k : Value} : ∀ {es : List Ent} {es' : List MapEntry} (i : Nat) {r : Option (Nat × Value)}, RelM E es es' → findP P t k es i = some r →
    ∃ r', (Instr.findAsking t k es' i).run P w = .ok r' w ∧ Found E k es es' i r r'
  | [], [], i, r, _, hq => by cases hq; exact ⟨none, rfl, trivial⟩
  | [], _ :: _, _, _, hM, _ => by have := hM.1; simp at this
  | _ :: _, [], _, _, hM, _ => by have := hM.1; simp at this
  | e :: es, e' :: es', i, r, hM, hq => by
    obtain ⟨⟨h1, h2, h3⟩, hT⟩ := hM.head
    unfold findP at hq
    split at hq
    · rename_i he
      have hr : (Op.equal t k e'.key).run P w = .ok true w := by rw [h1]; exact pureRun_run he
      split at hq
      · rename_i hk
        cases hq
        exact ⟨some (i, e'.val), by simp [Instr.findAsking, hr], rfl, h3, Nat.le_refl _, e, e', by simp, by simp, h1, eqV_eq hk⟩
      · cases hq
    · rename_i he
      have hr : (Op.equal t k e'.key).run P w = .ok false w := by rw [h1]; exact pureRun_run he
      obtain ⟨r', k1, k2⟩ := findP_ok (i + 1) hT hq
      refine ⟨r', by simp [Instr.findAsking, hr, k1], ?_⟩
      cases r with
      | none => cases r' with
        | none => trivial
        | some p => exact k2.elim
      | some p => cases r' with
        | none => exact k2.elim
        | some p' =>
          obtain ⟨a1, a2, a3, f, f', a4, a5, a6, a7⟩ := k2
          refine ⟨a1, a2, by omega, f, f', ?_, ?_, a6, a7⟩
          · rw [show p.1 - i = (p.1 - (i + 1)) + 1 by omega]; simpa using a4
          · rw [show p.1 - i = (p.1 - (i + 1)) + 1 by omega]; simpa using a5
    · cases hq
/-- What is told of a key: it is flat, it may be one, it stays, and where it is found. -/
theorem findK_ok {t : TypeId} {k k' : Value} {b : Bool} {es : List Ent} {es' : List MapEntry} {r : Option (Nat × Value)} (hM : RelM E es es') (hk : Rel E k k') (hq : findK P t k b es = some r) :
    k' = k ∧ (Instr.checkKey b 10000 t k).run P w = .ok () w ∧ (Instr.keyThatStays k k).run P w = .ok k w ∧ ∃ r', (Instr.findKey t k es').run P w = .ok r' w ∧ Found E k es es' 0 r r' := by
  unfold findK at hq
  split at hq
  · rename_i hkb
    obtain ⟨d, hd, hkd⟩ := keyB_d hkb
    obtain ⟨r', k1, k2⟩ := findQ_ok hkd 0 hM hq
    refine ⟨leaf_key hkd hk, checkKey_ok hd hkd, keyStays_ok hkd, r', by simp [Instr.findKey, run_und hd, k1], ?_⟩
    cases r with
    | none => cases r' with
      | none => exact k2
      | some p' => exact k2.elim
    | some p => cases r' with
      | none => exact k2.elim
      | some p' => exact k2
  · split at hq
    · rename_i hag
      obtain ⟨⟨fs, hu⟩, hfl⟩ := aggB_eq hag
      split at hq
      · rename_i u k2 hc hs
        split at hq
        · rename_i he
          obtain rfl := eqV_eq he
          obtain ⟨r', k3, k4⟩ := findP_ok (w := w) 0 hM hq
          refine ⟨hk.of_flat hfl, pureRun_run hc, pureRun_run hs, r', ?_, k4⟩
          simp only [Instr.findKey, Sem.run_bind, run_und hu, Result.andThen_ok]
          cases es' with
          | nil => simpa [Instr.findNow, Instr.findAsking] using k3
          | cons e' es' => simpa [Instr.findNow, Instr.sameNow] using k3
        · cases hq
      · cases hq
    · cases hq
theorem WR.map (W : WR E P B w0 w h) {i : Nat} {es : List Ent} {clock : Nat} {b : Nat} (hρ : E.ρ i = some b) (hi : h.ob i = some (.map es clock)) : ∃ es', B b ∧ w.heap[b]? = some (.map es' clock) ∧ RelM E es es'.toList := by
  obtain ⟨o, h2, h3, es', rfl, h4, h5⟩ := W.live i _ b hi hρ
  exact ⟨es', h2, h3, h4, h5⟩
theorem run_getMap {b : Nat} {es : Array MapEntry} {c : Nat} (hb : w.heap[b]? = some (.map es c)) : (getObj b).run P w = .ok (.map es c) w := by
  simp [getObj, Sem.run, hb]
theorem lookupQ_ok (W : WR E P B w0 w h) {t : TypeId} {m k m' k' r : Value} {ok : Bool} (hq : lookupQ P h t m k ok = some r) (hm : Rel E m m') (hk : Rel E k k') : ∃ z, Rel E r z ∧ (Instr.lookup t m' k' ok).run P w = .ok z w := by
  unfold lookupQ at hq
  split at hq
  · rename_i kt et hu
    · have fin : ∀ (es : List Ent) (es' : Array MapEntry), RelM E es es'.toList → ((findK P kt k es.isEmpty es).bind fun r => (match r with
          | some (_, v) => some (v, true)
          | none => (zeroQ P et).map fun z => (z, false)).map fun (v, b) => if ok then Value.tuple #[v, .bool b] else v) = some r →
          ∃ z, Rel E r z ∧ (do
            Instr.checkKey es'.isEmpty 10000 kt k'
            let (v, b) ← match ← Instr.findKey kt k' es'.toList with
              | some (_, v) => pure (v, true)
              | none => pure (← zeroValue et, false)
            pure (if ok then Value.tuple #[v, .bool b] else v) : Sem Value).run P w = .ok z w := by
        intro es es' hM hq
        cases hf : findK P kt k es.isEmpty es with
        | none => simp [hf] at hq
        | some r0 =>
          simp only [hf, Option.bind_some] at hq
          obtain ⟨rfl, hck, _, r', hfk, k2⟩ := findK_ok (w := w) hM hk hf
          have hemp : es'.isEmpty = es.isEmpty := by
            rw [← Array.isEmpty_toList]
            have := hM.1
            cases es <;> cases hl : es'.toList <;> simp [hl] at this ⊢
          rw [← hemp] at hck
          cases r0 with
          | none => cases r' with
            | some p => exact k2.elim
            | none =>
              cases hz : zeroQ P et with
              | none => simp [hz] at hq
              | some z =>
                simp only [hz, Option.map_some, Option.some.injEq] at hq
                obtain ⟨z1, z2⟩ := run_zero (w := w) hz
                refine ⟨r, ?_, by simp [hck, hfk, z1, ← hq]⟩
                rw [← hq]
                split
                · exact relL_tuple ⟨.refl_flat z2, .leaf _ rfl, trivial⟩
                · exact .refl_flat z2
          | some p => cases r' with
            | none => exact k2.elim
            | some p' =>
              simp only [Option.map_some, Option.some.injEq] at hq
              obtain ⟨_, a2, _⟩ := k2
              refine ⟨if ok then .tuple #[p'.2, .bool true] else p'.2, ?_, by simp [hck, hfk]⟩
              rw [← hq]
              split
              · exact relL_tuple ⟨a2, .leaf _ rfl, trivial⟩
              · exact a2
      split at hq
      · -- no map
        obtain rfl := hm.of_leaf rfl
        obtain ⟨z, z1, z2⟩ := fin [] #[] ⟨rfl, fun k e e' h1 => by simp at h1⟩ hq
        refine ⟨z, z1, ?_⟩
        simp only [Instr.lookup, Sem.run_bind, run_und hu, Result.andThen_ok, Sem.run_pure] at z2 ⊢
        exact z2
      · rename_i i
        obtain ⟨b, hρ, rfl⟩ := hm.to_map
        split at hq
        · rename_i es c ho
          obtain ⟨es', _, h3, h4⟩ := W.map hρ ho
          obtain ⟨z, z1, z2⟩ := fin es es' h4 hq
          refine ⟨z, z1, ?_⟩
          simp only [Instr.lookup, Sem.run_bind, run_und hu, Result.andThen_ok, run_getMap h3, Sem.run_pure] at z2 ⊢
          exact z2
        · cases hq
      · cases hq
  · cases hq
theorem fold_put : ∀ {l l' : List Value} (off k : Nat) {cs cs' : Array Value}, RelL E l l' → RelL E cs.toList cs'.toList →
    RelL E ((l.zipIdx k).foldl (fun cs (c, j) => cs.setIfInBounds (off + j) c) cs).toList ((l'.zipIdx k).foldl (fun cs (c, j) => cs.setIfInBounds (off + j) c) cs').toList
  | [], [], _, _, _, _, _, h => h
  | _ :: _, _ :: _, off, k, _, _, h, hc => by
    simp only [List.zipIdx_cons, List.foldl_cons]
    exact fold_put off (k + 1) h.2 (by simpa using hc.set (off + k) h.1)
theorem fill_ok {place : Nat → Option (Nat × Nat)} : ∀ {ps ps' : List (Nat × Value)} {cs cs' r : Array Value}, ps.map (·.1) = ps'.map (·.1) → RelL E (ps.map (·.2)) (ps'.map (·.2)) → RelL E cs.toList cs'.toList → Instr.fill place cs ps = some r →
    ∃ r', Instr.fill place cs' ps' = some r' ∧ RelL E r.toList r'.toList
  | [], [], _, cs', _, _, _, hc, hq => by
    simp only [Instr.fill, Option.some.injEq] at hq
    subst hq
    exact ⟨cs', rfl, hc⟩
  | [], _ :: _, _, _, _, h1, _, _, _ => by simp at h1
  | _ :: _, [], _, _, _, h1, _, _, _ => by simp at h1
  | (i, v) :: ps, (i', v') :: ps', cs, cs', r, h1, h2, hc, hq => by
    simp only [List.map_cons, List.cons.injEq] at h1
    obtain ⟨rfl, h1⟩ := h1
    unfold Instr.fill at hq ⊢
    split at hq
    · cases hq
    · rename_i off size hp
      have hv := h2.1.cells
      have hs : v'.cells.size = v.cells.size := by have := hv.length; simpa using this.symm
      have hcs : cs'.size = cs.size := by have := hc.length; simpa using this.symm
      simp only [hs, hcs]
      split at hq
      · cases hq
      · rename_i hok
        simp only [hok]
        refine fill_ok h1 h2.2 ?_ hq
        rw [← Array.foldl_toList, ← Array.foldl_toList, Array.toList_zipIdx, Array.toList_zipIdx]
        exact fold_put off 0 hv hc
theorem mapM_places : ∀ (l : List Field), (l.all fun f => (szQ P f.type).isSome) = true → (l.mapM (m := Sem) fun f => do pure (f.offset, ← sizeOf f.type)).run P w = .ok (l.map fun f => (f.offset, (szQ P f.type).getD 0)) w
  | [], _ => rfl
  | f :: l, hl => by
    simp only [List.all_cons, Bool.and_eq_true] at hl
    obtain ⟨n, hn⟩ := Option.isSome_iff_exists.1 hl.1
    rw [List.mapM_cons]
    simp only [Sem.run_bind, run_size hn, Result.andThen_ok, Sem.run_pure]
    rw [mapM_places l hl.2]
    simp [hn]
theorem evs_rel (T : RelE p E η a) {xs : List Operand} (hx : xs.all p = true) : RelL E (xs.map η) (xs.map a.eval) :=
  RelL.map fun x hm => ev_rel T (List.all_eq_true.1 hx x hm)
theorem buildQ_ok (T : RelE p E η a) {t : TypeId} {parts : Array (Nat × Operand)} {r : Value} (hx : (parts.toList.map (·.2)).all p = true) (hq : opQ P h η (.build t parts) = some r) :
    ∃ z, Rel E r z ∧ (Instr.build t (parts.map fun (i, x) => (i, a.eval x))).run P w = .ok z w := by
  have hv := evs_rel T hx
  simp only [opQ] at hq
  split at hq
  · rename_i z fields hz hu
    obtain ⟨z1, z2⟩ := run_zero (w := w) hz
    split at hq
    · rename_i hall
      cases hf : Instr.fill (fun i => (fields[i]?).map fun f => (f.offset, (szQ P f.type).getD 0)) z.cells (parts.toList.map fun (i, x) => (i, η x)) with
      | none => simp [hf] at hq
      | some cs =>
        simp only [hf, Option.map_some, Option.some.injEq] at hq
        obtain ⟨cs', k1, k2⟩ := fill_ok (E := E) (ps' := parts.toList.map fun (i, x) => (i, a.eval x)) (cs' := z.cells) (by simp [Function.comp_def]) (by simpa [Function.comp_def] using hv) (Rel.refl_flat z2).cells hf
        refine ⟨.agg cs', hq ▸ relL_agg k2, ?_⟩
        have hm : (fields.mapM (m := Sem) fun f => do pure (f.offset, ← sizeOf f.type)).run P w = .ok (fields.toList.map fun f => (f.offset, (szQ P f.type).getD 0)).toArray w := by
          rw [Array.mapM_eq_mapM_toList, Sem.run_map, mapM_places fields.toList hall]
          rfl
        have hpl : (fun i : Nat => ((fields.toList.map fun f => (f.offset, (szQ P f.type).getD 0)).toArray)[i]?) = fun i => (fields[i]?).map fun f => (f.offset, (szQ P f.type).getD 0) := by
          funext i; simp
        simp only [Instr.build, Sem.run_bind, z1, Result.andThen_ok, run_und hu, hm, hpl]
        simp [k1]
    · cases hq
  · rename_i z n e hz hu
    obtain ⟨z1, z2⟩ := run_zero (w := w) hz
    cases hS : szQ P e with
    | none => simp [hS] at hq
    | some sz =>
      simp only [hS, Option.bind_some] at hq
      cases hf : Instr.fill (fun i => some (i * sz, sz)) z.cells (parts.toList.map fun (i, x) => (i, η x)) with
      | none => simp [hf] at hq
      | some cs =>
        simp only [hf, Option.map_some, Option.some.injEq] at hq
        obtain ⟨cs', k1, k2⟩ := fill_ok (E := E) (ps' := parts.toList.map fun (i, x) => (i, a.eval x)) (cs' := z.cells) (by simp [Function.comp_def]) (by simpa [Function.comp_def] using hv) (Rel.refl_flat z2).cells hf
        refine ⟨.agg cs', hq ▸ relL_agg k2, ?_⟩
        simp only [Instr.build, Sem.run_bind, z1, Result.andThen_ok, run_und hu, run_size hS]
        simp [k1]
  · cases hq
end quiet
end Go.Proofs.YtphfjhpgcdmonaaGreatDoor.Exe
namespace Go.Proofs.YtphfjhpgcdmonaaGreatDoor.Exe
open Go Go.RowKit
section quiet
variable {E : Env} {P : Program} {B : Nat → Prop} {w0 w : World} {h : Hp} {η : Operand → Value} {p : Operand → Bool} {a : Act}
theorem relO_map (T : RelE p E η a) {x : Option Operand} (hx : x.toArray.toList.all p = true) : RelO E (x.map η) (x.map a.eval) := by
  cases x with
  | none => trivial
  | some x => exact ev_rel T (by simpa using hx)
theorem opQ_ok (W : WR E P B w0 w h) (T : RelE p E η a) {o : Oper} {v : Value} (hx : o.op.operands.toList.all p = true) (hq : opQ P h η o.op = some v) :
    ∃ x, Rel E v x ∧ (execOp a.eval o).run P w = .ok (.value x) w := by
  obtain ⟨dst, op, type, pos, after, guard⟩ := o
  dsimp only at hx hq
  have lift : ∀ (s : Sem Value) (x : Value), s.run P w = .ok x w → (do pure (.value (← s)) : Sem Next).run P w = .ok (.value x) w := fun s x hs => by simp [hs]
  cases op with
  | move x =>
    cases hq
    exact ⟨_, ev_rel T (by simpa [Op.operands] using hx), rfl⟩
  | assign x =>
    cases hq
    exact ⟨_, ev_rel T (by simpa [Op.operands] using hx), rfl⟩
  | pick c x y =>
    simp only [Op.operands, List.all_cons, List.all_nil, Bool.and_true, Bool.and_eq_true] at hx
    obtain ⟨hc, hx, hy⟩ := hx
    simp only [opQ] at hq
    split at hq
    · rename_i t he
      cases hq
      have hb := ev_rel T hc
      rw [he] at hb
      have hb := hb.of_bool
      cases t with
      | true => exact ⟨_, ev_rel T hx, by simp [execOp, hb, asBool]⟩
      | false => exact ⟨_, ev_rel T hy, by simp [execOp, hb, asBool]⟩
    · cases hq
  | load t x =>
    simp only [Op.operands, List.all_cons, List.all_nil, Bool.and_true] at hx
    obtain ⟨y, h1, h2⟩ := loadQ_ok W (show loadQ P h t (η x) = some v from hq) (ev_rel T hx)
    exact ⟨y, h1, lift _ _ h2⟩
  | nilCheck x =>
    simp only [Op.operands, List.all_cons, List.all_nil, Bool.and_true] at hx
    have hr := ev_rel T hx
    simp only [opQ] at hq
    split at hq
    · rename_i p he
      cases hq
      rw [he] at hr
      obtain ⟨i, b, h1, h2, h3⟩ := hr.to_ptr'
      refine ⟨_, hr, ?_⟩
      simp [execOp, h3]
    · rename_i f xs ys he
      cases hq
      rw [he] at hr
      obtain ⟨xs', ys', h3, _, _⟩ := hr.to_func
      refine ⟨_, hr, ?_⟩
      simp [execOp, h3]
    · cases hq
  | binOp op t x y ty =>
    simp only [Op.operands, List.all_cons, List.all_nil, Bool.and_true, Bool.and_eq_true] at hx
    obtain ⟨z, h1, h2⟩ := binP_ok (w := w) (show binP P op t x y (η x) (η y) = some v from hq) (ev_rel T hx.1) (ev_rel T hx.2)
    exact ⟨z, h1, lift _ _ h2⟩
  | unOp op t x =>
    simp only [Op.operands, List.all_cons, List.all_nil, Bool.and_true] at hx
    simp only [opQ] at hq
    split at hq
    · rename_i hl
      obtain ⟨h1, h2⟩ := bind_leaf hq
      have he := (ev_rel T hx).of_leaf hl
      refine ⟨v, .leaf _ h2, lift _ _ ?_⟩
      rw [he]
      exact pureRun_run h1
    · cases hq
  | convert src dst x =>
    simp only [Op.operands, List.all_cons, List.all_nil, Bool.and_true] at hx
    obtain ⟨z, h1, h2⟩ := convP_ok W (show convP P h src dst (η x) = some v from hq) (ev_rel T hx)
    exact ⟨z, h1, lift _ _ h2⟩
  | sliceToArrayPointer t x =>
    simp only [Op.operands, List.all_cons, List.all_nil, Bool.and_true] at hx
    have hr := ev_rel T hx
    simp only [opQ] at hq
    split at hq
    · rename_i n e p len cap hu he
      rw [he] at hr
      obtain ⟨a', cap', h1, _, hs⟩ := hr.to_slice'
      obtain ⟨i, b, hρ, h2, rfl, _⟩ := hs _ rfl
      split at hq
      · rename_i hn
        cases hq
        refine ⟨.pointer (some ⟨b, p.off, none⟩), h2 ▸ .ptr i b _ hρ, lift _ _ ?_⟩
        rw [h1]
        exact run_arrayAt _ _ _ _ _ _ _ hu hn
      · cases hq
    · cases hq
  | makeFunc fn first captured =>
    cases fn with
    | func f =>
      cases hq
      simp only [Op.operands, Array.toList_append, List.all_append, Bool.and_eq_true] at hx
      refine ⟨.func (.func f) (first.map a.eval) (captured.map a.eval), relL_func ?_ ?_, rfl⟩
      · simpa using evs_rel T hx.1
      · simpa using evs_rel T hx.2
    | _ => cases hq
  | slice t x lo hi mx =>
    simp only [Op.operands, Array.toList_append, List.all_append, Bool.and_eq_true, List.all_cons, List.all_nil, Bool.and_true] at hx
    obtain ⟨⟨⟨hx, hl⟩, hh⟩, hm⟩ := hx
    obtain ⟨y, h1, h2⟩ := sliceQ_ok (w := w) (show sliceQ P t (η x) (lo.map η) (hi.map η) (mx.map η) = some v from hq) (ev_rel T hx) (relO_map T hm) (relO_map T hh) (relO_map T hl)
    exact ⟨y, h1, lift _ _ h2⟩
  | makeInterface t x =>
    simp only [Op.operands, List.all_cons, List.all_nil, Bool.and_true] at hx
    simp only [opQ] at hq
    split at hq
    · cases hq
    · rename_i d hnot hu
      cases hq
      refine ⟨.iface t (a.eval x), .iface _ _ _ (ev_rel T hx), lift _ _ ?_⟩
      cases d with
      | interface ms => exact absurd rfl (hnot ms)
      | _ => simp [Instr.makeInterface, run_und hu]
    · cases hq
  | fieldAddr s x f =>
    simp only [Op.operands, List.all_cons, List.all_nil, Bool.and_true] at hx
    obtain ⟨y, h1, h2⟩ := fieldAddrQ_ok (w := w) (show fieldAddrQ P s (η x) f = some v from hq) (ev_rel T hx)
    exact ⟨y, h1, lift _ _ h2⟩
  | field t x f =>
    simp only [Op.operands, List.all_cons, List.all_nil, Bool.and_true] at hx
    obtain ⟨y, h1, h2⟩ := fieldQ_ok (w := w) (show fieldQ P t (η x) f = some v from hq) (ev_rel T hx)
    exact ⟨y, h1, lift _ _ h2⟩
  | indexAddr t x i =>
    simp only [Op.operands, List.all_cons, List.all_nil, Bool.and_true, Bool.and_eq_true] at hx
    obtain ⟨y, h1, h2⟩ := indexAddrQ_ok (w := w) (show indexAddrQ P t (η x) (η i) = some v from hq) (ev_rel T hx.1) (ev_rel T hx.2)
    exact ⟨y, h1, lift _ _ h2⟩
  | index t x i =>
    simp only [Op.operands, List.all_cons, List.all_nil, Bool.and_true, Bool.and_eq_true] at hx
    obtain ⟨y, h1, h2⟩ := indexQ_ok (w := w) (show indexQ P t (η x) (η i) = some v from hq) (ev_rel T hx.1) (ev_rel T hx.2)
    exact ⟨y, h1, lift _ _ h2⟩
  | lookup t m k ok =>
    simp only [Op.operands, List.all_cons, List.all_nil, Bool.and_true, Bool.and_eq_true] at hx
    obtain ⟨y, h1, h2⟩ := lookupQ_ok W (show lookupQ P h t (η m) (η k) ok = some v from hq) (ev_rel T hx.1) (ev_rel T hx.2)
    exact ⟨y, h1, lift _ _ h2⟩
  | extract t i =>
    simp only [Op.operands, List.all_cons, List.all_nil, Bool.and_true] at hx
    have hr := ev_rel T hx
    simp only [opQ] at hq
    split at hq
    · rename_i vs he
      rw [he] at hr
      obtain ⟨cs', h1, h2⟩ := hr.to_tuple
      obtain ⟨y, h3, h4⟩ := h2.get hq
      refine ⟨y, h4, lift _ _ ?_⟩
      have h5 : cs'[i]? = some y := by simpa using h3
      simp [Instr.extract, h1, h5]
    · cases hq
  | build t parts =>
    obtain ⟨y, h1, h2⟩ := buildQ_ok T (by simpa [Op.operands] using hx) hq
    exact ⟨y, h1, lift _ _ h2⟩
  | call c =>
    obtain ⟨callee, args, argTypes⟩ := c
    cases callee with
    | value f => cases hq
    | invoke f m => cases hq
    | builtin b =>
      have hargs : args.toList.all p = true := by simpa [Op.operands, Call.operands] using hx
      have run : ∀ (s : Sem Value) (x : Value), (∀ (cs : Array Bool), builtin b argTypes type cs (args.map a.eval) = (do pure (.value (← s)))) → s.run P w = .ok x w → (execOp a.eval ⟨dst, .call ⟨.builtin b, args, argTypes⟩, type, pos, after, guard⟩).run P w = .ok (.value x) w := by
        intro s x h1 h2
        simp [execOp, resolve, invoke, h1, h2]
      cases b with
      | len =>
        simp only [opQ] at hq
        split at hq
        · rename_i x t ha ht
          rw [ha] at hargs
          have hr := ev_rel T (show p x = true by simpa using hargs)
          have ha' : args.map a.eval = #[a.eval x] := by apply Array.toList_inj.1; simp [ha]
          split at hq
          · rename_i s hu he
            cases hq
            rw [he] at hr
            refine ⟨_, .leaf _ rfl, run _ _ (fun _ => rfl) ?_⟩
            simp [Builtin.len_, ht, ha', run_und hu, hr.of_string]
          · rename_i e s n c hu he
            cases hq
            rw [he] at hr
            obtain ⟨a', cap', h1, _⟩ := hr.to_slice'
            refine ⟨_, .leaf _ rfl, run _ _ (fun _ => rfl) ?_⟩
            simp [Builtin.len_, ht, ha', run_und hu, h1]
          · rename_i n e hu
            cases hq
            refine ⟨_, .leaf _ rfl, run _ _ (fun _ => rfl) ?_⟩
            simp [Builtin.len_, ht, ha', run_und hu]
          · cases hq
        · cases hq
      | cap =>
        simp only [opQ] at hq
        split at hq
        · rename_i x t ha ht
          rw [ha] at hargs
          have hr := ev_rel T (show p x = true by simpa using hargs)
          have ha' : args.map a.eval = #[a.eval x] := by apply Array.toList_inj.1; simp [ha]
          split at hq
          · rename_i e s n c hu he
            rw [he] at hr
            split at hq
            · rename_i hc
              cases hq
              have hcap : ∃ s', a.eval x = .slice s' n c := by
                obtain ⟨a', cap', h1, h2, h3⟩ := hr.to_slice'
                cases s with
                | none => obtain ⟨rfl, rfl⟩ := h2 rfl; exact ⟨_, h1⟩
                | some s =>
                  obtain ⟨_, _, _, _, _, _, hk, _⟩ := h3 s rfl
                  rw [hk hc] at h1
                  exact ⟨_, h1⟩
              obtain ⟨s', h1⟩ := hcap
              refine ⟨_, .leaf _ rfl, run _ _ (fun _ => rfl) ?_⟩
              simp [Builtin.cap_, ht, ha', run_und hu, h1]
            · cases hq
          · cases hq
        · cases hq
      | unsafeSliceData =>
        simp only [opQ] at hq
        split at hq
        · rename_i x ha
          rw [ha] at hargs
          have hr := ev_rel T (show p x = true by simpa using hargs)
          have ha' : args.map a.eval = #[a.eval x] := by apply Array.toList_inj.1; simp [ha]
          split at hq
          · rename_i i off n c he
            cases hq
            rw [he] at hr
            obtain ⟨b, cap', hρ, h1, hl, _⟩ := hr.to_slice
            refine ⟨_, .ptr i b off hρ, run _ _ (fun _ => rfl) ?_⟩
            rw [ha', h1]
            exact Lib.run_unsafeSliceData_row _ _ _ _ _ _ (by omega)
          · rename_i n c he
            cases hq
            rw [he] at hr
            obtain ⟨a', cap', h1, h2, _⟩ := hr.to_slice'
            obtain ⟨rfl, _⟩ := h2 rfl
            refine ⟨_, .leaf _ rfl, run _ _ (fun _ => rfl) ?_⟩
            rw [ha', h1]
            exact Lib.run_unsafeSliceData_nil _ _ _ _ _
          · cases hq
        · cases hq
      | max =>
        simp only [opQ] at hq
        split at hq
        · rename_i x y ha
          rw [ha] at hargs
          simp only [List.all_cons, List.all_nil, Bool.and_true, Bool.and_eq_true] at hargs
          have hr := ev_rel T hargs.1
          have hr2 := ev_rel T hargs.2
          have ha' : args.map a.eval = #[a.eval x, a.eval y] := by apply Array.toList_inj.1; simp [ha]
          split at hq
          · rename_i k m k' n he he2
            cases hq
            rw [he] at hr
            rw [he2] at hr2
            refine ⟨_, .leaf _ rfl, run _ _ (fun _ => rfl) ?_⟩
            simp [Builtin.max_, ha', Builtin.max2, hr.of_int, hr2.of_int]
          · cases hq
        · cases hq
      | min =>
        simp only [opQ] at hq
        split at hq
        · rename_i x y ha
          rw [ha] at hargs
          simp only [List.all_cons, List.all_nil, Bool.and_true, Bool.and_eq_true] at hargs
          have hr := ev_rel T hargs.1
          have hr2 := ev_rel T hargs.2
          have ha' : args.map a.eval = #[a.eval x, a.eval y] := by apply Array.toList_inj.1; simp [ha]
          split at hq
          · rename_i k m k' n he he2
            cases hq
            rw [he] at hr
            rw [he2] at hr2
            refine ⟨_, .leaf _ rfl, run _ _ (fun _ => rfl) ?_⟩
            simp [Builtin.min_, ha', Builtin.min2, hr.of_int, hr2.of_int]
          · cases hq
        · cases hq
      | _ => cases hq
  | _ => cases hq
end quiet
end Go.Proofs.YtphfjhpgcdmonaaGreatDoor.Exe
namespace Go.Proofs.YtphfjhpgcdmonaaGreatDoor.Exe
open Go Go.RowKit
section loud
variable {E : Env} {P : Program} {B : Nat → Prop} {w0 w : World} {h : Hp} {η : Operand → Value} {a : Act}
/-- A new row whose length is known. -/
theorem alloc_row (W : WR E P B w0 w h) {vs : List Value} {xs : Array Value} {e : TypeId} {i : Nat} {h' : Hp} (ha : h.alloc (Blk.of vs e false) = some (i, h')) (hR : RelL E vs xs.toList) :
    ∃ E', Grow E h E' h' ∧ E'.ρ i = some w.heap.size ∧ WR E' P B w0 (w.alloc (.cells xs e)) h' := by
  have hi : i = h.next := (allocOb_some ha).1
  have hle : E.le (E.upd i w.heap.size 0) := Env.le_upd (by rw [hi]; exact W.fresh _ (Nat.le_refl _))
  obtain ⟨k1, _, k3⟩ := W.alloc (o := .cells xs e) (c := 0) ha ⟨xs, (0, 0), rfl, fun k _ => by simp, by
    rw [Blk.of_cells]
    have := hR.length
    rw [show xs.toList.take vs.length = xs.toList by rw [this]; exact List.take_length]
    exact hR.mono hle, (fun _ => by rw [Blk.of_cells]; simpa using hR.length.symm), (fun h => by cases h)⟩
  exact ⟨_, Grow.upd hi (allocOb_next ha) (by rw [hi]; exact W.fresh _ (Nat.le_refl _)), k3, k1⟩
/-- A new row of a capacity that was drawn. -/
theorem alloc_grow (W : WR E P B w0 w h) {blk : Blk} {vs : List Value} {xs : Array Value} {e : TypeId} {fr : Nat × Nat} {i c : Nat} {h' : Hp} {info : TypeInfo} (hinfo : P.info? e = some info) (ha : h.alloc blk = some (i, h')) (hv : blk.cells = vs) (he : blk.elem = e) (hg : blk.grow = true)
    (hR : RelL E vs (xs.toList.take vs.length)) (hs : xs.size = c * info.size) (hfr : ∀ k, k < xs.size → ¬ (fr.1 ≤ k ∧ k < fr.2)) :
    ∃ E', Grow E h E' h' ∧ E'.ρ i = some w.heap.size ∧ E'.κ i = c ∧ WR E' P B w0 (w.alloc (.cells xs e fr)) h' := by
  have hi : i = h.next := (allocOb_some ha).1
  have hle : E.le (E.upd i w.heap.size c) := Env.le_upd (by rw [hi]; exact W.fresh _ (Nat.le_refl _))
  obtain ⟨k1, _, k3⟩ := W.alloc (o := .cells xs e fr) (c := c) ha ⟨xs, fr, by rw [he], hfr, by rw [hv]; exact hR.mono hle, (fun h => by rw [hg] at h; cases h), (fun _ => ⟨info, by rw [he]; exact hinfo, by rw [(Env.upd_same _ _ _ _).2]; exact hs⟩)⟩
  exact ⟨_, Grow.upd hi (allocOb_next ha) (by rw [hi]; exact W.fresh _ (Nat.le_refl _)), k3, (Env.upd_same _ _ _ _).2, k1⟩
theorem WR.drew (W : WR E P B w0 w h) : WR E P B w0 w.drew h := ⟨W.below.drew, W.base, W.live, W.inj, W.fresh⟩
theorem zerosL_eq {zs : Array Value} {n : Nat} (hn : zs.size = n) : ∀ len, ((List.range (len * n)).map fun i => zs[i % n]!) = zerosL zs.toList len
  | 0 => by simp [zerosL]
  | len + 1 => by
    rw [zerosL, Nat.succ_mul, Nat.add_comm, List.range_add, List.map_append, List.map_map, ← zerosL_eq hn len]
    congr 1
    · apply List.ext_getElem?
      intro k
      by_cases hk : k < n
      · have h1 : k < zs.size := by omega
        simp [hk, Nat.mod_eq_of_lt hk, h1]
      · simp [hk, hn]
    · congr 1
      funext i
      simp [Function.comp]
theorem zeros_run {zs : Array Value} {n len : Nat} (hn : zs.size = n) : ((Array.range (len * n)).map fun i => (if len * n = 0 then (#[] : Array Value) else zs)[i % (if len * n = 0 then (#[] : Array Value) else zs).size]!) = (zerosL zs.toList len).toArray := by
  by_cases h0 : len * n = 0
  · rw [← zerosL_eq hn]
    simp [h0]
  · simp only [h0, if_false]
    rw [← zerosL_eq hn, hn]
    apply Array.toList_inj.1
    simp
theorem RelL.refl_cells {v : Value} (h : flatB v = true) : RelL E v.cells.toList v.cells.toList := (Rel.refl_flat h).cells
theorem RelL.zeros {l l' : List Value} (hR : RelL E l l') : ∀ n, RelL E (zerosL l n) (zerosL l' n)
  | 0 => trivial
  | n + 1 => hR.append (RelL.zeros hR n)
theorem firstQ_ok (W : WR E P B w0 w h) {z n : Nat} {v x : Value} {new : List Value} (hq : firstQ h z n v = some new) (hr : Rel E v x) :
    ∃ xs, RelL E new xs ∧ (Builtin.firstCells z n x).run P w = .ok xs.toArray w := by
  unfold firstQ at hq
  split at hq
  · cases hq
    obtain rfl := hr.of_leaf rfl
    exact ⟨[], trivial, rfl⟩
  · rename_i i off len cap
    obtain ⟨b, cap', hρ, rfl, _⟩ := hr.to_slice
    obtain ⟨cs', _, h3, _, h4⟩ := run_cells W hρ hq
    exact ⟨cs', h3, h4⟩
  · rename_i s
    cases hq
    obtain rfl := hr.of_string
    refine ⟨_, RelL.refl_leaf (List.all_eq_true.2 fun x hx => ?_), ?_⟩
    · obtain ⟨b, _, rfl⟩ := List.mem_map.1 hx
      rfl
    · simp only [Builtin.firstCells, Sem.run_pure]
      congr 1
      apply Array.toList_inj.1
      simp [extract_data]
  · cases hq
theorem opStore_ok (W : WR E P B w0 w h) {t : TypeId} {u v x y : Value} {h' : Hp} (hq : storeL P h t u v = some h') (hu : Rel E u x) (hv : Rel E v y) :
    ∃ w', (Instr.storeAt t x y).run P w = .ok () w' ∧ WR E P B w0 w' h' := by
  unfold storeL at hq
  split at hq
  · rename_i i off n hS
    obtain ⟨b, hρ, rfl⟩ := hu.to_ptr
    split at hq
    · rename_i hn
      have hc := hv.cells
      have hsz : y.cells.size = n := by have := hc.length; simp at this; omega
      obtain ⟨w', h1, h2⟩ := run_stores W hq hc hρ
      exact ⟨w', by simp [Instr.storeAt, Instr.sureAddr, storeVar, run_size hS, hsz, h1], h2⟩
    · cases hq
  · cases hq
theorem RelM.modify {es : List Ent} {es' : List MapEntry} {i : Nat} {f : Ent → Ent} {g : MapEntry → MapEntry} (hM : RelM E es es') (hf : ∀ e e', es[i]? = some e → es'[i]? = some e' → (e'.key = e.key ∧ e'.born = e.born ∧ Rel E e.val e'.val) → (g e').key = (f e).key ∧ (g e').born = (f e).born ∧ Rel E (f e).val (g e').val) :
    RelM E (es.modify i f) (es'.modify i g) := by
  refine ⟨by simp [hM.1], fun k e e' h1 h2 => ?_⟩
  rw [List.getElem?_modify] at h1 h2
  cases ha : es[k]? with
  | none => simp [ha] at h1
  | some e0 =>
    cases hb : es'[k]? with
    | none => simp [hb] at h2
    | some e0' =>
      simp only [ha, hb, Option.map_eq_map, Option.map_some, Option.some.injEq] at h1 h2
      subst h1 h2
      by_cases hk : i = k
      · subst hk
        simp only [if_true]
        exact hf e0 e0' ha hb (hM.2 i e0 e0' ha hb)
      · simp only [hk, if_false]
        exact hM.2 k e0 e0' ha hb
theorem opUpdate_ok (W : WR E P B w0 w h) {t : TypeId} {m k v m' k' v' : Value} {h' : Hp} (hq : updateL P h t m k v = some h') (hm : Rel E m m') (hk : Rel E k k') (hv : Rel E v v') :
    ∃ w', (Instr.mapUpdate t m' k' v').run P w = .ok () w' ∧ WR E P B w0 w' h' := by
  unfold updateL at hq
  split at hq
  · rename_i kt et i hu
    obtain ⟨b, hρ, rfl⟩ := hm.to_map
    · split at hq
      · rename_i es clock ho
        obtain ⟨es', _, h3, h4⟩ := W.map hρ ho
        cases hf : findK P kt k false es with
        | none => simp [hf] at hq
        | some r =>
          simp only [hf, Option.map_some, Option.some.injEq] at hq
          obtain ⟨rfl, hck, hst, r', hfk, k2⟩ := findK_ok (w := w) h4 hk hf
          have hset : ∀ o, (setObj b o).run P w = .ok () (w.putObj b o) := fun o => by simp [setObj, Sem.run, h3, World.putObj]
          have hbase : (Instr.mapUpdate t (.map (some b)) k' v').run P w = (match (generalizing := false) r' with
            | some (i, _) => do
              let key ← Instr.keyThatStays (((es'[i]?).map (·.key)).getD k') k'
              setObj b (.map (es'.modify i fun e => { e with key, val := v' }) clock)
            | none => setObj b (.map (es'.push { key := k', val := v', born := clock }) (clock + 1)) : Sem Unit).run P w := by
            simp only [Instr.mapUpdate, Sem.run_bind, run_und hu, Result.andThen_ok, run_getMap h3, hck, hfk]
            clear k2 hfk
            cases r' <;> rfl
          cases r with
          | none => cases r' with
            | some p => exact k2.elim
            | none =>
              refine ⟨_, by rw [hbase]; exact hset _, ?_⟩
              rw [← hq]
              refine W.update ho hρ ⟨_, rfl, ?_, ?_⟩
              · simp [h4.1]
              · intro n e e' a1 a2
                simp only [Array.toList_push] at a2
                rcases Nat.lt_or_ge n es.length with hn | hn
                · rw [List.getElem?_append_left hn] at a1
                  rw [List.getElem?_append_left (by rw [h4.1]; exact hn)] at a2
                  exact h4.2 n e e' a1 a2
                · rw [List.getElem?_append_right hn] at a1
                  rw [List.getElem?_append_right (by rw [h4.1]; exact hn), h4.1] at a2
                  cases hz : n - es.length with
                  | zero =>
                    rw [hz] at a1 a2
                    simp at a1 a2
                    subst a1 a2
                    exact ⟨rfl, rfl, hv⟩
                  | succ z => rw [hz] at a1; simp at a1
          | some p => cases r' with
            | none => exact k2.elim
            | some p' =>
              obtain ⟨a1, _, _, e, e', a4, a5, a6, a7⟩ := k2
              obtain ⟨n, v0⟩ := p
              obtain ⟨n', v0'⟩ := p'
              dsimp only at a1 a4 a5
              subst a1
              simp only [Nat.sub_zero] at a4 a5
              have hkey : ((es'[n]?).map (·.key)).getD k' = k' := by
                have : es'[n]? = some e' := by simpa using a5
                simp [this, a6, a7]
              refine ⟨_, by rw [hbase]; simp only [hkey, Sem.run_bind, hst, Result.andThen_ok]; exact hset _, ?_⟩
              rw [← hq]
              refine W.update ho hρ ?_
              have hM := RelM.modify (i := n) (f := fun e => { e with val := v }) (g := fun e => { e with key := k', val := v' }) h4 (fun f f' b1 b2 b3 => by
                rw [a4] at b1
                cases b1
                exact ⟨a7, b3.2.1, hv⟩)
              exact ⟨_, rfl, by simpa using hM.1, fun q g g' c1 c2 => hM.2 q g g' c1 (by simpa using c2)⟩
      · cases hq
  · cases hq
end loud
end Go.Proofs.YtphfjhpgcdmonaaGreatDoor.Exe
namespace Go.Proofs.YtphfjhpgcdmonaaGreatDoor.Exe
open Go Go.RowKit
section app
variable {E : Env} {P : Program} {B : Nat → Prop} {w0 w : World} {h : Hp} {η : Operand → Value} {a : Act}
/-- How what is appended is told: how many, and its cells. -/
structure App (P : Program) (ts tx e : TypeId) (z n : Nat) (x : Value) (app : Sem (Array Value)) : Prop where
  inp : ∀ (ty : TypeId) (s : Addr) (len cap : Nat) (xs : Array Value) (w w' : World), len + n ≤ cap → app.run P w = .ok xs w → (storeCells (s.add (len * z)) xs.toList).run P w = .ok () w' →
    (Builtin.append_ #[ts, tx] ty #[.slice (some s) len cap, x]).run P w = .ok (.slice (some s) (len + n) cap) w'
  nil : ∀ (ty : TypeId) (w : World), n = 0 → app.run P w = .ok #[] w → (Builtin.append_ #[ts, tx] ty #[.slice none 0 0, x]).run P w = .ok (.slice none 0 0) w
  grow : ∀ (ty : TypeId) (s : Option Addr) (len cap : Nat) (old xs : Array Value) (zv : Value) (bs : Nat) (w : World), ¬ len + n ≤ cap → bytesQ P e = some bs → bs ≠ 0 → (len + n) * bs ≤ 2 ^ 47 → len + n ≤ 2 ^ 24 → zeroQ P e = some zv →
    (Builtin.firstCells z len (.slice s len cap)).run P w.drew = .ok old w.drew → app.run P w.drew = .ok xs w.drew →
    ∃ c, len + n ≤ c ∧ (Builtin.append_ #[ts, tx] ty #[.slice s len cap, x]).run P w = .ok (.slice (some ⟨w.heap.size, 0, none⟩) (len + n) c) (w.drew.alloc (.cells (old ++ xs ++ Builtin.zeroCells zv.cells (c - (len + n))) e))
theorem app_list {ts tx e : TypeId} {z n : Nat} {x : Value} {d : TypeDesc} (hts : P.underlying ts = some (.slice e)) (htx : P.underlying tx = some d) (hd : ∀ k, d ≠ .int k) (hz : szQ P e = some z) (hlen : ∀ w, (Builtin.lenOf x).run P w = .ok n w) :
    App P ts tx e z n x (Builtin.firstCells z n x) := by
  refine ⟨fun ty s len cap xs w w' h1 h2 h3 => ?_, fun ty w h1 h2 => ?_, fun ty s len cap old xs zv bs w h1 h2 h3 h4 h5 h6 h7 h8 => ?_⟩
  · simp [Builtin.append_, run_und hts, run_und htx, run_size hz, hlen, h1, h2, h3]
  · subst h1
    simp [Builtin.append_, run_und hts, run_und htx, run_size hz, hlen, h2]
  · have hg : ¬ (2 ^ 48 < Builtin.nextslicecap (len + n) cap * bs) := Nat.not_lt.2 (growslice_fits (by omega) (by simpa using h4))
    obtain ⟨i, hi, hib⟩ : ∃ i, P.info? e = some i ∧ i.bytes = bs := by
      unfold bytesQ at h2
      cases hi : P.info? e with
      | none => simp [hi] at h2
      | some i => exact ⟨i, rfl, by simpa [hi] using h2⟩
    have hti : ∀ w, (typeInfo e).run P w = .ok i w := fun w => by simp [typeInfo, hi]
    refine ⟨Question.cut (.appendCap (len + n) cap e) (w.tape w.drawn (.appendCap (len + n) cap e)), by simp [Question.cut], ?_⟩
    simp [Builtin.append_, run_und hts, run_und htx, run_size hz, hlen, h1, h3, hti, hib, hg, h7, h8, (run_zero (w := w.drew) h6).1, newRow, Question.forced]
theorem app_zeros {ts tx e : TypeId} {z : Nat} {k j : IntKind} {m : Int} (hts : P.underlying ts = some (.slice e)) (htx : P.underlying tx = some (.int j)) (hz : szQ P e = some z) (hm : 0 ≤ m ∧ m ≤ 2 ^ 20) {bs : Nat} (hbs : bytesQ P e = some bs) (hb : bs ≤ 2 ^ 20) {zv0 : Value} (hzv : zeroQ P e = some zv0) :
    App P ts tx e z m.toNat (.int k m) (pure (if m.toNat * z = 0 then #[] else Builtin.zeroCells zv0.cells m.toNat)) := by
  obtain ⟨i, hi, hib⟩ : ∃ i, P.info? e = some i ∧ i.bytes = bs := by
    unfold bytesQ at hbs
    cases hi : P.info? e with
    | none => simp [hi] at hbs
    | some i => exact ⟨i, rfl, by simpa [hi] using hbs⟩
  have hti : ∀ w, (typeInfo e).run P w = .ok i w := fun w => by simp [typeInfo, hi]
  have hwrap : IntKind.i64.wrap m = m := by
    have h1 : m % (2 ^ 64 : Int) = m := Int.emod_eq_of_lt hm.1 (by omega)
    show (if IntKind.i64.signed && m % (2 ^ IntKind.i64.bits : Int) ≥ (2 ^ (IntKind.i64.bits - 1) : Int) then m % (2 ^ IntKind.i64.bits : Int) - (2 ^ IntKind.i64.bits : Int) else m % (2 ^ IntKind.i64.bits : Int)) = m
    have h2 : (2 ^ IntKind.i64.bits : Int) = 2 ^ 64 := rfl
    have h3 : (2 ^ (IntKind.i64.bits - 1) : Int) = 2 ^ 63 := rfl
    rw [h2, h3, h1]
    simp
    intro _ h
    omega
  have hn0 : ¬ m < 0 := by omega
  have hzr : ∀ w, (zeroValue e).run P w = .ok zv0 w := fun w => (run_zero hzv).1
  have hbig : ¬ ((2 : Int) ^ 48 < m * (bs : Int)) := by
    have h1 : m * (bs : Int) ≤ 2 ^ 20 * 2 ^ 20 := Int.mul_le_mul hm.2 (by omega) (by omega) (by omega)
    omega
  have hbig' : ¬ (281474976710656 < m * (bs : Int)) := by simpa using hbig
  refine ⟨fun ty s len cap xs w w' h1 h2 h3 => ?_, fun ty w h1 h2 => ?_, fun ty s len cap old xs zv bs' w h1 h2 h3 h4 h5 h6 h7 h8 => ?_⟩
  · simp only [Sem.run_pure, Result.ok.injEq, and_true] at h2
    subst h2
    by_cases h0 : m.toNat * z = 0
    · simp only [h0, if_true] at h3
      simp [Builtin.append_, run_und hts, run_und htx, run_size hz, asInt, asIntOf, hwrap, hn0, hti, hib, hbig', h1, h3, h0]
    · simp only [h0, if_false] at h3
      simp [Builtin.append_, run_und hts, run_und htx, run_size hz, asInt, asIntOf, hwrap, hn0, hti, hib, hbig', h1, h3, h0, hzr]
  · have h0 : m ≤ 0 := by omega
    simp [Builtin.append_, run_und hts, run_und htx, run_size hz, asInt, asIntOf, hwrap, hn0, hti, hib, hbig', h0, h1]
  · obtain rfl : bs = bs' := Option.some.inj (hbs.symm.trans h2)
    have hg : ¬ (2 ^ 48 < Builtin.nextslicecap (len + m.toNat) cap * bs) := Nat.not_lt.2 (growslice_fits (by omega) (by simpa using h4))
    have hI : ¬ (9223372036854775807 < (len : Int) + max m 0) := by omega
    obtain rfl : zv0 = zv := Option.some.inj (hzv.symm.trans h6)
    refine ⟨Question.cut (.appendCap (len + m.toNat) cap e) (w.tape w.drawn (.appendCap (len + m.toNat) cap e)), by simp [Question.cut], ?_⟩
    simp only [Sem.run_pure, Result.ok.injEq, and_true] at h8
    subst h8
    by_cases h0 : m.toNat * z = 0
    · simp [Builtin.append_, run_und hts, run_und htx, run_size hz, asInt, asIntOf, hwrap, hn0, hti, hib, hbig', h1, hI, hg, h7, hzr, newRow, Question.forced, h0]
    · simp [Builtin.append_, run_und hts, run_und htx, run_size hz, asInt, asIntOf, hwrap, hn0, hti, hib, hbig', h1, hI, hg, h7, hzr, newRow, Question.forced, h0]
end app
end Go.Proofs.YtphfjhpgcdmonaaGreatDoor.Exe
namespace Go.Proofs.YtphfjhpgcdmonaaGreatDoor.Exe
open Go Go.RowKit
section app
variable {E : Env} {P : Program} {B : Nat → Prop} {w0 w : World} {h : Hp} {η : Operand → Value} {a : Act}
theorem setAll_take_end : ∀ (vs cs : List Value) (n : Nat), n + vs.length ≤ cs.length → (setAll cs n vs).take (n + vs.length) = cs.take n ++ vs
  | [], cs, n, _ => by simp [setAll]
  | v :: vs, cs, n, hl => by
    simp only [setAll, List.length_cons] at hl ⊢
    rw [show n + (vs.length + 1) = (n + 1) + vs.length by omega, setAll_take_end vs (cs.set n v) (n + 1) (by simp; omega)]
    have : (cs.set n v).take (n + 1) = cs.take n ++ [v] := by
      rw [List.take_add_one, List.take_set_of_le (Nat.le_refl _)]
      congr 1
      have hn : n < cs.length := by omega
      simp [hn]
    rw [this]
    simp
theorem relL_size {vs : List Value} {xs : Array Value} (h : RelL E vs xs.toList) : xs.size = vs.length := by
  have := h.length
  simpa using this.symm
theorem zeroCells_size (zv : Array Value) (n : Nat) : (Builtin.zeroCells zv n).size = n * zv.size := by simp [Builtin.zeroCells]
/-- A new row behind a drawn capacity. -/
theorem grow_row (W : WR E P B w0 w h) {blk : Blk} {e : TypeId} {vs : List Value} {xs zs : Array Value} {i c m z : Nat} {h' : Hp} {info : TypeInfo} (hinfo : P.info? e = some info) (hz : info.size = z) (ha : h.alloc blk = some (i, h')) (hv : blk.cells = vs) (he : blk.elem = e) (hg : blk.grow = true) (hR : RelL E vs xs.toList)
    (hl : vs.length = m * z) (hm : m ≤ c) (hzs : zs.size = (c - m) * z) : ∃ E', Grow E h E' h' ∧ WR E' P B w0 (w.alloc (.cells (xs ++ zs) e)) h' ∧ Rel E' (.slice (some ⟨i, 0, none⟩) m capG) (.slice (some ⟨w.heap.size, 0, none⟩) m c) := by
  have hxs := relL_size hR
  obtain ⟨E', k1, k2, k3, k4⟩ := alloc_grow W (xs := xs ++ zs) (fr := (0, 0)) (c := c) hinfo ha hv he hg (by
    have : (xs ++ zs).toList.take vs.length = xs.toList := by
      rw [Array.toList_append, List.take_append_of_le_length (by simp [hxs])]
      exact List.take_of_length_le (by rw [Array.length_toList, hxs]; exact Nat.le_refl _)
    rw [this]; exact hR) (by
    rw [Array.size_append, hxs, hzs, hl, hz, ← Nat.add_mul]; congr 1; omega) (fun k _ => by simp)
  exact ⟨E', k1, k4, .slice i _ _ _ _ _ k2 hm (fun hc => by simp at hc) (fun _ => ⟨rfl, k3.symm⟩)⟩
theorem appendL_ok (W : WR E P B w0 w h) {ts tx e ty : TypeId} {z n : Nat} {base : Option Addr} {len cap : Nat} {new : List Value} {s x v : Value} {h' : Hp} {app : Sem (Array Value)} (hA : App P ts tx e z n x app) (hz : szQ P e = some z)
    (hq : appendL P h e base len cap new n = some (v, h')) (hs : Rel E (.slice base len cap) s) (happ : ∀ w, WR E P B w0 w h → ∃ xs : Array Value, RelL E new xs.toList ∧ app.run P w = .ok xs w) :
    ∃ E' y w', Grow E h E' h' ∧ Rel E' v y ∧ WR E' P B w0 w' h' ∧ (Builtin.append_ #[ts, tx] ty #[s, x]).run P w = .ok y w' := by
  unfold appendL at hq
  cases hbs : bytesQ P e with
  | none => simp [hz, hbs] at hq
  | some bs =>
  cases hzv : zeroQ P e with
  | none => simp [hz, hbs, hzv] at hq
  | some zv =>
  simp only [hz, hbs, hzv, Option.bind_some] at hq
  split at hq
  · cases hq
  rename_i hc
  simp only [Bool.or_eq_true, decide_eq_true_eq, Bool.not_eq_true', not_or, Bool.not_eq_false, Nat.not_lt] at hc
  obtain ⟨⟨⟨⟨⟨⟨hz0, hzs⟩, hcell⟩, hnl⟩, hlen⟩, hbs0⟩, hbs1⟩ := hc
  have hzs' : zv.cells.size = z := by simpa using hzs
  have hnl' : new.length = n * z := by simpa using hnl
  have hbound : (len + n) * bs ≤ 2 ^ 47 := by
    have := Nat.mul_le_mul hlen hbs1
    omega
  obtain ⟨info, hinfo, hisz⟩ : ∃ i, P.info? e = some i ∧ i.size = z := by
    unfold szQ at hz
    cases hi : P.info? e with
    | none => simp [hi] at hz
    | some i => exact ⟨i, rfl, by simpa [hi] using hz⟩
  split at hq
  · -- no block yet
    split at hq
    · rename_i hlc
      obtain ⟨rfl, rfl⟩ := hlc
      obtain rfl := hs.of_leaf rfl
      split at hq
      · rename_i hn0
        cases hq
        obtain ⟨xs, k1, k2⟩ := happ w W
        have hx0 : xs = #[] := by
          have := relL_size k1
          rw [hnl', hn0] at this
          simpa using this
        rw [hx0] at k2
        exact ⟨E, _, w, Grow.refl _ _, .leaf _ rfl, W, hA.nil ty w hn0 k2⟩
      · rename_i hn0
        cases ha : h.alloc (Blk.of new e true) with
        | none => simp [ha] at hq
        | some p =>
          obtain ⟨j, hp⟩ := p
          simp only [ha, Option.map_some, Option.some.injEq, Prod.mk.injEq] at hq
          obtain ⟨rfl, rfl⟩ := hq
          obtain ⟨xs, k1, k2⟩ := happ w.drew W.drew
          obtain ⟨c, c1, c2⟩ := hA.grow ty none 0 0 #[] xs zv bs w (by omega) hbs hbs0 hbound hlen hzv rfl k2
          simp only [Nat.zero_add] at c1 c2
          obtain ⟨E', e1, e2, e3⟩ := grow_row W.drew (zs := Builtin.zeroCells zv.cells (c - n)) hinfo hisz ha (Blk.of_cells _ _ _) rfl rfl (by simpa using k1) hnl' c1 (by rw [zeroCells_size, hzs'])
          refine ⟨E', _, _, e1, e3, e2, ?_⟩
          simpa using c2
    · cases hq
  · rename_i i off
    obtain ⟨b, cap', hρ, rfl, hl, hk, hg⟩ := hs.to_slice
    split at hq
    · -- nothing is appended
      rename_i hn0
      cases hq
      subst hn0
      obtain ⟨xs, k1, k2⟩ := happ w W
      have hx0 : xs = #[] := by
        have := relL_size k1
        rw [hnl', Nat.zero_mul] at this
        simpa using this
      subst hx0
      exact ⟨E, _, w, Grow.refl _ _, .slice i b off len cap cap' hρ hl hk hg, W, hA.inp ty _ len cap' #[] w w hl k2 rfl⟩
    · rename_i hn0
      split at hq
      · rename_i hcg
        have hcap := hk hcg
        subst hcap
        split at hq
        · -- there is room
          rename_i hroom
          cases hst : storeCellsL h i (off + len * z) new with
          | none => simp [hst] at hq
          | some hp =>
            simp only [hst, Option.map_some, Option.some.injEq, Prod.mk.injEq] at hq
            obtain ⟨rfl, rfl⟩ := hq
            obtain ⟨xs, k1, k2⟩ := happ w W
            obtain ⟨w', s1, s2⟩ := run_stores W hst k1 hρ
            exact ⟨E, _, w', Grow.same (storeCellsL_next hst), .slice i b off _ _ _ hρ hroom (fun _ => rfl) (fun e => by omega), s2, hA.inp ty _ len cap' xs w w' hroom k2 (by rw [add_none]; exact s1)⟩
        · rename_i hroom
          cases hold : cellsAt h i off (len * z) with
          | none => simp [hold] at hq
          | some old =>
            cases ha : h.alloc (Blk.of (old ++ new) e true) with
            | none => simp [hold, ha] at hq
            | some p =>
              obtain ⟨j, hp⟩ := p
              simp only [hold, Option.bind_some, ha, Option.map_some, Option.some.injEq, Prod.mk.injEq] at hq
              obtain ⟨rfl, rfl⟩ := hq
              obtain ⟨xs, k1, k2⟩ := happ w.drew W.drew
              obtain ⟨ol, _, o3, o4, o5⟩ := run_cells W.drew hρ hold
              obtain ⟨c, c1, c2⟩ := hA.grow ty (some ⟨b, off, none⟩) len cap' ol.toArray xs zv bs w hroom hbs hbs0 hbound hlen hzv o5 k2
              obtain ⟨E', e1, e2, e3⟩ := grow_row W.drew (xs := ol.toArray ++ xs) (zs := Builtin.zeroCells zv.cells (c - (len + n))) hinfo hisz ha (Blk.of_cells _ _ _) rfl rfl (by simpa using o3.append k1) (by rw [List.length_append, o4, hnl', Nat.add_mul]) c1 (by rw [zeroCells_size, hzs'])
              exact ⟨E', _, _, e1, e3, e2, c2⟩
      · split at hq
        · rename_i hcg
          subst hcg
          obtain ⟨rfl, hκ⟩ := hg rfl
          split at hq
          · rename_i blk hblk
            split at hq
            · rename_i hb
              simp only [Bool.and_eq_true, decide_eq_true_eq] at hb
              obtain ⟨⟨hgrow, helem⟩, hcl⟩ := hb
              rw [← Blk.length] at hcl
              subst helem
              obtain ⟨cs, fr, r2, r3, r4, r5, _, r7⟩ := W.row hblk hρ
              obtain ⟨info', i1, i2⟩ := r7 hgrow
              obtain rfl : info = info' := Option.some.inj (hinfo.symm.trans i1)
              rw [← hκ, hisz] at i2
              have hsmall : i < roomN := Hp.ob_small (by rw [Hp.get_ob hblk]; rfl)
              cases ha : (h.put i none).alloc (blk.ext new) with
              | none => simp [ha] at hq
              | some p =>
                obtain ⟨j, hp⟩ := p
                simp only [ha, Option.map_some, Option.some.injEq, Prod.mk.injEq] at hq
                obtain ⟨rfl, rfl⟩ := hq
                by_cases hroom : len + n ≤ cap'
                · -- there is room: the block goes on under another name
                  obtain ⟨xs, k1, k2⟩ := happ w W
                  have hxs := relL_size k1
                  have hfit : len * z + xs.toList.length ≤ cs.size := by
                    rw [Array.length_toList, hxs, hnl', i2, ← Nat.add_mul]
                    exact Nat.mul_le_mul_right _ hroom
                  have hst := run_store_cells (P := P) (off := len * z) xs.toList 0 cs w r3 r4 (by omega) (k1.allCell hcell)
                  have hlt := (Array.getElem?_eq_some_iff.1 r3).1
                  have Wk := W.kill i hsmall
                  have hj : j = h.next := (allocOb_some ha).1
                  have hle : E.le (E.upd j b cap') := Env.le_upd (by rw [hj]; exact W.fresh _ (Nat.le_refl _))
                  have hnew := Wk.name (w' := w.putObj b (.cells (setAll cs.toList (len * z + 0) xs.toList).toArray blk.elem fr)) (ob := .row (blk.ext new)) (b := b) (c := cap') (o := .cells (setAll cs.toList (len * z + 0) xs.toList).toArray blk.elem fr)
                    ⟨rfl, rfl, rfl, by simp, fun k _ hk => World.putObj_heap_other (by rintro rfl; exact hk r2)⟩ ha r2
                    (fun k hk he => by
                      by_cases hki : k = i
                      · rw [hki, Hp.ob_put_same hsmall] at hk; cases hk
                      · rw [Hp.ob_put_other hsmall hki] at hk
                        exact hki (W.inj k i b hk (by rw [Hp.get_ob hblk]; rfl) he hρ))
                    (fun k hk _ => World.putObj_heap_other hk) (World.putObj_heap_same hlt)
                    ⟨_, fr, rfl, by simpa [setAll_length] using r4, by
                      have e1 : (setAll cs.toList (len * z + 0) xs.toList).take (blk.cells ++ new).length = cs.toList.take blk.cells.length ++ xs.toList := by
                        have := setAll_take_end xs.toList cs.toList (len * z) (by rw [Array.length_toList, Array.length_toList]; rw [Array.length_toList] at hfit; exact hfit)
                        rw [Nat.add_zero, List.length_append, hcl, show new.length = xs.toList.length from k1.length]
                        exact this
                      rw [Blk.ext_cells]
                      show RelL _ (blk.cells ++ new) ((setAll cs.toList (len * z + 0) xs.toList).take (blk.cells ++ new).length)
                      rw [e1]
                      exact (r5.append k1).mono hle, (fun h => by rw [show (blk.ext new).grow = blk.grow from rfl, hgrow] at h; cases h), (fun _ => ⟨info, hinfo, by
                        rw [List.size_toArray, setAll_length, Array.length_toList, i2]
                        show cap' * z = (E.upd j b cap').κ j * info.size
                        rw [(Env.upd_same _ _ _ _).2, hisz]⟩)⟩
                  refine ⟨E.upd j b cap', .slice (some ⟨b, 0, none⟩) (len + n) cap', _, Grow.upd hj (show hp.next = h.next + 1 from allocOb_next (h := h.put i none) ha) (by rw [hj]; exact W.fresh _ (Nat.le_refl _)), .slice _ _ _ _ _ _ (Env.upd_same _ _ _ _).1 hroom (fun hc => by simp at hc) (fun _ => ⟨rfl, (Env.upd_same _ _ _ _).2.symm⟩), hnew, ?_⟩
                  exact hA.inp ty _ len cap' xs w _ hroom k2 (by rw [add_none, Nat.zero_add]; exact hst)
                · -- there is none
                  obtain ⟨xs, k1, k2⟩ := happ w.drew W.drew
                  have hold : cellsAt h i 0 (len * z) = some blk.cells := by
                    unfold cellsAt
                    rw [hblk]
                    rw [← hcl]
                    have hb : Nat.ble (0 + blk.cells.length) blk.raw.len = true := Nat.ble_eq_true_of_le (by rw [← Blk.length]; omega)
                    dsimp only
                    rw [hb, Row.sub_list, cond_true, List.drop_zero]
                    show some (List.take blk.cells.length blk.cells) = _
                    rw [List.take_length]
                  obtain ⟨ol, _, o3, o4, o5⟩ := run_cells W.drew hρ hold
                  obtain ⟨c, c1, c2⟩ := hA.grow ty (some ⟨b, 0, none⟩) len cap' ol.toArray xs zv bs w hroom hbs hbs0 hbound hlen hzv o5 k2
                  obtain ⟨E', e1, e2, e3⟩ := grow_row (W.drew.kill i hsmall) (xs := ol.toArray ++ xs) (zs := Builtin.zeroCells zv.cells (c - (len + n))) hinfo hisz ha (Blk.ext_cells _ _) rfl hgrow (by simpa using o3.append k1) (by rw [List.length_append, hcl, hnl', Nat.add_mul]) c1 (by rw [zeroCells_size, hzs'])
                  exact ⟨E', _, _, e1, e3, e2, c2⟩
            · cases hq
          · cases hq
        · cases hq
  · cases hq
end app
end Go.Proofs.YtphfjhpgcdmonaaGreatDoor.Exe
namespace Go.Proofs.YtphfjhpgcdmonaaGreatDoor.Exe
open Go Go.RowKit
section all
variable {E : Env} {P : Program} {B : Nat → Prop} {w0 w : World} {h : Hp} {η : Operand → Value} {a : Act}
theorem lenQ_ok {v x : Value} {n : Nat} (hq : lenQ v = some n) (hr : Rel E v x) (w : World) : (Builtin.lenOf x).run P w = .ok n w := by
  unfold lenQ at hq
  split at hq
  · cases hq
    obtain ⟨a', cap', rfl, _⟩ := hr.to_slice'
    rfl
  · cases hq
    obtain rfl := hr.of_string
    rfl
  · cases hq
theorem wrap_small {m : Int} (h : 0 ≤ m ∧ m ≤ 2 ^ 20) : IntKind.i64.wrap m = m := by
  have h1 : m % (2 ^ 64 : Int) = m := Int.emod_eq_of_lt h.1 (by omega)
  show (if IntKind.i64.signed && m % (2 ^ IntKind.i64.bits : Int) ≥ (2 ^ (IntKind.i64.bits - 1) : Int) then m % (2 ^ IntKind.i64.bits : Int) - (2 ^ IntKind.i64.bits : Int) else m % (2 ^ IntKind.i64.bits : Int)) = m
  have h2 : (2 ^ IntKind.i64.bits : Int) = 2 ^ 64 := rfl
  have h3 : (2 ^ (IntKind.i64.bits - 1) : Int) = 2 ^ 63 := rfl
  rw [h2, h3, h1]
  simp
  intro _ h
  omega
theorem makeSlice_ok {t e : TypeId} {k k' : IntKind} {n m : Int} {z : Nat} {v : Value} (hu : P.underlying t = some (.slice e)) (hz : szQ P e = some z) (hv : zeroQ P e = some v) (hc : 0 ≤ n ∧ n ≤ m ∧ m ≤ 2 ^ 20 ∧ (bytesQ P e).getD (2 ^ 30) ≤ 2 ^ 20 ∧ v.cells.size = z) :
    (Instr.makeSlice t (.int k n) (.int k' m)).run P w = .ok (.slice (some ⟨w.heap.size, 0, none⟩) n.toNat m.toNat) (w.alloc (.cells (zerosL v.cells.toList m.toNat).toArray e)) := by
  obtain ⟨h0, h1, h2, h3, h4⟩ := hc
  have hzr : ∀ w, (zeroValue e).run P w = .ok v w := fun w => (run_zero hv).1
  obtain ⟨i, hi, hib⟩ : ∃ i, P.info? e = some i ∧ i.bytes ≤ 2 ^ 20 := by
    unfold bytesQ at h3
    cases hi : P.info? e with
    | none => rw [hi] at h3; simp at h3
    | some i => exact ⟨i, rfl, by simpa [hi] using h3⟩
  have hti : ∀ w, (typeInfo e).run P w = .ok i w := fun w => by simp [typeInfo, hi]
  have hm : (i.bytes : Int) * m ≤ 2 ^ 20 * 2 ^ 20 := Int.mul_le_mul (by omega) h2 (by omega) (by omega)
  have hw1 := wrap_small (m := n) ⟨h0, by omega⟩
  have hw2 := wrap_small (m := m) ⟨by omega, h2⟩
  have a1 : ¬ m < 0 := by omega
  have a2 : ¬ ((2 : Int) ^ 48 < (i.bytes : Int) * m) := by omega
  have a3 : ¬ n < 0 := by omega
  have a4 : ¬ m < n := by omega
  have a2' : ¬ ((281474976710656 : Int) < (i.bytes : Int) * m) := by simpa using a2
  have hzz := zeros_run (zs := v.cells) (n := z) (len := m.toNat) h4
  by_cases hn : m.toNat * z = 0
  · simp only [hn, if_true] at hzz
    simp [Instr.makeSlice, run_und hu, asInt, asIntOf, hti, hw1, hw2, a1, a2', a3, a4, run_size hz, hn, newRow]
    exact congrArg (fun c => w.alloc (.cells c e)) (by simpa using hzz)
  · simp only [hn, if_false] at hzz
    simp [Instr.makeSlice, run_und hu, asInt, asIntOf, hti, hw1, hw2, a1, a2', a3, a4, run_size hz, hn, hzr, newRow]
    exact congrArg (fun c => w.alloc (.cells c e)) (by simpa using hzz)
theorem buildSlice_ok {t e : TypeId} {len z : Nat} {v : Value} {ps : Array (Nat × Value)} {cs : Array Value} (hu : P.underlying t = some (.slice e)) (hz : szQ P e = some z) (hv : zeroQ P e = some v) (hb : ¬ 2 ^ 24 < len * z) (hs : v.cells.size = z)
    (hf : Instr.fill (fun i => some (i * z, z)) (zerosL v.cells.toList len).toArray ps.toList = some cs) :
    (Instr.buildSlice t len ps).run P w = .ok (.slice (some ⟨w.heap.size, 0, none⟩) len len) (w.alloc (.cells cs e)) := by
  have hzr : ∀ w, (zeroValue e).run P w = .ok v w := fun w => (run_zero hv).1
  have hzz := zeros_run (zs := v.cells) (n := z) (len := len) hs
  rw [← hzz] at hf
  by_cases hn : len * z = 0
  · simp only [hn, if_true] at hf
    simp at hf
    simp only [Instr.buildSlice, Sem.run_bind, run_und hu, Result.andThen_ok, run_size hz, Sem.run_ite, hn, if_true, Sem.run_pure]
    simp [hf, newRow]
  · simp only [hn, if_false] at hf
    simp only [Instr.buildSlice, Sem.run_bind, run_und hu, Result.andThen_ok, run_size hz, Sem.run_ite, hb, hn, if_false, Sem.run_pure, hzr]
    simp [hf, newRow]
end all
end Go.Proofs.YtphfjhpgcdmonaaGreatDoor.Exe
namespace Go.Proofs.YtphfjhpgcdmonaaGreatDoor.Exe
open Go Go.RowKit
section all
variable {E : Env} {P : Program} {B : Nat → Prop} {w0 w : World} {h : Hp} {η : Operand → Value} {p : Operand → Bool} {a : Act}
theorem run_stringToBytes {e : TypeId} {s : ByteArray} : ∃ c, s.size ≤ c ∧ (Conv.stringToBytes e s).run P w = .ok (.slice (some ⟨w.heap.size, 0, none⟩) s.size c) (w.drew.alloc (.cells ((s.data.map fun b : UInt8 => Value.int .u8 b.toNat) ++ Array.replicate (c - s.size) (Value.int .u8 0)) e (c, c + 1))) := by
  refine ⟨Question.cut (.appendCap s.size 0 e) (w.tape w.drawn (.appendCap s.size 0 e)), by simp [Question.cut], ?_⟩
  have hle : s.size ≤ Question.cut (.appendCap s.size 0 e) (w.tape w.drawn (.appendCap s.size 0 e)) := by simp [Question.cut]
  have hq : (choose (.appendCap s.size 0 e)).run P w = .ok (Question.cut (.appendCap s.size 0 e) (w.tape w.drawn (.appendCap s.size 0 e))) w.drew := by
    rw [run_choose]; rfl
  generalize Question.cut (.appendCap s.size 0 e) (w.tape w.drawn (.appendCap s.size 0 e)) = c at hq hle ⊢
  have hsz : ((s.data.map fun b : UInt8 => Value.int .u8 b.toNat) ++ Array.replicate (c - s.size) (Value.int .u8 0)).size = c := by
    have : s.data.size = s.size := rfl
    simp [this]
    omega
  obtain ⟨arr, harr⟩ : ∃ arr, arr = (s.data.map fun b : UInt8 => Value.int .u8 b.toNat) ++ Array.replicate (c - s.size) (Value.int .u8 0) := ⟨_, rfl⟩
  rw [← harr] at hsz ⊢
  have hnew : (newRow e arr).run P w.drew = .ok ⟨w.heap.size, 0, none⟩ (w.drew.alloc (.cells arr e)) := rfl
  have hmark : (markStringish ⟨w.heap.size, 0, none⟩).run P (w.drew.alloc (.cells arr e)) = .ok () (w.drew.alloc (.cells arr e (c, c + 1))) := by
    have hsh : (w.drew.alloc (.cells arr e)).shape? w.heap.size = some (e, c) := by
      have h1 : (w.drew.alloc (.cells arr e)).heap[w.heap.size]? = some (.cells arr e (0, 0)) := World.alloc_heap_new w.drew _
      unfold World.shape?
      rw [h1]
      simp [hsz]
    simp only [markStringish, Sem.run_bind, run_shape, Result.andThen_ok, hsh, run_freeze]
    congr 1
    unfold World.freeze World.alloc
    simp only [Nat.one_ne_zero, if_false]
    congr 1
    apply Array.ext_getElem?
    intro k
    rw [Array.getElem?_modify, Array.getElem?_push, Array.getElem?_push]
    have hd : w.drew.heap = w.heap := rfl
    rw [hd]
    by_cases hk : k = w.heap.size
    · subst hk; simp
    · have hk' : ¬ w.heap.size = k := fun e => hk e.symm
      simp [hk, hk']
  simp only [Conv.stringToBytes, Sem.run_bind, hq, Result.andThen_ok, ← harr, hnew, hmark, Sem.run_pure]
theorem opL_ok (W : WR E P B w0 w h) (T : RelE p E η a) {o : Oper} {v : Value} {h' : Hp} (hx : o.op.operands.toList.all p = true) (hq : opL P h η o.op = some (v, h')) :
    ∃ E' x w', Grow E h E' h' ∧ Rel E' v x ∧ WR E' P B w0 w' h' ∧ ((execOp a.eval o).run P w = .ok (.value x) w' ∨ ((execOp a.eval o).run P w = .ok .skip w' ∧ x = undef)) := by
  obtain ⟨dst, op, type, pos, after, guard⟩ := o
  dsimp only at hx hq
  have lift : ∀ (s : Sem Value) (x : Value) (w' : World), s.run P w = .ok x w' → (do pure (.value (← s)) : Sem Next).run P w = .ok (.value x) w' := fun s x w' hs => by simp [hs]
  have liftU : ∀ (s : Sem Unit) (w' : World), s.run P w = .ok () w' → (do s; pure .skip : Sem Next).run P w = .ok .skip w' := fun s w' hs => by simp [hs]
  cases op with
  | alloc e =>
    simp only [opL] at hq
    cases hz : zeroQ P e with
    | none => simp [hz] at hq
    | some z =>
      obtain ⟨z1, z2⟩ := run_zero (w := w) hz
      cases ha : h.alloc (Blk.of z.cells.toList e false) with
      | none => simp [hz, ha] at hq
      | some p =>
        obtain ⟨i, hp⟩ := p
        simp only [hz, Option.bind_some, ha, Option.map_some, Option.some.injEq, Prod.mk.injEq] at hq
        obtain ⟨rfl, rfl⟩ := hq
        obtain ⟨E', e1, e2, e3⟩ := alloc_row W ha (RelL.refl_cells z2)
        refine ⟨E', _, _, e1, .ptr i _ 0 e2, e3, .inl (lift _ _ _ ?_)⟩
        simp [Instr.alloc, z1, newVar, newRow]
  | box e x =>
    simp only [Op.operands, List.all_cons, List.all_nil, Bool.and_true] at hx
    simp only [opL] at hq
    cases ha : h.alloc (Blk.of (η x).cells.toList e false) with
    | none => simp [ha] at hq
    | some p =>
      obtain ⟨i, hp⟩ := p
      simp only [ha, Option.map_some, Option.some.injEq, Prod.mk.injEq] at hq
      obtain ⟨rfl, rfl⟩ := hq
      obtain ⟨E', e1, e2, e3⟩ := alloc_row W ha (ev_rel T hx).cells
      exact ⟨E', _, _, e1, .ptr i _ 0 e2, e3, .inl (lift _ _ _ rfl)⟩
  | buildSlice t len parts =>
    have hx' : (parts.toList.map (·.2)).all p = true := by simpa [Op.operands] using hx
    have hv := evs_rel T hx'
    simp only [opL] at hq
    split at hq
    · rename_i e hu
      cases hS : szQ P e with
      | none => simp [hS] at hq
      | some n =>
      cases hz : zeroQ P e with
      | none => simp [hS, hz] at hq
      | some z =>
      simp only [hS, hz, Option.bind_some] at hq
      split at hq
      · cases hq
      · rename_i hc
        simp only [Bool.or_eq_true, decide_eq_true_eq, not_or] at hc
        have hzs : z.cells.size = n := by simpa using hc.1.2
        obtain ⟨z1, z2⟩ := run_zero (w := w) hz
        cases hf : Instr.fill (fun i => some (i * n, n)) (zerosL z.cells.toList len).toArray (parts.toList.map fun (i, x) => (i, η x)) with
        | none => simp [hf] at hq
        | some cs =>
        cases ha : h.alloc (Blk.of cs.toList e false) with
        | none => simp [hf, ha] at hq
        | some p =>
          obtain ⟨i, hp⟩ := p
          simp only [hf, Option.bind_some, ha, Option.map_some, Option.some.injEq, Prod.mk.injEq] at hq
          obtain ⟨rfl, rfl⟩ := hq
          obtain ⟨cs', k1, k2⟩ := fill_ok (E := E) (ps' := parts.toList.map fun (i, x) => (i, a.eval x)) (cs' := (zerosL z.cells.toList len).toArray) (by simp [Function.comp_def]) (by simpa [Function.comp_def] using hv) (by simpa using (RelL.refl_cells z2).zeros len) hf
          obtain ⟨E', e1, e2, e3⟩ := alloc_row W ha k2
          refine ⟨E', _, _, e1, .slice i _ 0 len len len e2 (Nat.le_refl _) (fun _ => rfl) (fun hg => ?_), e3, .inl (lift _ _ _ (buildSlice_ok hu hS hz hc.1.1 hzs (by simpa using k1)))⟩
          have h1 : len ≤ 2 ^ 24 := Nat.le_of_not_lt hc.2
          have h2 : (2 : Nat) ^ 24 < capG := by decide
          omega
    · cases hq
  | store t x y =>
    simp only [Op.operands, List.all_cons, List.all_nil, Bool.and_true, Bool.and_eq_true] at hx
    simp only [opL] at hq
    cases hs : storeL P h t (η x) (η y) with
    | none => simp [hs] at hq
    | some hp =>
      simp only [hs, Option.map_some, Option.some.injEq, Prod.mk.injEq] at hq
      obtain ⟨rfl, rfl⟩ := hq
      obtain ⟨w', k1, k2⟩ := opStore_ok W hs (ev_rel T hx.1) (ev_rel T hx.2)
      exact ⟨E, _, w', Grow.same (storeL_next hs), Rel.undef, k2, .inr ⟨liftU _ _ k1, rfl⟩⟩
  | mapUpdate t m k x =>
    simp only [Op.operands, List.all_cons, List.all_nil, Bool.and_true, Bool.and_eq_true] at hx
    simp only [opL] at hq
    cases hs : updateL P h t (η m) (η k) (η x) with
    | none => simp [hs] at hq
    | some hp =>
      simp only [hs, Option.map_some, Option.some.injEq, Prod.mk.injEq] at hq
      obtain ⟨rfl, rfl⟩ := hq
      obtain ⟨w', k1, k2⟩ := opUpdate_ok W hs (ev_rel T hx.1) (ev_rel T hx.2.1) (ev_rel T hx.2.2)
      exact ⟨E, _, w', Grow.same (updateL_next hs), Rel.undef, k2, .inr ⟨liftU _ _ k1, rfl⟩⟩
  | insert t m k x =>
    simp only [Op.operands, List.all_cons, List.all_nil, Bool.and_true, Bool.and_eq_true] at hx
    simp only [opL] at hq
    cases hs : updateL P h t (η m) (η k) (η x) with
    | none => simp [hs] at hq
    | some hp =>
      simp only [hs, Option.map_some, Option.some.injEq, Prod.mk.injEq] at hq
      obtain ⟨rfl, rfl⟩ := hq
      obtain ⟨w', k1, k2⟩ := opUpdate_ok W hs (ev_rel T hx.1) (ev_rel T hx.2.1) (ev_rel T hx.2.2)
      exact ⟨E, _, w', Grow.same (updateL_next hs), Rel.undef, k2, .inr ⟨liftU _ _ k1, rfl⟩⟩
  | makeMap t r =>
    cases r with
    | some r => cases hq
    | none =>
      simp only [opL] at hq
      cases ha : h.allocOb (.map [] 0) with
      | none => simp [ha] at hq
      | some p =>
        obtain ⟨i, hp⟩ := p
        simp only [ha, Option.map_some, Option.some.injEq, Prod.mk.injEq] at hq
        obtain ⟨rfl, rfl⟩ := hq
        obtain ⟨k1, k2, k3⟩ := W.alloc (o := .map #[] 0) (c := 0) ha ⟨#[], rfl, rfl, fun k e e' h1 => by simp at h1⟩
        refine ⟨_, .map (some w.heap.size), _, Grow.upd (allocOb_some ha).1 (allocOb_next ha) (by rw [(allocOb_some ha).1]; exact W.fresh _ (Nat.le_refl _)), .map i _ k3, k1, .inl (lift _ _ _ ?_)⟩
        simp [Instr.makeMap]
  | makeSlice t l c =>
    simp only [Op.operands, List.all_cons, List.all_nil, Bool.and_true, Bool.and_eq_true] at hx
    simp only [opL] at hq
    split at hq
    · rename_i e k n k' m hu hn hm
      have h1 := ev_rel T hx.1
      have h2 := ev_rel T hx.2
      rw [hn] at h1
      rw [hm] at h2
      have h1 := h1.of_int
      have h2 := h2.of_int
      cases hS : szQ P e with
      | none => simp [hS] at hq
      | some z =>
      cases hz : zeroQ P e with
      | none => simp [hS, hz] at hq
      | some v0 =>
      simp only [hS, hz, Option.bind_some] at hq
      obtain ⟨z1, z2⟩ := run_zero (w := w) hz
      split at hq
      · rename_i hc
        cases ha : h.alloc (Blk.of (zerosL v0.cells.toList m.toNat) e false) with
        | none => simp [ha] at hq
        | some p =>
          obtain ⟨i, hp⟩ := p
          simp only [ha, Option.map_some, Option.some.injEq, Prod.mk.injEq] at hq
          obtain ⟨rfl, rfl⟩ := hq
          obtain ⟨E', e1, e2, e3⟩ := alloc_row W (xs := (zerosL v0.cells.toList m.toNat).toArray) ha (by simpa using (RelL.refl_cells z2).zeros m.toNat)
          have hmG : m.toNat < capG := by
            have : m.toNat ≤ 2 ^ 20 := by omega
            have : (2 : Nat) ^ 20 < capG := by decide
            omega
          refine ⟨E', _, _, e1, .slice i _ 0 n.toNat m.toNat m.toNat e2 (by omega) (fun _ => rfl) (fun hg => by omega), e3, .inl (lift _ _ _ ?_)⟩
          rw [h1, h2]
          exact makeSlice_ok hu hS hz hc
      · cases hq
    · cases hq
  | convert src dst x =>
    simp only [Op.operands, List.all_cons, List.all_nil, Bool.and_true] at hx
    simp only [opL] at hq
    split at hq
    · rename_i e s hs hd he
      have hr := ev_rel T hx
      rw [he] at hr
      have hr := hr.of_string
      split at hq
      · rename_i hu8
        split at hq
        · rename_i hc
          cases ha : h.alloc (Blk.of (s.data.toList.map fun b => .int .u8 b.toNat) e true) with
          | none => simp [ha] at hq
          | some p =>
            obtain ⟨i, hp⟩ := p
            simp only [ha, Option.map_some, Option.some.injEq, Prod.mk.injEq] at hq
            obtain ⟨rfl, rfl⟩ := hq
            obtain ⟨info, hinfo, hisz⟩ : ∃ i, P.info? e = some i ∧ i.size = 1 := by
              have hz := hc.2
              unfold szQ at hz
              cases hi : P.info? e with
              | none => simp [hi] at hz
              | some i => exact ⟨i, rfl, by simpa [hi] using hz⟩
            obtain ⟨c, c1, c2⟩ := run_stringToBytes (P := P) (w := w) (e := e) (s := s)
            have hds : s.data.size = s.size := rfl
            obtain ⟨E', e1, e2, e3, e4⟩ := alloc_grow W.drew (xs := (s.data.map fun b : UInt8 => Value.int .u8 b.toNat) ++ Array.replicate (c - s.size) (Value.int .u8 0)) (fr := (c, c + 1)) (c := c) hinfo ha (Blk.of_cells _ _ _) rfl rfl (by
              have : ((s.data.map fun b : UInt8 => Value.int .u8 b.toNat) ++ Array.replicate (c - s.size) (Value.int .u8 0)).toList.take (s.data.toList.map fun b : UInt8 => Value.int .u8 b.toNat).length = s.data.toList.map fun b : UInt8 => Value.int .u8 b.toNat := by
                rw [Array.toList_append, Array.toList_map, List.take_left]
              show RelL E (s.data.toList.map fun b : UInt8 => Value.int .u8 b.toNat) (((s.data.map fun b : UInt8 => Value.int .u8 b.toNat) ++ Array.replicate (c - s.size) (Value.int .u8 0)).toList.take (s.data.toList.map fun b : UInt8 => Value.int .u8 b.toNat).length)
              rw [this]
              exact RelL.refl_leaf (List.all_eq_true.2 fun x hx => by obtain ⟨b, _, rfl⟩ := List.mem_map.1 hx; rfl)) (by simp [hds, hisz]; omega) (fun k hk => by simp [hds] at hk; omega)
            refine ⟨E', _, _, e1, .slice i _ 0 s.size capG c e2 c1 (fun hc => by simp at hc) (fun _ => ⟨rfl, e3.symm⟩), e4, .inl (lift _ _ _ ?_)⟩
            rw [hr]
            have : (convert src dst (.string s)).run P w = (Conv.stringToBytes e s).run P w := by
              simp [convert, run_und hs, run_und hd, run_und hu8]
            rw [this]
            exact c2
        · cases hq
      · cases hq
    · cases hq
  | call c =>
    obtain ⟨callee, args, argTypes⟩ := c
    cases callee with
    | value f => cases hq
    | invoke f m => cases hq
    | builtin b =>
      have hargs : args.toList.all p = true := by simpa [Op.operands, Call.operands] using hx
      have run : ∀ (s : Sem Value) (x : Value) (w' : World), (∀ (cs : Array Bool), builtin b argTypes type cs (args.map a.eval) = (do pure (.value (← s)))) → s.run P w = .ok x w' → (execOp a.eval ⟨dst, .call ⟨.builtin b, args, argTypes⟩, type, pos, after, guard⟩).run P w = .ok (.value x) w' := by
        intro s x w' h1 h2
        simp [execOp, resolve, invoke, h1, h2]
      cases b with
      | append =>
        simp only [opL] at hq
        split at hq
        · rename_i s x ts tx ha ht
          rw [ha] at hargs
          simp only [List.all_cons, List.all_nil, Bool.and_true, Bool.and_eq_true] at hargs
          have hr1 := ev_rel T hargs.1
          have hr2 := ev_rel T hargs.2
          have ha' : args.map a.eval = #[a.eval s, a.eval x] := by apply Array.toList_inj.1; simp [ha]
          have ht' : argTypes = #[ts, tx] := by apply Array.toList_inj.1; simp [ht]
          have fin : ∀ E' y w', Grow E h E' h' → Rel E' v y → WR E' P B w0 w' h' → (Builtin.append_ #[ts, tx] type #[a.eval s, a.eval x]).run P w = .ok y w' → ∃ E' x w', Grow E h E' h' ∧ Rel E' v x ∧ WR E' P B w0 w' h' ∧ ((execOp a.eval ⟨dst, .call ⟨.builtin .append, args, argTypes⟩, type, pos, after, guard⟩).run P w = .ok (.value x) w' ∨ ((execOp a.eval ⟨dst, .call ⟨.builtin .append, args, argTypes⟩, type, pos, after, guard⟩).run P w = .ok .skip w' ∧ x = undef)) := by
            intro E' y w' k1 k2 k3 k4
            refine ⟨E', y, w', k1, k2, k3, .inl (run _ _ _ (fun _ => rfl) ?_)⟩
            rw [ha', ht']
            exact k4
          have listy : ∀ e base len cap d, P.underlying ts = some (.slice e) → P.underlying tx = some d → (∀ k, d ≠ .int k) → η s = .slice base len cap →
              ((szQ P e).bind fun z => (lenQ (η x)).bind fun n => (firstQ h z n (η x)).bind fun new => appendL P h e base len cap new n) = some (v, h') →
              ∃ E' x w', Grow E h E' h' ∧ Rel E' v x ∧ WR E' P B w0 w' h' ∧ ((execOp a.eval ⟨dst, .call ⟨.builtin .append, args, argTypes⟩, type, pos, after, guard⟩).run P w = .ok (.value x) w' ∨ ((execOp a.eval ⟨dst, .call ⟨.builtin .append, args, argTypes⟩, type, pos, after, guard⟩).run P w = .ok .skip w' ∧ x = undef)) := by
            intro e base len cap d hu1 hu2 hd he hq
            cases hS : szQ P e with
            | none => simp [hS] at hq
            | some z =>
            cases hL : lenQ (η x) with
            | none => simp [hS, hL] at hq
            | some n =>
            cases hF : firstQ h z n (η x) with
            | none => simp [hS, hL, hF] at hq
            | some new =>
            simp only [hS, hL, hF, Option.bind_some] at hq
            rw [he] at hr1
            obtain ⟨E', y, w', k1, k2, k3, k4⟩ := appendL_ok (ty := type) W (app_list hu1 hu2 hd hS (lenQ_ok hL hr2)) hS hq hr1 (fun w1 W1 => by
              obtain ⟨xs, q1, q2⟩ := firstQ_ok W1 hF hr2
              exact ⟨xs.toArray, by simpa using q1, q2⟩)
            exact fin E' y w' k1 k2 k3 k4
          split at hq
          · rename_i e d base len cap hu1 hu2 he
            exact listy e base len cap _ hu1 hu2 (fun k e => by cases e) he hq
          · rename_i e j base len cap hu1 hu2 he
            split at hq
            · rename_i k m hm
              split at hq
              · rename_i hc
                cases hzv : zeroQ P e with
                | none => simp [hzv] at hq
                | some z0 =>
                simp only [hzv, Option.bind_some] at hq
                rw [he] at hr1
                rw [hm] at hr2
                have hr2 := hr2.of_int
                obtain ⟨z1, z2⟩ := run_zero (w := w) hzv
                have hq0 := hq
                unfold appendL at hq0
                cases hS : szQ P e with
                | none => simp [hS] at hq0
                | some z =>
                cases hbs : bytesQ P e with
                | none => simp [hS, hbs] at hq0
                | some bs =>
                simp only [hS, hbs, hzv, Option.bind_some] at hq0
                split at hq0
                · cases hq0
                · rename_i hcc
                  simp only [Bool.or_eq_true, decide_eq_true_eq, Bool.not_eq_true', not_or, Bool.not_eq_false, Nat.not_lt] at hcc
                  have hbb : bs ≤ 2 ^ 20 := hcc.2
                  have hzs : z0.cells.size = z := by simpa using hcc.1.1.1.1.1.2
                  obtain ⟨E', y, w', k1, k2, k3, k4⟩ := appendL_ok (ty := type) W (app_zeros (k := k) hu1 hu2 hS hc hbs hbb hzv) hS hq hr1 (fun w1 _ => by
                    refine ⟨_, ?_, rfl⟩
                    have hz1 := zerosL_eq (zs := z0.cells) (n := z) hzs m.toNat
                    by_cases h0 : m.toNat * z = 0
                    · rw [if_pos h0]
                      rw [← hz1, h0]
                      trivial
                    · rw [if_neg h0]
                      have : (Builtin.zeroCells z0.cells m.toNat).toList = zerosL z0.cells.toList m.toNat := by
                        rw [← hz1]
                        simp [Builtin.zeroCells, hzs]
                      rw [this]
                      exact (RelL.refl_cells z2).zeros _)
                  exact fin E' y w' k1 k2 k3 (by rw [hr2]; exact k4)
              · cases hq
            · cases hq
          · rename_i e base len cap hu1 hu2 he
            exact listy e base len cap _ hu1 hu2 (fun k e => by cases e) he hq
          · cases hq
        · cases hq
      | copy =>
        simp only [opL] at hq
        split at hq
        · rename_i d s t ha ht
          rw [ha] at hargs
          simp only [List.all_cons, List.all_nil, Bool.and_true, Bool.and_eq_true] at hargs
          have hr1 := ev_rel T hargs.1
          have hr2 := ev_rel T hargs.2
          have ha' : args.map a.eval = #[a.eval d, a.eval s] := by apply Array.toList_inj.1; simp [ha]
          split at hq
          · rename_i e base len cap hu he
            cases hS : szQ P e with
            | none => simp [hS] at hq
            | some z =>
            cases hL : lenQ (η s) with
            | none => simp [hS, hL] at hq
            | some m =>
            simp only [hS, hL, Option.bind_some] at hq
            cases hF : firstQ h z (min m len) (η s) with
            | none => simp [hF] at hq
            | some cs =>
            simp only [hF, Option.bind_some] at hq
            obtain ⟨xs, q1, q2⟩ := firstQ_ok W hF hr2
            have hmin : Nat.min m len = min m len := rfl
            rw [he] at hr1
            split at hq
            · cases hq
              obtain ⟨a', cap', h1, h2, _⟩ := hr1.to_slice'
              obtain ⟨rfl, _⟩ := h2 rfl
              refine ⟨E, _, w, Grow.refl _ _, .leaf _ rfl, W, .inl (run _ _ _ (fun _ => rfl) ?_)⟩
              simp [Builtin.copy_, ht, ha', run_und hu, h1, lenQ_ok hL hr2, run_size hS, hmin, q2]
            · rename_i i off
              obtain ⟨b, cap', hρ, h1, _⟩ := hr1.to_slice
              cases hst : storeCellsL h i off cs with
              | none => simp [hst] at hq
              | some hp =>
                simp only [hst, Option.map_some, Option.some.injEq, Prod.mk.injEq] at hq
                obtain ⟨rfl, rfl⟩ := hq
                obtain ⟨w', s1, s2⟩ := run_stores W hst q1 hρ
                refine ⟨E, _, w', Grow.same (storeCellsL_next hst), .leaf _ rfl, s2, .inl (run _ _ _ (fun _ => rfl) ?_)⟩
                simp [Builtin.copy_, ht, ha', run_und hu, h1, lenQ_ok hL hr2, run_size hS, hmin, q2, s1]
            · cases hq
          · cases hq
        · cases hq
      | unsafeString =>
        simp only [opL] at hq
        split at hq
        · rename_i x y pt it ha ht
          rw [ha] at hargs
          simp only [List.all_cons, List.all_nil, Bool.and_true, Bool.and_eq_true] at hargs
          have hr1 := ev_rel T hargs.1
          have hr2 := ev_rel T hargs.2
          have ha' : args.map a.eval = #[a.eval x, a.eval y] := by apply Array.toList_inj.1; simp [ha]
          have ht' : argTypes = #[pt, it] := by apply Array.toList_inj.1; simp [ht]
          split at hq
          · rename_i e i n hu he1 he2
            rw [he1] at hr1
            rw [he2] at hr2
            obtain ⟨b, hρ, h1⟩ := hr1.to_ptr
            have h2 := hr2.of_leaf rfl
            split at hq
            · rename_i blk hb
              split at hq
              · rename_i hc
                obtain ⟨hc1, hc2, hc3, hc4⟩ := hc
                cases hcs : cellsAt h i 0 n with
                | none => simp [hcs] at hq
                | some cs =>
                cases hbs : bytesX cs with
                | none => simp [hcs, hbs] at hq
                | some bs =>
                  simp only [hcs, hbs, Option.bind_some, Option.map_some, Option.some.injEq, Prod.mk.injEq] at hq
                  obtain ⟨rfl, rfl⟩ := hq
                  obtain ⟨cur, fr, r2, r3, _, r5, _, _⟩ := W.row hb hρ
                  obtain ⟨blk', hb', hle, hcs', hlen⟩ := cellsAt_eq hcs
                  obtain rfl : blk = blk' := Option.some.inj (hb.symm.trans hb')
                  have hbytes := bytesX_cells hbs
                  have hbl : bs.length = n := by
                    have := congrArg List.length hbytes
                    rw [hlen] at this
                    simpa using this.symm
                  have hsz : blk.cells.length ≤ cur.size := by
                    have := r5.length
                    rw [List.length_take] at this
                    simp at this
                    omega
                  have hcell : ∀ (j : Nat) (x : UInt8), bs[j]? = some x → w.cell? ((⟨b, 0, none⟩ : Addr).add j) = some (.int .u8 x.toNat) := by
                    intro j x hj
                    rw [add_none, Nat.zero_add, cell_of r3]
                    have hjn : j < n := by rw [← hbl]; exact (List.getElem?_eq_some_iff.1 hj).1
                    have h3 : blk.cells[j]? = some (.int .u8 x.toNat) := by
                      have h4 : cs[j]? = some (.int .u8 x.toNat) := by rw [hbytes]; simp [hj]
                      rw [hcs', List.drop_zero, List.getElem?_take, if_pos hjn] at h4
                      exact h4
                    obtain ⟨y, hy, hr⟩ := r5.get h3
                    rw [List.getElem?_take] at hy
                    split at hy
                    · rw [hr.of_leaf rfl] at hy
                      simpa using hy
                    · cases hy
                  have hlt : i < roomN := Hp.ob_small (by rw [Hp.get_ob hb]; rfl)
                  refine ⟨E, _, w.freeze ⟨b, 0, none⟩ bs.length, Grow.same rfl, .leaf _ rfl, ?_, .inl (run _ _ _ (fun _ => rfl) ?_)⟩
                  · have Wk := W.kill i hlt
                    refine ⟨Wk.below.freeze r2 _, Wk.base, fun j oj c hj hcj => ?_, Wk.inj, Wk.fresh⟩
                    obtain ⟨o, k1, k2, k3⟩ := Wk.live j oj c hj hcj
                    refine ⟨o, k1, ?_, k3⟩
                    have hne : c ≠ b := fun e => by
                      subst e
                      by_cases hji : j = i
                      · rw [hji, Hp.ob_put_same hlt] at hj; cases hj
                      · rw [Hp.ob_put_other hlt hji] at hj
                        exact hji (W.inj j i c (by rw [hj]; rfl) (by rw [Hp.get_ob hb]; rfl) hcj hρ)
                    unfold World.freeze
                    split
                    · exact k2
                    · show (w.heap.modify b _)[c]? = some o
                      rw [Array.getElem?_modify]
                      have : ¬ b = c := fun e => hne e.symm
                      simp [this, k2]
                  · rw [ha', ht', h1, h2]
                    have hn : (Int.ofNat n) = ((bs.length : Nat) : Int) := by rw [hbl]; rfl
                    rw [hn]
                    exact Lib.run_unsafeString_row w pt it type e hu hc2 b cur.size (by rw [← hc1]; exact shape_cells r3) bs (by intro e0; rw [e0] at hbl; simp at hbl; omega) (by omega) (by omega) hcell
              · cases hq
            · cases hq
          · cases hq
        · cases hq
      | clear =>
        simp only [opL] at hq
        split at hq
        · rename_i s t ha ht
          rw [ha] at hargs
          have hr := ev_rel T (show p s = true by simpa using hargs)
          have ha' : args.map a.eval = #[a.eval s] := by apply Array.toList_inj.1; simp [ha]
          split at hq
          · rename_i e len cap hu he
            cases hq
            rw [he] at hr
            obtain ⟨a', cap', h1, h2, _⟩ := hr.to_slice'
            obtain ⟨rfl, _⟩ := h2 rfl
            refine ⟨E, _, w, Grow.refl _ _, Rel.undef, W, .inl (run _ _ _ (fun _ => rfl) ?_)⟩
            simp [Builtin.clear_, ht, ha', run_und hu, h1]
            rfl
          · rename_i e i off n cap hu he
            rw [he] at hr
            obtain ⟨b, cap', hρ, h1, _⟩ := hr.to_slice
            cases hz : zeroQ P e with
            | none => simp [hz] at hq
            | some z0 =>
            obtain ⟨z1, z2⟩ := run_zero (w := w) hz
            cases hst : storeCellsL h i off (zerosL z0.cells.toList n) with
            | none => simp [hz, hst] at hq
            | some hp =>
              simp only [hz, Option.bind_some, hst, Option.map_some, Option.some.injEq, Prod.mk.injEq] at hq
              obtain ⟨rfl, rfl⟩ := hq
              have hzc : (Builtin.zeroCells z0.cells n).toList = zerosL z0.cells.toList n := by
                rw [← zerosL_eq (zs := z0.cells) rfl n]
                simp [Builtin.zeroCells]
              obtain ⟨w', s1, s2⟩ := run_stores W hst ((RelL.refl_cells z2).zeros n) hρ
              refine ⟨E, _, w', Grow.same (storeCellsL_next hst), Rel.undef, s2, .inl (run _ _ _ (fun _ => rfl) ?_)⟩
              cases n with
              | zero =>
                simp only [zerosL, storeCells, Sem.run_pure, Result.ok.injEq, true_and] at s1
                subst s1
                simp [Builtin.clear_, ht, ha', run_und hu, h1]
                rfl
              | succ n =>
                simp [Builtin.clear_, ht, ha', run_und hu, h1, z1, hzc, s1]
                rfl
          · cases hq
        · cases hq
      | _ => cases hq
  | _ => cases hq
end all
end Go.Proofs.YtphfjhpgcdmonaaGreatDoor.Exe
namespace Go.Proofs.YtphfjhpgcdmonaaGreatDoor.Exe
open Go Go.RowKit

/-- What lies in a tree, or else this. -/
noncomputable def T4.getD {α : Type} (d0 : α) (l : List Dg) : T4 α → α := List.rec (motive := fun _ => T4 α → α)
  (fun t => T4.rec (motive := fun _ => α) d0 (fun v => v) (fun _ _ _ _ _ _ _ _ => d0) t)
  (fun d _ ih t => T4.rec (motive := fun _ => α) d0 (fun _ => d0) (fun p q r s _ _ _ _ => Dg.rec (motive := fun _ => α) (ih p) (ih q) (ih r) (ih s) d) t) l
/-- What an operand stands for. -/
inductive KV where
  | slot (p : List Dg)
  | val (v : W)
noncomputable def kv (L n : Nat) : Operand → KV
  | .tmp t => bif t.blt L then .slot (path n t) else .val (.o undef)
  | .const v => .val (toW v)
  | .global g => .val (.p g 0)
  | .func f => .val (.o (.func (.func f) #[] #[]))
noncomputable def KV.at (e : T4 W) (x : KV) : W := KV.rec (motive := fun _ => W) (fun p => T4.getD (.o undef) p e) (fun v => v) x
noncomputable def evK (L n : Nat) (e : T4 W) (x : Operand) : Value := ((kv L n x).at e).val
/-- Where a result goes. -/
inductive KD where
  | no
  | slot (p : List Dg)
noncomputable def kd (L n : Nat) : Option Tmp → KD
  | some t => bif t.blt L then .slot (path n t) else .no
  | none => .no
noncomputable def KD.put (e : T4 W) (v : W) (d : KD) : T4 W := KD.rec (motive := fun _ => T4 W) e (fun p => T4.put (.leaf v) p e) d

/-- A chain of operations, read. -/
inductive KC where
  | done
  | bad
  | mv (x : KV) (d : KD) (k : KC)
  | arU (f : Nat → Nat → Nat) (x y : KV) (d : KD) (k : KC)
  | shU (f : Nat → Nat → Nat) (x y : KV) (d : KD) (k : KC)
  | divU (f : Nat → Nat → Nat) (x y : KV) (d : KD) (k : KC)
  | arI (f : Nat → Nat → Nat) (x y : KV) (o : Op) (d : KD) (k : KC)
  | cmp (f : Nat → Nat → Bool) (x y : KV) (o : Op) (d : KD) (k : KC)
  | fa (off : Nat) (x : KV) (d : KD) (k : KC)
  | ia (len z : Nat) (x i : KV) (d : KD) (k : KC)
  | ld (x : KV) (d : KD) (k : KC)
  | st (x v : KV) (d : KD) (k : KC)
  | quiet (o : Op) (d : KD) (k : KC)
  | loud (o : Op) (d : KD) (k : KC)
  | call (f : KV) (xs : List KV) (d : KD) (k : KC)
  | grd (x : KV) (want : Bool) (d : KD) (k l : KC)
  | ext (x : KV) (i : Nat) (d : KD) (k : KC)
  | nilc (x : KV) (o : Op) (d : KD) (k : KC)
  | ldn (z : Nat) (x : KV) (d : KD) (k : KC)
  | stn (z : Nat) (x v : KV) (d : KD) (k : KC)
  | alc (b : Blk) (d : KD) (k : KC)
  | box (t : TypeId) (x : KV) (d : KD) (k : KC)
  | chkQ (o : Op) (x : KV) (k : KC)
  | chkM (o : Op) (x : KV) (k : KC)
  | inv (r : KV) (name : String) (xs : List KV) (d : KD) (k : KC)

noncomputable def binK (P : Program) (L n : Nat) (o : Op) (op : BinOp) (t : TypeId) (x y : Operand) (d : KD) (k : KC) : KC := match P.underlying t with
  | some (.int .u64) => match op with
    | .add => .arU (fun a b => Nat.mod (Nat.add a b) 18446744073709551616) (kv L n x) (kv L n y) d k
    | .sub => .arU (fun a b => Nat.mod (Nat.sub (Nat.add a (Nat.mul 18446744073709551616 (Nat.succ (Nat.div b 18446744073709551616)))) b) 18446744073709551616) (kv L n x) (kv L n y) d k
    | .mul => .arU (fun a b => Nat.mod (Nat.mul a b) 18446744073709551616) (kv L n x) (kv L n y) d k
    | .and => .arU (fun a b => Nat.mod (Nat.land a b) 18446744073709551616) (kv L n x) (kv L n y) d k
    | .or => .arU (fun a b => Nat.mod (Nat.lor a b) 18446744073709551616) (kv L n x) (kv L n y) d k
    | .xor => .arU (fun a b => Nat.mod (Nat.xor a b) 18446744073709551616) (kv L n x) (kv L n y) d k
    | .shl => .shU (fun a b => Nat.mod (Nat.shiftLeft a (Nat.min b 64)) 18446744073709551616) (kv L n x) (kv L n y) d k
    | .shr => .shU (fun a b => Nat.shiftRight a (Nat.min b 64)) (kv L n x) (kv L n y) d k
    | .quo => .divU (fun a b => Nat.mod (Nat.div a b) 18446744073709551616) (kv L n x) (kv L n y) d k
    | .rem => .divU Nat.mod (kv L n x) (kv L n y) d k
    | .eql => .cmp Nat.beq (kv L n x) (kv L n y) o d k
    | .neq => .cmp (fun a b => Bool.rec true false (Nat.beq a b)) (kv L n x) (kv L n y) o d k
    | .lss => .cmp (fun a b => Nat.ble (Nat.succ a) b) (kv L n x) (kv L n y) o d k
    | .leq => .cmp Nat.ble (kv L n x) (kv L n y) o d k
    | .gtr => .cmp (fun a b => Nat.ble (Nat.succ b) a) (kv L n x) (kv L n y) o d k
    | .geq => .cmp (fun a b => Nat.ble b a) (kv L n x) (kv L n y) o d k
    | _ => .quiet o d k
  | some (.int .i64) => match op with
    | .add => .arI Nat.add (kv L n x) (kv L n y) o d k
    | .sub => .arI (fun a b => Bool.rec 18446744073709551616 (Nat.sub a b) (Nat.ble b a)) (kv L n x) (kv L n y) o d k
    | .mul => .arI Nat.mul (kv L n x) (kv L n y) o d k
    | .quo => .arI (fun a b => Bool.rec (Nat.div a b) 18446744073709551616 (Nat.beq b 0)) (kv L n x) (kv L n y) o d k
    | .rem => .arI (fun a b => Bool.rec (Nat.mod a b) 18446744073709551616 (Nat.beq b 0)) (kv L n x) (kv L n y) o d k
    | .eql => .cmp Nat.beq (kv L n x) (kv L n y) o d k
    | .neq => .cmp (fun a b => Bool.rec true false (Nat.beq a b)) (kv L n x) (kv L n y) o d k
    | .lss => .cmp (fun a b => Nat.ble (Nat.succ a) b) (kv L n x) (kv L n y) o d k
    | .leq => .cmp Nat.ble (kv L n x) (kv L n y) o d k
    | .gtr => .cmp (fun a b => Nat.ble (Nat.succ b) a) (kv L n x) (kv L n y) o d k
    | .geq => .cmp (fun a b => Nat.ble b a) (kv L n x) (kv L n y) o d k
    | _ => .quiet o d k
  | _ => .quiet o d k
noncomputable def opK (P : Program) (L n : Nat) (o : Op) (d : KD) (k : KC) : KC := match o with
  | .move x | .assign x => .mv (kv L n x) d k
  | .binOp op t x y _ => binK P L n o op t x y d k
  | .fieldAddr s x f => match P.underlying s with
    | some (.struct fields) => match fields[f]? with
      | some fd => match szQ P fd.type with
        | some (_ + 1) => .fa fd.offset (kv L n x) d k
        | _ => .quiet o d k
      | none => .quiet o d k
    | _ => .quiet o d k
  | .indexAddr t x i => match P.underlying t with
    | some (.array len e) => match szQ P e with
      | some z => .ia len z (kv L n x) (kv L n i) d k
      | none => .quiet o d k
    | _ => .quiet o d k
  | .load t a => match aggQ P t, szQ P t with
    | some false, _ => .ld (kv L n a) d k
    | some true, some z => .ldn z (kv L n a) d k
    | _, _ => .quiet o d k
  | .store t a x => match aggQ P t, szQ P t with
    | some false, some 1 => .st (kv L n a) (kv L n x) d k
    | some true, some (z + 1) => .stn (z + 1) (kv L n a) (kv L n x) d k
    | _, _ => .loud o d k
  | .extract x i => .ext (kv L n x) i d k
  | .nilCheck x => .nilc (kv L n x) o d k
  | .alloc t => match zeroQ P t with
    | some z => .alc (Blk.of z.cells.toList t false) d k
    | none => .bad
  | .box t x => .box t (kv L n x) d k
  | .buildSlice .. | .makeSlice .. | .makeMap .. | .mapUpdate .. | .insert .. => .loud o d k
  | .convert src dst _ => match P.underlying src, P.underlying dst with
    | some .string, some (.slice _) => .loud o d k
    | _, _ => .quiet o d k
  | .call { callee := .builtin .append, .. } | .call { callee := .builtin .copy, .. } | .call { callee := .builtin .clear, .. } | .call { callee := .builtin .unsafeString, .. } => .loud o d k
  | .call { callee := .value f, args, .. } => .call (kv L n f) (args.toList.map (kv L n)) d k
  | .call { callee := .invoke r name, args, .. } => .inv (kv L n r) name (args.toList.map (kv L n)) d k
  | o => .quiet o d k
/-- An operation with its guard. -/
noncomputable def operK (P : Program) (L n : Nat) (ops : List Oper) (o : Oper) (k : KC) : KC := bif o.op.operands.toList.all opdB then match o.guard with
    | none => opK P L n o.op (kd L n o.dst) k
    | some (j, want) => match (ops[j]?).bind (·.dst) with
      | some g => .grd (kv L n (.tmp g)) want (kd L n o.dst) (opK P L n o.op (kd L n o.dst) k) k
      | none => .bad
  else .bad
noncomputable def chainK (P : Program) (L n : Nat) (ops : List Oper) : List Oper → KC
  | [] => .done
  | o :: os => operK P L n ops o (chainK P L n ops os)

/-- What lies in the block that an operation makes, and what it yields, by the block's name. -/
noncomputable def makeQ (P : Program) (η : Operand → Value) (o : Op) : Option (Blk × (Nat → Value)) := match o with
  | .alloc e => (zeroQ P e).map fun z => (Blk.of z.cells.toList e false, fun i => .pointer (some ⟨i, 0, none⟩))
  | .box e x => some (Blk.of (η x).cells.toList e false, fun i => .pointer (some ⟨i, 0, none⟩))
  | .buildSlice t len parts => match P.underlying t with
    | some (.slice e) => (szQ P e).bind fun n => (zeroQ P e).bind fun z => if 2 ^ 24 < len * n || z.cells.size ≠ n || 2 ^ 24 < len then none else
      (Instr.fill (fun i => some (i * n, n)) (zerosL z.cells.toList len).toArray (parts.toList.map fun (i, x) => (i, η x))).map fun cells =>
        (Blk.of cells.toList e false, fun i => .slice (some ⟨i, 0, none⟩) len len)
    | _ => none
  | _ => none
/-- Makers of memory. -/
def makerB : Op → Bool
  | .alloc _ | .box .. | .buildSlice .. => true
  | _ => false
/-- Operations that look at memory. -/
def readB : Op → Bool
  | .load .. | .convert .. | .lookup .. => true
  | _ => false
/-- 0 an operation that changes nothing, 1 a maker of memory, 2 all else. -/
def role (P : Program) (o : Op) : Nat := match o with
  | .alloc _ | .box .. | .buildSlice .. => 1
  | .store .. | .makeSlice .. | .makeMap .. | .mapUpdate .. | .insert .. => 2
  | .convert src dst _ => match P.underlying src, P.underlying dst with
    | some .string, some (.slice _) => 2
    | _, _ => 0
  | .call c => match c.callee with
    | .builtin .append | .builtin .copy | .builtin .clear | .builtin .unsafeString | .value _ | .invoke _ _ => 2
    | _ => 0
  | _ => 0
def nameOf : Value → Option Nat
  | .pointer (some ⟨i, _, none⟩) => some i
  | .slice (some ⟨i, _, none⟩) _ _ => some i
  | _ => none
def nopO : Oper := { dst := none, op := .ready 0, type := 0, pos := "", after := #[], guard := none }
def opAt (ops : List Oper) (i : Nat) : Oper := (ops[i]?).getD nopO
/-- All that must have come up ahead of an operation, as bits. -/
def edgeMask (as : List Nat) (o : Oper) : Nat := o.after.toList.foldl (fun m e => bif Region.binds .any e then m ||| (2 ^ e.on ||| as.getD e.on 0) else m) 0
def ancs : List Oper → List Nat → List Nat
  | [], as => as
  | o :: os, as => ancs os (as ++ [edgeMask as o])
/-- The slots that an operation looks at. -/
def temps (ops : List Oper) (o : Oper) : List Nat := (o.op.operands.toList.filterMap fun x => match x with
  | .tmp t => some t
  | _ => none) ++ (match o.guard with
    | some (g, _) => ((ops[g]?).bind (·.dst)).toList
    | none => [])
def ancOf (as : List Nat) (i : Nat) : Nat := as.getD i 0
/-- The order in which a region is gone through: what changes nothing, and what makes memory, as early as may be. -/
def sortK (P : Program) (ops : List Oper) (as : List Nat) (wm : Nat) : Nat → List Nat → Nat → List Nat
  | 0, _, _ => []
  | f + 1, todo, dw =>
    let is := fun i => role P (opAt ops i).op != 2 && ((ancOf as i &&& wm) &&& dw) == (ancOf as i &&& wm)
    let now := todo.filter is
    let rest := todo.filter fun i => !(is i)
    match rest.find? fun i => role P (opAt ops i).op == 2 with
    | none => now ++ rest
    | some x => now ++ [x] ++ sortK P ops as wm f (rest.filter fun i => i != x) (dw ||| 2 ^ x)
def okIt (P : Program) (ops : List Oper) (as : List Nat) (done : List Nat) (i : Nat) (rest : List Nat) : Bool :=
  let o := opAt ops i
  Nat.blt i ops.length && (done.all fun j => !(Nat.beq j i)) && Nat.beq (ancOf as i) (edgeMask as o) && (o.after.toList.all fun e => !(Region.binds .any e) || Nat.blt e.on i) &&
    (match o.dst with
      | some d => done.all fun j => (opAt ops j).dst != some d
      | none => true) &&
    ((temps ops o).all fun t => (rest.all fun j => (opAt ops j).dst != some t || (ancOf as j).testBit i) && (done.all fun j => (opAt ops j).dst != some t || (ancOf as i).testBit j)) &&
    (done.all fun j => !(Nat.beq (role P (opAt ops j).op) 2) || (ancOf as i).testBit j) &&
    (match o.guard with
      | none => true
      | some (g, _) => ((ops[g]?).bind (·.dst)).isSome)
def okIts (P : Program) (ops : List Oper) (as : List Nat) : List Nat → List Nat → Bool
  | _, [] => true
  | done, i :: rest => okIt P ops as done i rest && okIts P ops as (done ++ [i]) rest
/-- Whether an operation that may not have come up yet must be looked at again. -/
def pendB (P : Program) (ops : List Oper) (as : List Nat) (j : Nat) (post : List Nat) : Bool :=
  (Nat.beq (role P (opAt ops j).op) 1 || (Nat.beq (role P (opAt ops j).op) 0 && readB (opAt ops j).op && post.any fun q => !(Nat.beq (role P (opAt ops q).op) 0))) &&
    post.all fun q => !(Nat.beq (role P (opAt ops q).op) 2) || !((ancOf as q).testBit j)
/-- Whether what an operation looks at is not written behind it. -/
def stayB (ops : List Oper) (j : Nat) (post : List Nat) : Bool := (temps ops (opAt ops j)).all fun t => (j :: post).all fun q => (opAt ops q).dst != some t
noncomputable def chkC (P : Program) (L n : Nat) (ops : List Oper) (j : Nat) (k : KC) : KC :=
  let c := match (opAt ops j).dst with
    | some d => bif Nat.blt d L then (match role P (opAt ops j).op with
      | 0 => .chkQ (opAt ops j).op (kv L n (.tmp d)) k
      | _ => .chkM (opAt ops j).op (kv L n (.tmp d)) k) else .bad
    | none => .bad
  match (opAt ops j).guard with
  | none => c
  | some (g, want) => match (ops[g]?).bind (·.dst) with
    | some gd => .grd (kv L n (.tmp gd)) want .no c k
    | none => .bad
noncomputable def chksC (P : Program) (L n : Nat) (ops : List Oper) (as : List Nat) : List Nat → KC → KC
  | [], k => k
  | j :: post, k => bif pendB P ops as j post then (bif stayB ops j post then chkC P L n ops j (chksC P L n ops as post k) else .bad) else chksC P L n ops as post k
noncomputable def drawC (P : Program) (L n : Nat) (ops : List Oper) (as : List Nat) : List Nat → List Nat → KC
  | done, [] => chksC P L n ops as done .done
  | done, i :: todo => bif Nat.beq (role P (opAt ops i).op) 2 then chksC P L n ops as done (operK P L n ops (opAt ops i) (drawC P L n ops as (done ++ [i]) todo))
    else operK P L n ops (opAt ops i) (drawC P L n ops as (done ++ [i]) todo)
noncomputable def drawK (P : Program) (L n : Nat) (ops : List Oper) : Option KC :=
  let as := ancs ops []
  let ids := List.range ops.length
  let wm := ids.foldl (fun m i => bif Nat.beq (role P (opAt ops i).op) 2 then m ||| 2 ^ i else m) 0
  let ord := sortK P ops as wm (ops.length + 1) ids 0
  bif Nat.beq ord.length ops.length && (ids.all fun x => ord.any fun y => Nat.beq y x) && okIts P ops as [] ord then some (drawC P L n ops as [] ord) else none

/-- A function's code, read. -/
inductive KCode where
  | skip
  | exit (id : Nat)
  | ret
  | bad
  | ops (c : KC)
  | seq (a b : KCode)
  | cond (x : KV) (a b : KCode)
  | block (id : Nat) (b : KCode)
  | loop (b : KCode)
noncomputable def regionK (P : Program) (L n : Nat) (ops : List Oper) (draw : Bool) : KCode := match draw with
  | false => .ops (chainK P L n ops ops)
  | true => match drawK P L n ops with
    | some c => .ops c
    | none => .bad
noncomputable def codeK (P : Program) (L n : Nat) : Code → KCode
  | .skip | .label _ => .skip
  | .exit id => .exit id
  | .ret => .ret
  | .seq a b => .seq (codeK P L n a) (codeK P L n b)
  | .cond c a b => bif opdB c then .cond (kv L n c) (codeK P L n a) (codeK P L n b) else .bad
  | .block id b => .block id (codeK P L n b)
  | .scope b => codeK P L n b
  | .loop b => .loop (codeK P L n b)
  | .region _ ops draw => regionK P L n ops.toList draw
  | _ => .bad

/-- A call: what comes behind it is handed on. -/
abbrev CallC := FuncId → List Value → Hp → (Value → Hp → Bool) → Bool
noncomputable def ldK (h : Hp) (x : W) (k : W → Bool) : Bool := W.rec (motive := fun _ => Bool) (fun _ => false) (fun _ => false) (fun _ => false)
  (fun i off => h.find i fun b => b.raw.find off k) (fun _ => false) x
noncomputable def oneB (x : W) : Bool := W.rec (motive := fun _ => Bool) (fun _ => true) (fun _ => true) (fun _ => true) (fun _ _ => true) (fun v => cellB v) x
noncomputable def stK (h : Hp) (x v : W) (k : Hp → Bool) : Bool := W.rec (motive := fun _ => Bool) (fun _ => false) (fun _ => false) (fun _ => false)
  (fun i off => h.find i fun b => Bool.rec false (Bool.rec false (k (h.set i ⟨b.raw.set off (normW v), b.elem, b.grow⟩)) (oneB v)) (Nat.ble (Nat.succ off) b.raw.len)) (fun _ => false) x
/-- A chain's run. -/
noncomputable def runK (P : Program) (F : CallC) (L n : Nat) (c : KC) : T4 W → Hp → (T4 W → Hp → Bool) → Bool := KC.rec (motive := fun _ => T4 W → Hp → (T4 W → Hp → Bool) → Bool)
  (fun e h q => q e h)
  (fun _ _ _ => false)
  (fun x d _ ih e h q => ih (d.put e (x.at e)) h q)
  (fun f x y d _ ih e h q => W.rec (motive := fun _ => Bool) (fun a => W.rec (motive := fun _ => Bool) (fun b => ih (d.put e (.u (f a b))) h q) (fun _ => false) (fun _ => false) (fun _ _ => false) (fun _ => false) (y.at e)) (fun _ => false) (fun _ => false) (fun _ _ => false) (fun _ => false) (x.at e))
  (fun f x y d _ ih e h q => W.rec (motive := fun _ => Bool) (fun a => W.rec (motive := fun _ => Bool) (fun b => ih (d.put e (.u (f a b))) h q) (fun b => ih (d.put e (.u (f a b))) h q) (fun _ => false) (fun _ _ => false) (fun _ => false) (y.at e)) (fun _ => false) (fun _ => false) (fun _ _ => false) (fun _ => false) (x.at e))
  (fun f x y d _ ih e h q => W.rec (motive := fun _ => Bool) (fun a => W.rec (motive := fun _ => Bool) (fun b => Bool.rec (ih (d.put e (.u (f a b))) h q) false (Nat.beq b 0)) (fun _ => false) (fun _ => false) (fun _ _ => false) (fun _ => false) (y.at e)) (fun _ => false) (fun _ => false) (fun _ _ => false) (fun _ => false) (x.at e))
  (fun f x y o d _ ih e h q => let slow := match opQ P h (evK L n e) o with
      | some v => ih (d.put e (toW v)) h q
      | none => false
    W.rec (motive := fun _ => Bool) (fun _ => slow) (fun a => W.rec (motive := fun _ => Bool) (fun _ => slow) (fun b => Bool.rec slow (ih (d.put e (.i (f a b))) h q) (Nat.ble (f a b) 9223372036854775807)) (fun _ => slow) (fun _ _ => slow) (fun _ => slow) (y.at e)) (fun _ => slow) (fun _ _ => slow) (fun _ => slow) (x.at e))
  (fun f x y o d _ ih e h q => let slow := match opQ P h (evK L n e) o with
      | some v => ih (d.put e (toW v)) h q
      | none => false
    W.rec (motive := fun _ => Bool) (fun a => W.rec (motive := fun _ => Bool) (fun b => Bool.rec (ih (d.put e (.b false)) h q) (ih (d.put e (.b true)) h q) (f a b)) (fun _ => slow) (fun _ => slow) (fun _ _ => slow) (fun _ => slow) (y.at e))
      (fun a => W.rec (motive := fun _ => Bool) (fun _ => slow) (fun b => Bool.rec (ih (d.put e (.b false)) h q) (ih (d.put e (.b true)) h q) (f a b)) (fun _ => slow) (fun _ _ => slow) (fun _ => slow) (y.at e)) (fun _ => slow) (fun _ _ => slow) (fun _ => slow) (x.at e))
  (fun off x d _ ih e h q => W.rec (motive := fun _ => Bool) (fun _ => false) (fun _ => false) (fun _ => false) (fun i o => ih (d.put e (.p i (Nat.add o off))) h q) (fun _ => false) (x.at e))
  (fun len z x i d _ ih e h q => W.rec (motive := fun _ => Bool) (fun _ => false) (fun _ => false) (fun _ => false)
    (fun b o => W.rec (motive := fun _ => Bool) (fun _ => false) (fun j => Bool.rec false (ih (d.put e (.p b (Nat.add o (Nat.mul j z)))) h q) (Nat.ble (Nat.succ j) len)) (fun _ => false) (fun _ _ => false) (fun _ => false) (i.at e)) (fun _ => false) (x.at e))
  (fun x d _ ih e h q => ldK h (x.at e) (fun v => ih (d.put e v) h q))
  (fun x v d _ ih e h q => stK h (x.at e) (v.at e) (fun h' => ih (d.put e (.o undef)) h' q))
  (fun o d _ ih e h q => match opQ P h (evK L n e) o with
    | some v => ih (d.put e (toW v)) h q
    | none => false)
  (fun o d _ ih e h q => match opL P h (evK L n e) o with
    | some (v, h') => ih (d.put e (toW v)) h' q
    | none => false)
  (fun f xs d _ ih e h q => match (f.at e).val with
    | .func (.func g) first captured => F g (first.toList ++ xs.map (fun x => (x.at e).val) ++ captured.toList) h (fun v h' => ih (d.put e (toW v)) h' q)
    | _ => false)
  (fun x want d _ _ ihk ihl e h q => W.rec (motive := fun _ => Bool) (fun _ => ihl (d.put e (.o undef)) h q) (fun _ => ihl (d.put e (.o undef)) h q)
    (fun t => Bool.rec (ihl (d.put e (.o undef)) h q) (ihk e h q) (t == want)) (fun _ _ => ihl (d.put e (.o undef)) h q) (fun v => match v with
      | .bool _ => false
      | _ => ihl (d.put e (.o undef)) h q) (x.at e))
  (fun x i d _ ih e h q => W.rec (motive := fun _ => Bool) (fun _ => false) (fun _ => false) (fun _ => false) (fun _ _ => false) (fun v => match v with
    | .tuple vs => match vs.toList[i]? with
      | some u => ih (d.put e (toW u)) h q
      | none => false
    | _ => false) (x.at e))
  (fun x o d _ ih e h q => W.rec (motive := fun _ => Bool) (fun _ => false) (fun _ => false) (fun _ => false) (fun i off => ih (d.put e (.p i off)) h q) (fun _ => match opQ P h (evK L n e) o with
    | some v => ih (d.put e (toW v)) h q
    | none => false) (x.at e))
  (fun z x d _ ih e h q => W.rec (motive := fun _ => Bool) (fun _ => false) (fun _ => false) (fun _ => false)
    (fun i off => h.find i fun b => Bool.rec false (ih (d.put e (.o (.agg (b.raw.sub off z).toArray))) h q) (Nat.ble (Nat.add off z) b.raw.len)) (fun _ => false) (x.at e))
  (fun z x v d _ ih e h q => W.rec (motive := fun _ => Bool) (fun _ => false) (fun _ => false) (fun _ => false)
    (fun i off => match (v.at e).val with
      | .agg cs => h.find i fun b => Bool.rec false (ih (d.put e (.o undef)) (h.set i (b.putAll off cs.toList)) q) (Nat.beq cs.size z && Nat.ble (off + cs.toList.length) b.raw.len && cs.toList.all cellB)
      | _ => false) (fun _ => false) (x.at e))
  (fun b d _ ih e h q => match h.alloc b with
    | some (i, h') => ih (d.put e (.p i 0)) h' q
    | none => false)
  (fun t x d _ ih e h q => match h.alloc (Blk.of (x.at e).val.cells.toList t false) with
    | some (i, h') => ih (d.put e (.p i 0)) h' q
    | none => false)
  (fun o x _ ih e h q => match opQ P h (evK L n e) o with
    | some v => Bool.rec false (ih e h q) (eqV v (x.at e).val)
    | none => false)
  (fun o x _ ih e h q => match makeQ P (evK L n e) o with
    | some (blk, f) => match nameOf (x.at e).val with
      | some i => match h.get i with
        | some b => Bool.rec false (ih e h q) (eqV (x.at e).val (f i) && eqL b.cells blk.cells && Nat.beq b.elem blk.elem && b.grow == blk.grow)
        | none => false
      | none => false
    | none => false)
  (fun r name xs d _ ih e h q => match (r.at e).val with
    | .iface t v => match methQ t name methTab with
      | some (p, g) => match recvQ p v with
        | some u => F g (u :: xs.map (fun x => (x.at e).val)) h (fun v h' => ih (d.put e (toW v)) h' q)
        | none => false
      | none => false
    | _ => false) c
abbrev XC := Nat → Nat → KCode → T4 W → Hp → (T4 W → Hp → Bool) → (Nat → T4 W → Hp → Bool) → (T4 W → Hp → Bool) → Bool
noncomputable def resAtK (P : Program) (L n : Nat) (h : Hp) (e : T4 W) : ResultVar → Option Value
  | .tmp t => some (evK L n e (.tmp t))
  | .cell a t => loadQ P h t (evK L n e (.tmp a))
noncomputable def resultsK (P : Program) (L n : Nat) (h : Hp) (e : T4 W) (fn : Func) : Option Value := match allQ (fn.results.toList.map (resAtK P L n h e)) with
  | some [v] => some v
  | some vs => some (.tuple vs.toArray)
  | none => none
/-- A call, by the function's body. -/
noncomputable def bodyK (P : Program) (X : XC) : CallC := fun g args h q => match P.funcs[g]? with
  | some fn => match fn.body with
    | some c => let fin := fun e' h' => match resultsK P fn.ntmps (deep fn.ntmps) h' e' fn with
        | some v => q v h'
        | none => false
      bif Nat.blt fn.ntmps 16777216 && Nat.ble args.length fn.ntmps then X fn.ntmps (deep fn.ntmps) (codeK P fn.ntmps (deep fn.ntmps) c) (fillT (deep fn.ntmps) 0 args .nil) h fin (fun _ _ _ => false) fin else false
    | none => match pureRun P (callFunc g args.toArray) with
      | some (.value v) => bif args.all flatB && flatB v then q v h else false
      | _ => false
  | none => false
/-- What is known of functions: of some, what they do; of others, what they do by what others do. -/
structure KnownC where
  leaf : FuncId → Option (List Value → Hp → (Value → Hp → Bool) → Bool)
  node : FuncId → Option (CallC → List Value → Hp → (Value → Hp → Bool) → Bool)
noncomputable def leafK (P : Program) (N : KnownC) (X : XC) : CallC := fun g args h q => match N.leaf g with
  | some f => f args h q
  | none => bodyK P X g args h q
noncomputable def callK (P : Program) (N : KnownC) (X : XC) : CallC := fun g args h q => match N.node g with
  | some f => f (leafK P N X) args h q
  | none => leafK P N X g args h q
noncomputable def execK (P : Program) (N : KnownC) (m : Nat) : XC := Nat.rec (motive := fun _ => XC) (fun _ _ _ _ _ _ _ _ => false)
  (fun _ im L n c => KCode.rec (motive := fun _ => T4 W → Hp → (T4 W → Hp → Bool) → (Nat → T4 W → Hp → Bool) → (T4 W → Hp → Bool) → Bool)
    (fun e h kn _ _ => kn e h)
    (fun id e h _ ke _ => ke id e h)
    (fun e h _ _ kr => kr e h)
    (fun _ _ _ _ _ => false)
    (fun c e h kn _ _ => runK P (callK P N im) L n c e h kn)
    (fun _ _ ia ib e h kn ke kr => ia e h (fun e' h' => ib e' h' kn ke kr) ke kr)
    (fun x _ _ ia ib e h kn ke kr => W.rec (motive := fun _ => Bool) (fun _ => false) (fun _ => false) (fun t => Bool.rec (ib e h kn ke kr) (ia e h kn ke kr) t) (fun _ _ => false) (fun _ => false) (x.at e))
    (fun id _ ib e h kn ke kr => ib e h kn (fun j e' h' => Bool.rec (ke j e' h') (kn e' h') (Nat.beq j id)) kr)
    (fun b ib e h kn ke kr => ib e h (fun e' h' => im L n (.loop b) e' h' kn ke kr) ke kr) c) m
end Go.Proofs.YtphfjhpgcdmonaaGreatDoor.Exe
