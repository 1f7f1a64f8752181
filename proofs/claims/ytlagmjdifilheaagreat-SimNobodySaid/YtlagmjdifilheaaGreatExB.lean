/- What a value by names stands for: the relation to values by numbers, and the laws of it. No condition. -/
import Derived.Test.YtlagmjdifilheaaGreatExA
namespace Go.Proofs.YtlagmjdifilheaaGreat.Exe
open Go Go.RowKit

/-- Of names, the blocks' numbers; of names of blocks whose capacity was drawn, that capacity. -/
structure Env where
  ρ : Nat → Option Nat
  κ : Nat → Nat
def Env.le (E E' : Env) : Prop := ∀ i b, E.ρ i = some b → E'.ρ i = some b ∧ E'.κ i = E.κ i
theorem Env.le_refl (E : Env) : E.le E := fun _ _ h => ⟨h, rfl⟩
theorem Env.le_trans {A B C : Env} (h : A.le B) (k : B.le C) : A.le C := fun i b hi => ⟨(k i b (h i b hi).1).1, ((k i b (h i b hi).1).2).trans (h i b hi).2⟩

inductive Rel (E : Env) : Value → Value → Prop
  | leaf (v : Value) (h : leafB v = true) : Rel E v v
  | ptr (i b off : Nat) (h : E.ρ i = some b) : Rel E (.pointer (some ⟨i, off, none⟩)) (.pointer (some ⟨b, off, none⟩))
  | slice (i b off len cap cap' : Nat) (h : E.ρ i = some b) (hl : len ≤ cap') (hk : cap < capG → cap' = cap) (hg : cap = capG → off = 0 ∧ cap' = E.κ i) : Rel E (.slice (some ⟨i, off, none⟩) len cap) (.slice (some ⟨b, off, none⟩) len cap')
  | map (i b : Nat) (h : E.ρ i = some b) : Rel E (.map (some i)) (.map (some b))
  | func (f : Fn) (xs xs' ys ys' : Array Value) (hs : xs.toList.length = xs'.toList.length) (h : ∀ (k : Nat) (c c' : Value), xs.toList[k]? = some c → xs'.toList[k]? = some c' → Rel E c c')
      (hs' : ys.toList.length = ys'.toList.length) (h' : ∀ (k : Nat) (c c' : Value), ys.toList[k]? = some c → ys'.toList[k]? = some c' → Rel E c c') : Rel E (.func f xs ys) (.func f xs' ys')
  | agg (xs xs' : Array Value) (hs : xs.toList.length = xs'.toList.length) (h : ∀ (k : Nat) (c c' : Value), xs.toList[k]? = some c → xs'.toList[k]? = some c' → Rel E c c') : Rel E (.agg xs) (.agg xs')
  | tuple (xs xs' : Array Value) (hs : xs.toList.length = xs'.toList.length) (h : ∀ (k : Nat) (c c' : Value), xs.toList[k]? = some c → xs'.toList[k]? = some c' → Rel E c c') : Rel E (.tuple xs) (.tuple xs')

theorem Rel.mono {E E' : Env} (hE : E.le E') {v x : Value} (h : Rel E v x) : Rel E' v x := by
  induction h with
  | leaf v h => exact .leaf v h
  | ptr i b off h => exact .ptr i b off (hE i b h).1
  | slice i b off len cap cap' h hl hk hg => exact .slice i b off len cap cap' (hE i b h).1 hl hk (fun e => ⟨(hg e).1, (hg e).2.trans (hE i b h).2.symm⟩)
  | map i b h => exact .map i b (hE i b h).1
  | func f xs xs' ys ys' hs _ hs' _ ih ih' => exact .func f xs xs' ys ys' hs ih hs' ih'
  | agg xs xs' hs _ ih => exact .agg xs xs' hs ih
  | tuple xs xs' hs _ ih => exact .tuple xs xs' hs ih

/-- Lists, value by value. -/
def RelL (E : Env) : List Value → List Value → Prop
  | [], [] => True
  | a :: l, b :: l' => Rel E a b ∧ RelL E l l'
  | _, _ => False
theorem RelL.length {E : Env} : ∀ {l l' : List Value}, RelL E l l' → l.length = l'.length
  | [], [], _ => rfl
  | _ :: _, _ :: _, h => congrArg (· + 1) (RelL.length h.2)
theorem RelL.at {E : Env} : ∀ {l l' : List Value}, RelL E l l' → ∀ (k : Nat) (c c' : Value), l[k]? = some c → l'[k]? = some c' → Rel E c c'
  | [], [], _, k, c, c', h1, _ => by simp at h1
  | a :: l, b :: l', h, 0, c, c', h1, h2 => by
    simp at h1 h2
    exact h1 ▸ h2 ▸ h.1
  | a :: l, b :: l', h, k + 1, c, c', h1, h2 => RelL.at h.2 k c c' (by simpa using h1) (by simpa using h2)
theorem RelL.of {E : Env} : ∀ {l l' : List Value}, l.length = l'.length → (∀ (k : Nat) (c c' : Value), l[k]? = some c → l'[k]? = some c' → Rel E c c') → RelL E l l'
  | [], [], _, _ => trivial
  | a :: l, b :: l', hs, h => ⟨h 0 a b rfl rfl, RelL.of (by simpa using hs) (fun k c c' h1 h2 => h (k + 1) c c' (by simpa using h1) (by simpa using h2))⟩
  | [], _ :: _, hs, _ => by simp at hs
  | _ :: _, [], hs, _ => by simp at hs
theorem RelL.mono {E E' : Env} (hE : E.le E') : ∀ {l l' : List Value}, RelL E l l' → RelL E' l l'
  | [], [], _ => trivial
  | _ :: _, _ :: _, h => ⟨h.1.mono hE, RelL.mono hE h.2⟩
theorem RelL.get {E : Env} {l l' : List Value} (h : RelL E l l') {k : Nat} {c : Value} (hk : l[k]? = some c) : ∃ c', l'[k]? = some c' ∧ Rel E c c' := by
  have h1 : k < l'.length := by rw [← h.length]; exact (List.getElem?_eq_some_iff.1 hk).1
  exact ⟨l'[k], List.getElem?_eq_getElem h1, h.at k c _ hk (List.getElem?_eq_getElem h1)⟩
theorem RelL.append {E : Env} : ∀ {l l' m m' : List Value}, RelL E l l' → RelL E m m' → RelL E (l ++ m) (l' ++ m')
  | [], [], _, _, _, h => h
  | _ :: _, _ :: _, _, _, h, k => ⟨h.1, RelL.append h.2 k⟩
theorem RelL.take {E : Env} : ∀ (n : Nat) {l l' : List Value}, RelL E l l' → RelL E (l.take n) (l'.take n)
  | 0, _, _, _ => by simp [RelL]
  | _ + 1, [], [], _ => by simp [RelL]
  | n + 1, _ :: _, _ :: _, h => ⟨h.1, RelL.take n h.2⟩
theorem RelL.drop {E : Env} : ∀ (n : Nat) {l l' : List Value}, RelL E l l' → RelL E (l.drop n) (l'.drop n)
  | 0, _, _, h => h
  | _ + 1, [], [], _ => by simp [RelL]
  | n + 1, _ :: _, _ :: _, h => RelL.drop n h.2
theorem RelL.set {E : Env} : ∀ (n : Nat) {l l' : List Value} {v x : Value}, RelL E l l' → Rel E v x → RelL E (l.set n v) (l'.set n x)
  | _, [], [], _, _, _, _ => by simp [RelL]
  | 0, _ :: _, _ :: _, _, _, h, k => ⟨k, h.2⟩
  | n + 1, _ :: _, _ :: _, _, _, h, k => ⟨h.1, RelL.set n h.2 k⟩
theorem RelL.replicate {E : Env} {v x : Value} (h : Rel E v x) : ∀ n, RelL E (List.replicate n v) (List.replicate n x)
  | 0 => trivial
  | n + 1 => ⟨h, RelL.replicate h n⟩
theorem RelL.map {E : Env} {α : Type} {f g : α → Value} : ∀ {l : List α}, (∀ a ∈ l, Rel E (f a) (g a)) → RelL E (l.map f) (l.map g)
  | [], _ => trivial
  | a :: l, h => ⟨h a (by simp), RelL.map (fun b hb => h b (by simp [hb]))⟩
theorem relL_agg {E : Env} {cs cs' : Array Value} (h : RelL E cs.toList cs'.toList) : Rel E (.agg cs) (.agg cs') := .agg cs cs' h.length h.at
theorem relL_tuple {E : Env} {cs cs' : Array Value} (h : RelL E cs.toList cs'.toList) : Rel E (.tuple cs) (.tuple cs') := .tuple cs cs' h.length h.at
theorem relL_func {E : Env} {f : Fn} {xs xs' ys ys' : Array Value} (h : RelL E xs.toList xs'.toList) (k : RelL E ys.toList ys'.toList) : Rel E (.func f xs ys) (.func f xs' ys') :=
  .func f xs xs' ys ys' h.length h.at k.length k.at

section inv
variable {E : Env} {x : Value}
theorem Rel.of_leaf {v : Value} (h : Rel E v x) (hl : leafB v = true) : x = v := by
  cases h <;> first | rfl | simp [leafB] at hl
theorem Rel.to_agg {cs : Array Value} (h : Rel E (.agg cs) x) : ∃ cs', x = .agg cs' ∧ RelL E cs.toList cs'.toList := by
  cases h with
  | leaf _ h => simp [leafB] at h
  | agg xs xs' hs h => exact ⟨xs', rfl, RelL.of hs h⟩
theorem Rel.to_tuple {cs : Array Value} (h : Rel E (.tuple cs) x) : ∃ cs', x = .tuple cs' ∧ RelL E cs.toList cs'.toList := by
  cases h with
  | leaf _ h => simp [leafB] at h
  | tuple xs xs' hs h => exact ⟨xs', rfl, RelL.of hs h⟩
theorem Rel.to_func {f : Fn} {xs ys : Array Value} (h : Rel E (.func f xs ys) x) : ∃ xs' ys', x = .func f xs' ys' ∧ RelL E xs.toList xs'.toList ∧ RelL E ys.toList ys'.toList := by
  cases h with
  | leaf _ h => simp [leafB] at h
  | func f xs xs' ys ys' hs h hs' h' => exact ⟨xs', ys', rfl, RelL.of hs h, RelL.of hs' h'⟩
theorem Rel.to_ptr {i off : Nat} (h : Rel E (.pointer (some ⟨i, off, none⟩)) x) : ∃ b, E.ρ i = some b ∧ x = .pointer (some ⟨b, off, none⟩) := by
  cases h with
  | leaf _ h => simp [leafB] at h
  | ptr i b off h => exact ⟨b, h, rfl⟩
theorem Rel.to_ptr' {a : Addr} (h : Rel E (.pointer (some a)) x) : ∃ i b, E.ρ i = some b ∧ a = ⟨i, a.off, none⟩ ∧ x = .pointer (some ⟨b, a.off, none⟩) := by
  cases h with
  | leaf _ h => simp [leafB] at h
  | ptr i b off h => exact ⟨i, b, h, rfl, rfl⟩
theorem Rel.to_slice {i off len cap : Nat} (h : Rel E (.slice (some ⟨i, off, none⟩) len cap) x) :
    ∃ b cap', E.ρ i = some b ∧ x = .slice (some ⟨b, off, none⟩) len cap' ∧ len ≤ cap' ∧ (cap < capG → cap' = cap) ∧ (cap = capG → off = 0 ∧ cap' = E.κ i) := by
  cases h with
  | leaf _ h => simp [leafB] at h
  | slice i b off len cap cap' h hl hk hg => exact ⟨b, cap', h, rfl, hl, hk, hg⟩
theorem Rel.to_slice' {a : Option Addr} {len cap : Nat} (h : Rel E (.slice a len cap) x) : ∃ a' cap', x = .slice a' len cap' ∧ (a = none → a' = none ∧ cap' = cap) ∧
    (∀ s, a = some s → ∃ i b, E.ρ i = some b ∧ s = ⟨i, s.off, none⟩ ∧ a' = some ⟨b, s.off, none⟩ ∧ len ≤ cap' ∧ (cap < capG → cap' = cap) ∧ (cap = capG → s.off = 0 ∧ cap' = E.κ i)) := by
  cases h with
  | leaf _ h =>
    cases a with
    | none => exact ⟨none, cap, rfl, (fun _ => ⟨rfl, rfl⟩), (fun s e => by cases e)⟩
    | some s => simp [leafB] at h
  | slice i b off len cap cap' h hl hk hg => exact ⟨_, cap', rfl, (fun e => by cases e), (fun s e => by cases e; exact ⟨i, b, h, rfl, rfl, hl, hk, hg⟩)⟩
theorem Rel.to_map {i : Nat} (h : Rel E (.map (some i)) x) : ∃ b, E.ρ i = some b ∧ x = .map (some b) := by
  cases h with
  | leaf _ h => simp [leafB] at h
  | map i b h => exact ⟨b, h, rfl⟩
theorem RelL.of_leaf : ∀ {l l' : List Value}, RelL E l l' → l.all leafB = true → l' = l
  | [], [], _, _ => rfl
  | a :: l, b :: l', h, hl => by
    simp only [List.all_cons, Bool.and_eq_true] at hl
    rw [h.1.of_leaf hl.1, RelL.of_leaf h.2 hl.2]
theorem RelL.refl_leaf : ∀ {l : List Value}, l.all leafB = true → RelL E l l
  | [], _ => trivial
  | a :: l, hl => by
    simp only [List.all_cons, Bool.and_eq_true] at hl
    exact ⟨.leaf a hl.1, RelL.refl_leaf hl.2⟩
/-- What lies in a tuple that holds no address. -/
def partB (v : Value) : Bool := match v with
  | .agg cs => cs.toList.all leafB
  | .tuple us => us.isEmpty
  | v => leafB v
theorem flatB_tuple (vs : Array Value) : flatB (.tuple vs) = vs.toList.all partB := rfl
theorem Rel.of_part {v : Value} (h : Rel E v x) (hl : partB v = true) : x = v := by
  cases h with
  | leaf => rfl
  | agg xs xs' hs h =>
    have := RelL.of_leaf (RelL.of hs h) hl
    rw [Array.toList_inj.1 this]
  | tuple xs xs' hs h =>
    have h0 : xs = #[] := by simpa [partB] using hl
    subst h0
    have : xs' = #[] := by
      apply Array.toList_inj.1
      simpa using hs.symm
    rw [this]
  | ptr => simp [partB, leafB] at hl
  | slice => simp [partB, leafB] at hl
  | map => simp [partB, leafB] at hl
  | func => simp [partB, leafB] at hl
theorem RelL.of_part : ∀ {l l' : List Value}, RelL E l l' → l.all partB = true → l' = l
  | [], [], _, _ => rfl
  | a :: l, b :: l', h, hl => by
    simp only [List.all_cons, Bool.and_eq_true] at hl
    rw [h.1.of_part hl.1, RelL.of_part h.2 hl.2]
theorem Rel.refl_part {v : Value} (hl : partB v = true) : Rel E v v := by
  cases v with
  | agg cs => exact relL_agg (RelL.refl_leaf hl)
  | tuple us =>
    have h0 : us = #[] := by simpa [partB] using hl
    subst h0
    exact relL_tuple trivial
  | _ => exact .leaf _ hl
theorem RelL.refl_part : ∀ {l : List Value}, l.all partB = true → RelL E l l
  | [], _ => trivial
  | a :: l, hl => by
    simp only [List.all_cons, Bool.and_eq_true] at hl
    exact ⟨.refl_part hl.1, RelL.refl_part hl.2⟩
theorem Rel.of_flat {v : Value} (h : Rel E v x) (hl : flatB v = true) : x = v := by
  cases h with
  | leaf => rfl
  | agg xs xs' hs h =>
    have := RelL.of_leaf (RelL.of hs h) hl
    rw [Array.toList_inj.1 this]
  | tuple xs xs' hs h =>
    have := RelL.of_part (RelL.of hs h) (flatB_tuple xs ▸ hl)
    rw [Array.toList_inj.1 this]
  | ptr => simp [flatB, leafB] at hl
  | slice => simp [flatB, leafB] at hl
  | map => simp [flatB, leafB] at hl
  | func => simp [flatB, leafB] at hl
theorem Rel.refl_flat {v : Value} (hl : flatB v = true) : Rel E v v := by
  cases v with
  | agg cs => exact relL_agg (RelL.refl_leaf hl)
  | tuple us => exact relL_tuple (RelL.refl_part (flatB_tuple us ▸ hl))
  | _ => exact .leaf _ hl
theorem Rel.cells {v : Value} (h : Rel E v x) : RelL E v.cells.toList x.cells.toList := by
  cases h with
  | leaf _ hv => cases x <;> first | exact ⟨.leaf _ hv, trivial⟩ | simp [leafB] at hv
  | agg xs xs' hs h => exact RelL.of hs h
  | ptr i b off h => exact ⟨.ptr i b off h, trivial⟩
  | slice i b off len cap cap' h hl hk hg => exact ⟨.slice i b off len cap cap' h hl hk hg, trivial⟩
  | map i b h => exact ⟨.map i b h, trivial⟩
  | func f xs xs' ys ys' hs h hs' h' => exact ⟨.func f xs xs' ys ys' hs h hs' h', trivial⟩
  | tuple xs xs' hs h => exact ⟨.tuple xs xs' hs h, trivial⟩
theorem Rel.cell {v : Value} (h : Rel E v x) (hc : cellB v = true) : cellB x = true := by
  cases h <;> first | exact hc | rfl | simp [cellB] at hc
theorem Rel.undef : Rel E undef undef := relL_tuple trivial
end inv
end Go.Proofs.YtlagmjdifilheaaGreat.Exe
