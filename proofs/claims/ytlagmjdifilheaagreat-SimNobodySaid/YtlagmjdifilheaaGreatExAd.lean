/- A world by names, where what no name stands for turns; all ways of a few rounds. No condition. -/
import Derived.Test.YtlagmjdifilheaaGreatExAc
import Derived.Test.YtlagmjdifilheaaGreatNaA
import Derived.Test.YtlagmjdifilheaaGreatCls
import Derived.Test.YtlagmjdifilheaaGreatBlk
import Derived.RangeFuncCalls
import Derived.OrdersIn
import Derived.StillTail
import Derived.BigQuiet
namespace Go.Proofs.YtlagmjdifilheaaGreat.Exe
open Go Go.RowKit
section
variable {E : Env} {P : Program} {B : Nat → Prop} {w0 w w' : World} {h : Hp}
theorem WR.lt (W : WR E P B w0 w h) {i b : Nat} (hi : (h.ob i).isSome = true) (hρ : E.ρ i = some b) : b < w.heap.size := by
  obtain ⟨ob, hob⟩ := Option.isSome_iff_exists.1 hi
  obtain ⟨o, _, h2, _⟩ := W.live i ob b hob hρ
  exact (Array.getElem?_eq_some_iff.1 h2).1
/-- What no name stands for may turn. -/
theorem WR.still (W : WR E P B w0 w h) (hw : Keep B w w') (hk : ∀ i b, (h.ob i).isSome = true → E.ρ i = some b → w'.heap[b]? = w.heap[b]?) : WR E P B w0 w' h :=
  ⟨W.below.trans hw, W.base, fun i ob b hi hρ => by
    obtain ⟨o, h1, h2, h3⟩ := W.live i ob b hi hρ
    exact ⟨o, h1, (hk i b (by rw [hi]; rfl) hρ).trans h2, h3⟩, W.inj, W.fresh⟩
theorem WR.plain (W : WR E P B w0 w h) (o : Obj) : WR E P B w0 (w.alloc o) h :=
  W.still (Keep.alloc B w o) fun _ b hi hρ => Below.heap_alloc w o b (W.lt hi hρ)
theorem WR.cell (W : WR E P B w0 w h) {b : Nat} (hb : B b) (hn : ∀ i, (h.ob i).isSome = true → E.ρ i ≠ some b) (o : Obj) : WR E P B w0 (w.putObj b o) h :=
  W.still ⟨rfl, rfl, rfl, by simp, fun k _ hk => World.putObj_heap_other (by rintro rfl; exact hk hb)⟩ fun i c hi hρ => World.putObj_heap_other (by rintro rfl; exact hn i hi hρ)
end
section round
variable {P : Program} {Q : Exit → Act → World → Prop}
theorem rows_round {l n : Nat} {row : String} {args : Array Value} {w : World} {R : Value → World → Prop} (h : Rows P row args w R) : RowsIn (Fence.wide.inRound l) n P row args w R := by
  intro c cs _
  obtain ⟨v, w', r, s⟩ := h c cs
  refine ⟨v, w', r, ?_⟩
  rw [fenced_inRound]
  exact stepsIn_wide.2 s
theorem calls_round {l n : Nat} {g : FuncId} {args : Array Value} {w : World} {R : Ending → World → Prop} (h : Calls P g args w R) : CallsIn (Fence.wide.inRound l) n P g args w R :=
  CallsIn.inRound l (callsIn_wide.2 h)
theorem upon_round {l n : Nat} {o : Oper} {a : Act} {K : Act → World → Prop} {r : Result Next} (h : o.upon P a K Q r) : o.uponIn (Fence.wide.inRound l) n P a K Q r := by
  have hd : (Fence.wide.inRound l).depth.isSome = true → 1 ≤ n := fun h => by simp [Fence.wide] at h
  cases r with
  | ok x w' =>
    cases x with
    | value v => exact h
    | skip => exact h
    | defer d => exact h
    | enter f args =>
      refine ⟨hd, CallsIn.mono (calls_round h) fun e w'' he => ?_⟩
      cases e <;> exact he
    | row r args => exact ⟨hd, rows_round h⟩
    | _ => exact absurd h (by simp [Oper.upon])
  | halt x w' => cases x <;> first | exact h | exact absurd h (by simp [Oper.upon])
theorem oper_round {l n : Nat} {o : Oper} {a : Act} {w : World} {K : Act → World → Prop} (hd : ∀ c, o.op ≠ .defer c) (h : o.wp P a w K Q) : o.wpIn (Fence.wide.inRound l) n P a w K Q := by
  refine ⟨fun _ _ => trivial, ?_⟩
  rw [Oper.semAt_eq _ _ _ hd]
  exact upon_round h
def noDefer (ops : Array Oper) : Bool := ops.toList.all fun o => match o.op with
  | .defer _ => false
  | _ => true
theorem noDefer_at {ops : Array Oper} (h : noDefer ops = true) {i : Nat} {o : Oper} (ho : ops[i]? = some o) : ∀ c, o.op ≠ .defer c := fun c e => by
  have h1 := List.all_eq_true.1 h o (Array.mem_toList_iff.2 (Array.mem_of_getElem? ho))
  rw [e] at h1
  cases h1
/-- What comes of a region, whatever its order is, comes of it in a round too. -/
theorem any_round {l n : Nat} {md : Region.Mode} {ops : Array Oper} (hd : noDefer ops = true) (hQ : ¬ LetsOut Q) : ∀ (f : Nat) (ls : Array Bool) (a : Act) (w : World), wpAny P md ops Q f ls a w → wpAnyIn (Fence.wide.inRound l) n P md ops Q f ls a w
  | 0, _, _, _, h => h
  | f + 1, ls, a, w, h => by
    refine ⟨h.1, fun i hi => ?_⟩
    have h1 := h.2 i hi
    unfold wpOp at h1
    unfold wpOpIn
    cases ho : ops[i]? with
    | none => rw [ho] at h1; exact any_round hd hQ f _ a w h1
    | some o =>
      rw [ho] at h1
      dsimp only at h1 ⊢
      by_cases hw : Region.wanted o (yielded ops a.tmps) = true
      · rw [if_pos hw] at h1 ⊢
        rcases h1 with h1 | h1
        · exact oper_round (noDefer_at hd ho) (Oper.wp_mono (fun a' w' h' => any_round hd hQ f _ a' w' h') h1)
        · exact absurd h1.2 hQ
      · rw [if_neg hw] at h1 ⊢
        exact ⟨fun _ _ => trivial, any_round hd hQ f _ _ w h1⟩
theorem region_round {l n id : Nat} {ops : Array Oper} {a : Act} {w : World} (hm : P.follows .mixedOrders = true) (hd : noDefer ops = true) (hQ : ¬ LetsOut Q) (h : wpAny P .any ops Q ops.size (Array.replicate ops.size false) a w.drew) :
    (Code.region id ops true).wpIn (Fence.wide.inRound l) n P Q a w := wpIn_region_any hm (any_round hd hQ _ _ a w.drew h)
/-- All but the last operations are quiet in a class; the last ones stand in a chain. -/
theorem any_tail {S : World → Prop} {a : Act} {w : World} {l : List Oper} (n : Nat) (hB : Region.lexTailB .any l.toArray n = true) (hS : S w)
    (h : wpQuiet P l.toArray (Cls.In S) (fun a' => ∀ w', S w' → wpList P l.toArray Q (l.drop n) a' w') (l.take n) a) : wpAny P .any l.toArray Q l.toArray.size (Array.replicate l.toArray.size false) a w := by
  simp only [Region.lexTailB, Bool.and_eq_true, decide_eq_true_eq] at hB
  obtain ⟨⟨⟨⟨hsel, hn⟩, hs⟩, hc⟩, hlex⟩ := hB
  have htl : (l.take n).length = n := by simp at hn; simp; omega
  have hdl : (l.drop n).length = l.toArray.size - n := by simp
  have inv0 : HeadInv .any l.toArray n (Array.replicate l.toArray.size false) :=
    ⟨by simp, fun j oj _ hl => (by rw [getD_replicate_false] at hl; cases hl), fun t _ ht => getD_in (by simpa using ht) (getD_replicate_false _ _)⟩
  have H := Cls.head_lex (md := .any) (C := Cls.In S) (g := l.toArray.size - n) hsel hs hc hn (l.take n) 0 _ a (fun j hj => by
    have hj' : j < n := by rw [htl] at hj; exact hj
    simp [hj']) (by simpa using htl) inv0 (by rw [htl]; exact hlex) h
  have := Cls.any_of_head (Q' := Q) (g := l.toArray.size - n) (fun listed a' w' hC hL => by
    obtain ⟨x, rfl⟩ := hC
    have := wpAny_of_seq (md := .any) (Q' := Q) (l.drop n) n listed a' x.w (fun j => by simp [List.getElem?_drop]) (by rw [hdl]; exact hL.1) (hL.2 _ x.ok)
    rwa [hdl] at this) _ _ _ w ⟨⟨w, hS⟩, rfl⟩ H
  rw [htl, show n + (l.toArray.size - n) = l.toArray.size by simp at hn ⊢; omega] at this
  exact this
end round
/-- What may be reached from values, by so many steps. -/
noncomputable def reachN (h : Hp) : Nat → List Value → List Nat
  | 0, _ => []
  | d + 1, vs => vs.foldr (fun v acc => match v with
    | .pointer (some ⟨i, _, _⟩) => i :: ((match h.get i with
      | some b => reachN h d b.cells
      | none => []) ++ acc)
    | _ => acc) []
/-- So many rounds, each at its place. -/
noncomputable def pathB (step : Nat → Value → (Value → Bool) → Bool) (q : Value → Bool) : List Nat → Value → Bool
  | [], out => q out
  | k :: l, out => step k out (pathB step q l)
/-- Four words. -/
abbrev w4 (a b c d : Int) : Value := .agg #[.int .u64 a, .int .u64 b, .int .u64 c, .int .u64 d]
def agg4 : Value → Bool
  | .agg cs => match cs.toList with
    | [.int .u64 _, .int .u64 _, .int .u64 _, .int .u64 _] => true
    | _ => false
  | _ => false
theorem agg4_eq {v : Value} (h : agg4 v = true) : ∃ a b c d, v = w4 a b c d := by
  unfold agg4 at h
  split at h
  · rename_i cs
    split at h
    · rename_i a b c d hcs
      exact ⟨a, b, c, d, by rw [show cs = cs.toList.toArray by simp, hcs]⟩
    · cases h
  · cases h
noncomputable def roundK (fMul fAdd : FuncId) (F : CallC) (is : List Nat) (g x : Value) (i off : Nat) (h : Hp) (k : Nat) (out : Value) (c : Value → Bool) : Bool :=
  match cellsAt h i (off + k * 4) 4 with
  | some cs => agg4 (.agg cs.toArray) && memK F is fMul [g, out, x] h fun m => memK F is fAdd [g, m, .agg cs.toArray] h fun r => agg4 r && c r
  | none => false
def downs : Nat → List Nat
  | 0 => []
  | n + 1 => n :: downs n
/-- poly.Eval, of at most two numbers. -/
noncomputable def evalT (fMul fAdd : FuncId) (F : CallC) (args : List Value) (h : Hp) (q : Value → Hp → Bool) : Bool := match args with
  | [.pointer (some ⟨ig, og, none⟩), xs, x] => agg4 x && match xs with
    | .slice none 0 _ => q (nat4 0) h
    | .slice (some ⟨i, off, none⟩) len _ =>
      bif Nat.ble 1 len && Nat.ble len 2 && (reachN h 3 [.pointer (some ⟨ig, og, none⟩)]).all (fun j => !(Nat.beq j i)) then
        pathB (roundK fMul fAdd F (reachN h 3 [.pointer (some ⟨ig, og, none⟩)]) (.pointer (some ⟨ig, og, none⟩)) x i off h) (fun v => q v h) (downs len) (nat4 0) else false
    | _ => false
  | _ => false
/-- A message's form. -/
def msgB : Value → Bool
  | .agg cs => match cs.toList with
    | [.int .i64 _, .int .i64 _, .string _, .int .i64 _, .int .i64 _, .string _, .slice _ _ _, .slice _ _ _] => true
    | _ => false
  | _ => false
theorem msgB_eq {v : Value} (h : msgB v = true) : ∃ a b c d e f g1 g2 g3 h1 h2 h3, v = .agg #[.int .i64 a, .int .i64 b, .string c, .int .i64 d, .int .i64 e, .string f, .slice g1 g2 g3, .slice h1 h2 h3] := by
  unfold msgB at h
  split at h
  · rename_i cs
    split at h
    · rename_i hcs
      exact ⟨_, _, _, _, _, _, _, _, _, _, _, _, by rw [show cs = cs.toList.toArray by simp, hcs]⟩
    · cases h
  · cases h
/-- wire.Take, where nothing is wrong. -/
noncomputable def takeT (fMsg : FuncId) (tReader : TypeId) (F : CallC) (args : List Value) (h : Hp) (q : Value → Hp → Bool) : Bool := match args with
  | [.string s] => bif Nat.ble s.size 8192 then (match h.alloc (Blk.of [.string s] tReader false) with
    | some (i, h1) => F fMsg [.pointer (some ⟨i, 0, none⟩)] h1 fun v h2 => msgB v && q (.tuple #[v, .int .i64 0]) h2
    | none => false) else false
  | _ => false
/-- The blocks that names stand for, and those that are new. -/
def MineA (E : Env) (h : Hp) (w : World) (k : Nat) : Prop := (∃ i, (h.ob i).isSome = true ∧ E.ρ i = some k) ∨ w.heap.size ≤ k
section
variable {E E' : Env} {P : Program} {B : Nat → Prop} {w0 w w' : World} {h h' : Hp}
theorem WR.own (W : WR E P B w0 w h) : WR E P (MineA E h w) w w h :=
  ⟨Keep.refl _ _, fun _ hk => .inr hk, fun i ob b hi hρ => by
    obtain ⟨o, _, h2, h3⟩ := W.live i ob b hi hρ
    exact ⟨o, .inl ⟨i, by rw [hi]; rfl, hρ⟩, h2, h3⟩, W.inj, W.fresh⟩
theorem WR.disown (W : WR E P B w0 w h) (W' : WR E' P (MineA E h w) w w' h') : WR E' P B w0 w' h' := by
  have hB : ∀ k, MineA E h w k → B k := by
    rintro k (⟨i, hi, hρ⟩ | hk)
    · obtain ⟨ob, hob⟩ := Option.isSome_iff_exists.1 hi
      obtain ⟨_, h1, _⟩ := W.live i ob k hob hρ
      exact h1
    · exact W.base' k hk
  refine ⟨W.below.trans ⟨W'.below.os, W'.below.tape, W'.below.output, W'.below.size, fun k hk hn => W'.below.block k hk fun hm => hn (hB k hm)⟩, W.base, fun i ob b hi hρ => ?_, W'.inj, W'.fresh⟩
  obtain ⟨o, h1, h2, h3⟩ := W'.live i ob b hi hρ
  exact ⟨o, hB b h1, h2, h3⟩
end
end Go.Proofs.YtlagmjdifilheaaGreat.Exe
