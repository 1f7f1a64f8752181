/- All ways of a few rounds: what is told of each call on the way. Condition: that calls are told rightly. -/
import Derived.Test.YtlagmjdifilheaaGreatExAd
namespace Go.Proofs.YtlagmjdifilheaaGreat.Exe
open Go Go.RowKit
section
variable {P : Program} {F : CallC} {h : Hp} {is : List Nat}
/-- A call that ends in this value, whatever the world is, and leaves as they were the blocks by name. -/
def CallsTo (P : Program) (h : Hp) (is : List Nat) (g : FuncId) (args : List Value) (v : Value) : Prop := ∀ (E : Env) (B : Nat → Prop) (w0 w : World) (args' : List Value), WR E P B w0 w h → RelL E args args' →
  Calls P g args'.toArray w fun e w' => e = .returned v ∧ WR E P B w0 w' h ∧ Keep (MineB E h w is) w w'
theorem mem_to (hF : CallSound P F) {g : FuncId} (hg : ∀ args w, (callFunc g args).run P w = .ok (.enter g args) w) {args : List Value} {k : Value → Bool} (hr : memK F is g args h k = true) : ∃ v, k v = true ∧ flatB v = true ∧ CallsTo P h is g args v := by
  obtain ⟨v, h1, h2, h3⟩ := mem_ok hF hr
  refine ⟨v, h1, h2, fun E B w0 w args' W hA => ?_⟩
  rcases h3 E B w0 w args' W hA with h4 | h4
  · exact h4.2
  · rw [hg] at h4
    cases h4
def RoundOk (P : Program) (h : Hp) (is : List Nat) (fMul fAdd : FuncId) (g x : Value) (i off k : Nat) (out out' : Value) : Prop := ∃ cs mv, cellsAt h i (off + k * 4) 4 = some cs ∧ agg4 (.agg cs.toArray) = true ∧ flatB mv = true ∧ flatB out' = true ∧ agg4 out' = true ∧
  CallsTo P h is fMul [g, out, x] mv ∧ CallsTo P h is fAdd [g, mv, .agg cs.toArray] out'
theorem round_ok (hF : CallSound P F) {fMul fAdd : FuncId} (hm : ∀ args w, (callFunc fMul args).run P w = .ok (.enter fMul args) w) (ha : ∀ args w, (callFunc fAdd args).run P w = .ok (.enter fAdd args) w)
    {g x : Value} {i off k : Nat} {out : Value} {c : Value → Bool} (hr : roundK fMul fAdd F is g x i off h k out c = true) : ∃ out', c out' = true ∧ RoundOk P h is fMul fAdd g x i off k out out' := by
  unfold roundK at hr
  split at hr
  · rename_i cs hcs
    simp only [Bool.and_eq_true] at hr
    obtain ⟨mv, h1, h2, h3⟩ := mem_to hF hm hr.2
    obtain ⟨v, h4, h5, h6⟩ := mem_to hF ha h1
    simp only [Bool.and_eq_true] at h4
    exact ⟨v, h4.2, cs, mv, hcs, hr.1, h2, h5, h4.1, h3, h6⟩
  · cases hr
/-- The rounds, in their order, end in this value. -/
def Path (S : Nat → Value → Value → Prop) (v : Value) : List Nat → Value → Prop
  | [], out => out = v
  | k :: l, out => ∃ out', S k out out' ∧ Path S v l out'
variable {step : Nat → Value → (Value → Bool) → Bool} {S : Nat → Value → Value → Prop} {q : Value → Bool}
theorem path_ok (hs : ∀ k out c, step k out c = true → ∃ out', c out' = true ∧ S k out out') : ∀ (l : List Nat) (out : Value), pathB step q l out = true → ∃ v, q v = true ∧ Path S v l out
  | [], out, ht => ⟨out, ht, rfl⟩
  | k :: l, out, ht => by
    obtain ⟨out', h1, h2⟩ := hs k out _ ht
    obtain ⟨v, h3, h4⟩ := path_ok hs l out' h1
    exact ⟨v, h3, out', h2, h4⟩
end
section quiet
variable {P : Program} {ops : Array Oper} {S : World → Prop} {Q : Act → Prop}
theorem quiet_val {o : Oper} {rest : List Oper} {a : Act} (v : Value) (hg : o.guard = none) (hr : ∀ w, S w → (execOp a.eval o).run P w = .ok (.value v) w) (hk : wpQuiet P ops (Cls.In S) Q rest (a.put o.dst v)) : wpQuiet P ops (Cls.In S) Q (o :: rest) a := by
  unfold wpQuiet
  rw [if_pos (by simp [Region.wanted, hg])]
  refine ⟨v, fun w hw => ?_, hk⟩
  obtain ⟨x, rfl⟩ := hw
  unfold Oper.quietAt
  rw [hr _ x.ok]
  exact ⟨rfl, rfl⟩
theorem quiet_enter {o : Oper} {rest : List Oper} {a : Act} (v : Value) (f : FuncId) (args : Array Value) (hg : o.guard = none) (hr : ∀ w, (execOp a.eval o).run P w = .ok (.enter f args) w) (hc : ∀ w, S w → Calls P f args w fun e w' => e = .returned v ∧ S w')
    (hk : wpQuiet P ops (Cls.In S) Q rest (a.put o.dst v)) : wpQuiet P ops (Cls.In S) Q (o :: rest) a := by
  unfold wpQuiet
  rw [if_pos (by simp [Region.wanted, hg])]
  refine ⟨v, fun w hw => ?_, hk⟩
  obtain ⟨x, rfl⟩ := hw
  unfold Oper.quietAt
  rw [hr _]
  exact ⟨rfl, (hc _ x.ok).mono fun e w' he => ⟨he.1, ⟨w', he.2⟩, rfl⟩⟩
end quiet
section order
variable {P : Program} {g : Operand} {ps : Array Tmp} {assign body : Code} {Q : Exit → Act → World → Prop} {a : Act} {w : World}
/-- A loop over an iterator whose values come in a known order. -/
theorem range_order {n gf m : Nat} {lb : Array Value} (hg : a.eval g = .func (.func gf) #[] lb) (eg : ∀ args w, (callFunc gf args).run P w = .ok (.enter gf args) w) (xs : Nat → Array Value) (hps : ∀ k, (xs k).size = ps.size) (I : Nat → World → Prop)
    (turn : ∀ k W r, I k W → I k (W.putObj (w.heap.size + 1) (.loop r))) (h0 : ∀ r, I 0 ((w.alloc (.deferred (some []))).alloc (.loop r)))
    (hseq : ∀ (l : Nat) (J : Nat → World → Prop), (∀ k W, J k W → I k W) → (∀ k W, J k W → k < m → YieldAt Fence.wide (n - 1 - 1) P l (xs k) W fun e W' => e = .returned (.bool true) ∧ J (k + 1) W') →
      ∀ W, J 0 W → CallsIn Fence.wide (n - 1) P gf (#[.func (.yield l) #[] #[]] ++ lb) W fun e W' => (∃ v, e = .returned v) ∧ J m W')
    (hround : ∀ (k : Nat) (W : World) (r : Loop), k < m → I k W → W.heap[w.heap.size + 1]? = some (.loop r) → W.heap[w.heap.size]? = some (.deferred (some [])) →
      assign.wpIn (Fence.wide.inRound (w.heap.size + 1)) (n - 1 - 1) P (Exit.then (fun a₁ W₁ => W₁.heap[w.heap.size + 1]? = some (.loop r) ∧
        ∀ r', body.wpIn (Fence.wide.inRound (w.heap.size + 1)) (n - 1 - 1) P (fun e _ W₃ => e = .normal ∧ W₃.heap[w.heap.size + 1]? = some (.loop r') ∧ W₃.heap[w.heap.size]? = some (.deferred (some [])) ∧ I (k + 1) W₃) a₁ (W₁.putObj (w.heap.size + 1) (.loop r'))) (fun _ _ _ => False))
        { tmps := (ps.zip (xs k)).foldl (fun t (p, v) => t.setIfInBounds p v) a.tmps, defers := [] } W)
    (hdone : ∀ W, I m W → W.heap[w.heap.size]? = some (.deferred (some [])) → Q .normal { a with defers := { target := .collected w.heap.size, args := #[] } :: a.defers } W) :
    (Code.rangeFunc g ps assign body).wpIn Fence.wide n P Q a w := by
  have hdep : ∀ n : Nat, Fence.wide.depth.isSome = true → 1 ≤ n := fun n h => by simp [Fence.wide] at h
  refine wpIn_rangeFunc ?_
  intro fn hfn
  obtain ⟨r0, hr0⟩ : ∃ r : Loop, r = { state := .ready, pending := none, fn, tmps := a.tmps, params := ps, assign, body, defers := w.heap.size } := ⟨_, rfl⟩
  refine ⟨w.heap.size + 1, [{ target := .collected w.heap.size, args := #[] }], (w.alloc (.deferred (some []))).alloc (.loop r0), { target := .fn (.func gf) lb, args := #[.func (.yield (w.heap.size + 1)) #[] #[]] }, (w.alloc (.deferred (some []))).alloc (.loop r0), gf,
    #[.func (.yield (w.heap.size + 1)) #[] #[]] ++ lb, (w.alloc (.deferred (some []))).alloc (.loop r0), ?_, ?_, ?_, ?_, hdep n, ?_⟩
  · rw [hr0]; exact run_enterLoop_outer _ _ _ _ _
  · simp only [resolve, hg]
    simp [go_sem]
  · intro f' _; exact trivial
  · simp [invoke, go_sem, eg]
  · have hl0 : ((w.alloc (.deferred (some []))).alloc (.loop r0)).heap[w.heap.size + 1]? = some (.loop r0) := by
      have := World.alloc_heap_new (w.alloc (.deferred (some []))) (.loop r0)
      rwa [World.size_alloc] at this
    have hk0 : ((w.alloc (.deferred (some []))).alloc (.loop r0)).heap[w.heap.size]? = some (.deferred (some [])) :=
      (Below.heap_alloc _ _ _ (by simp)).trans (World.alloc_heap_new w _)
    refine (hseq (w.heap.size + 1) (fun k W => I k W ∧ W.heap[w.heap.size + 1]? = some (.loop r0) ∧ W.heap[w.heap.size]? = some (.deferred (some []))) (fun _ _ h => h.1) ?_ _ ⟨h0 r0, hl0, hk0⟩).mono ?_
    · rintro k W ⟨hi, hl, hk⟩ hkm
      have hlt : w.heap.size + 1 < W.heap.size := (Array.getElem?_eq_some_iff.1 hl).1
      refine ⟨_, _, _, _, run_yield hl (by rw [hr0]; exact hps k), ?_⟩
      subst hr0
      refine roundIn_of_wpIn hfn (wpIn_mono (hround k W _ hkm hi hl hk) ?_)
      rintro e a1 W1 h1
      cases e with
      | normal =>
        obtain ⟨hl1, h2⟩ := h1
        refine ⟨_, run_beginRound hl1 rfl, wpIn_mono (h2 _) ?_⟩
        rintro e a3 W3 ⟨rfl, hl3, hk3, hi3⟩
        refine ⟨_, _, run_endRound none hl3, ?_⟩
        have hlt3 := (Array.getElem?_eq_some_iff.1 hl3).1
        exact ⟨rfl, turn _ _ _ hi3, World.putObj_heap_same hlt3, (World.putObj_heap_other (by omega)).trans hk3⟩
      | _ => exact h1.elim
    · rintro e W2 ⟨⟨v, rfl⟩, hi, hl, hk⟩
      subst hr0
      exact ⟨none, _, run_endLoop hl (by simp), hdone _ (turn _ _ _ hi) ((World.putObj_heap_other (by omega)).trans hk)⟩
end order
end Go.Proofs.YtlagmjdifilheaaGreat.Exe
