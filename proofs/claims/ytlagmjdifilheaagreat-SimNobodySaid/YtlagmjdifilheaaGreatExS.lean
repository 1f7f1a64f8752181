/- What a region whose order is open is reckoned with: makers of memory, what an operation reads. No condition. -/
import Derived.Test.YtlagmjdifilheaaGreatExQ
namespace Go.Proofs.YtlagmjdifilheaaGreat.Exe
open Go Go.RowKit
section make
variable {E : Env} {P : Program} {B : Nat → Prop} {w0 w : World} {h : Hp} {η : Operand → Value} {p : Operand → Bool} {a : Act}
theorem make_opL {o : Op} {v : Value} {h' : Hp} (hm : makerB o = true) (hq : opL P h η o = some (v, h')) : ∃ blk f i, makeQ P η o = some (blk, f) ∧ h.alloc blk = some (i, h') ∧ v = f i := by
  cases o with
  | alloc e =>
    simp only [opL] at hq
    simp only [makeQ]
    cases hz : zeroQ P e with
    | none => simp [hz] at hq
    | some z =>
      cases ha : h.alloc (Blk.of z.cells.toList e false) with
      | none => simp [hz, ha] at hq
      | some q =>
        obtain ⟨i, hp⟩ := q
        simp only [hz, Option.bind_some, ha, Option.map_some, Option.some.injEq, Prod.mk.injEq] at hq
        obtain ⟨rfl, rfl⟩ := hq
        exact ⟨_, _, i, rfl, ha, rfl⟩
  | box e x =>
    simp only [opL] at hq
    simp only [makeQ]
    cases ha : h.alloc (Blk.of (η x).cells.toList e false) with
    | none => simp [ha] at hq
    | some q =>
      obtain ⟨i, hp⟩ := q
      simp only [ha, Option.map_some, Option.some.injEq, Prod.mk.injEq] at hq
      obtain ⟨rfl, rfl⟩ := hq
      exact ⟨_, _, i, rfl, ha, rfl⟩
  | buildSlice t len parts =>
    simp only [opL] at hq
    simp only [makeQ]
    split at hq
    · rename_i e hu
      cases hS : szQ P e with
      | none => simp [hS] at hq
      | some n =>
      cases hz : zeroQ P e with
      | none => simp [hS, hz] at hq
      | some z =>
      simp only [hS, hz, Option.bind_some] at hq
      split at hq
      · cases hq
      · rename_i hc
        cases hf : Instr.fill (fun i => some (i * n, n)) (zerosL z.cells.toList len).toArray (parts.toList.map fun (i, x) => (i, η x)) with
        | none => simp [hf] at hq
        | some cs =>
        cases ha : h.alloc (Blk.of cs.toList e false) with
        | none => simp [hf, ha] at hq
        | some q =>
          obtain ⟨i, hp⟩ := q
          simp only [hf, Option.bind_some, ha, Option.map_some, Option.some.injEq, Prod.mk.injEq] at hq
          obtain ⟨rfl, rfl⟩ := hq
          refine ⟨_, fun i => .slice (some ⟨i, 0, none⟩) len len, i, ?_, ha, rfl⟩
          simp only [hu, hS, hz, Option.bind_some, if_neg hc, hf, Option.map_some]
    · cases hq
  | _ => cases hm
/-- A maker's block is born; a name that stood for none stands for it. -/
theorem make_ok (W : WR E P B w0 w h) (T : RelE p E η a) {o : Oper} {blk blk' : Blk} {f : Nat → Value} {i : Nat} (hx : o.op.operands.toList.all p = true) (hq : makeQ P η o.op = some (blk, f))
    (hi : h.get i = some blk') (hc : blk'.cells = blk.cells ∧ blk'.elem = blk.elem ∧ blk'.grow = blk.grow) (hn : E.ρ i = none) (hlt : i < h.next) :
    ∃ x w', Rel (E.upd i w.heap.size 0) (f i) x ∧ WR (E.upd i w.heap.size 0) P B w0 w' h ∧ (execOp a.eval o).run P w = .ok (.value x) w' := by
  obtain ⟨dst, op, type, pos, after, guard⟩ := o
  dsimp only at hx hq
  have lift : ∀ (s : Sem Value) (x : Value) (w' : World), s.run P w = .ok x w' → (do pure (.value (← s)) : Sem Next).run P w = .ok (.value x) w' := fun s x w' hs => by simp [hs]
  have hle : E.le (E.upd i w.heap.size 0) := Env.le_upd hn
  have born : ∀ {vs : List Value} {xs : Array Value} {e : TypeId}, blk = Blk.of vs e false → RelL E vs xs.toList → WR (E.upd i w.heap.size 0) P B w0 (w.alloc (.cells xs e)) h := by
    intro vs xs e hb hR
    refine W.born (Hp.get_ob hi) hn hlt ⟨xs, (0, 0), ?_, fun k _ => by simp, ?_, fun _ => ?_, fun hg => ?_⟩
    · rw [hc.2.1, hb]; rfl
    · rw [hc.1, hb, Blk.of_cells]
      have := hR.length
      rw [show xs.toList.take vs.length = xs.toList by rw [this]; exact List.take_length]
      exact hR.mono hle
    · rw [hc.1, hb, Blk.of_cells]; simpa using hR.length.symm
    · rw [hc.2.2, hb] at hg; cases hg
  have hρ : (E.upd i w.heap.size 0).ρ i = some w.heap.size := (Env.upd_same _ _ _ _).1
  cases op with
  | alloc e =>
    simp only [makeQ] at hq
    cases hz : zeroQ P e with
    | none => simp [hz] at hq
    | some z =>
      obtain ⟨z1, z2⟩ := run_zero (w := w) hz
      simp only [hz, Option.map_some, Option.some.injEq, Prod.mk.injEq] at hq
      obtain ⟨rfl, rfl⟩ := hq
      refine ⟨_, _, .ptr i _ 0 hρ, born rfl (RelL.refl_cells z2), lift _ _ _ ?_⟩
      simp [Instr.alloc, z1, newVar, newRow]
  | box e x =>
    simp only [Op.operands, List.all_cons, List.all_nil, Bool.and_true] at hx
    simp only [makeQ, Option.some.injEq, Prod.mk.injEq] at hq
    obtain ⟨rfl, rfl⟩ := hq
    exact ⟨_, _, .ptr i _ 0 hρ, born rfl (ev_rel T hx).cells, lift _ _ _ rfl⟩
  | buildSlice t len parts =>
    have hx' : (parts.toList.map (·.2)).all p = true := by simpa [Op.operands] using hx
    have hv := evs_rel T hx'
    simp only [makeQ] at hq
    split at hq
    · rename_i e hu
      cases hS : szQ P e with
      | none => simp [hS] at hq
      | some n =>
      cases hz : zeroQ P e with
      | none => simp [hS, hz] at hq
      | some z =>
      simp only [hS, hz, Option.bind_some] at hq
      split at hq
      · cases hq
      · rename_i hl
        simp only [Bool.or_eq_true, decide_eq_true_eq, not_or] at hl
        have hzs : z.cells.size = n := by simpa using hl.1.2
        obtain ⟨z1, z2⟩ := run_zero (w := w) hz
        cases hf : Instr.fill (fun i => some (i * n, n)) (zerosL z.cells.toList len).toArray (parts.toList.map fun (i, x) => (i, η x)) with
        | none => simp [hf] at hq
        | some cs =>
          simp only [hf, Option.map_some, Option.some.injEq, Prod.mk.injEq] at hq
          obtain ⟨rfl, rfl⟩ := hq
          obtain ⟨cs', k1, k2⟩ := fill_ok (E := E) (ps' := parts.toList.map fun (i, x) => (i, a.eval x)) (cs' := (zerosL z.cells.toList len).toArray) (by simp [Function.comp_def]) (by simpa [Function.comp_def] using hv) (by simpa using (RelL.refl_cells z2).zeros len) hf
          refine ⟨_, _, .slice i _ 0 len len len hρ (Nat.le_refl _) (fun _ => rfl) (fun hg => ?_), born rfl k2, lift _ _ _ (buildSlice_ok hu hS hz hl.1.1 hzs (by simpa using k1))⟩
          have h1 : len ≤ 2 ^ 24 := Nat.le_of_not_lt hl.2
          have h2 : (2 : Nat) ^ 24 < capG := by decide
          omega
    · cases hq
  | _ => cases hq
end make

section congr
variable {P : Program} {h h' : Hp} {η η' : Operand → Value}
theorem map_congr {xs : List Operand} (hη : ∀ x ∈ xs, η x = η' x) : xs.map η = xs.map η' := List.map_congr_left hη
theorem amap_congr {xs : Array Operand} (hη : ∀ x ∈ xs.toList, η x = η' x) : xs.map η = xs.map η' := by
  apply Array.toList_inj.1
  simpa using map_congr hη
theorem omap_congr {x : Option Operand} (hη : ∀ y ∈ x.toArray.toList, η y = η' y) : x.map η = x.map η' := by
  cases x with
  | none => rfl
  | some y => rw [Option.map_some, Option.map_some, hη y (by simp)]
theorem pmap_congr {ps : List (Nat × Operand)} (hη : ∀ x ∈ ps.map (·.2), η x = η' x) : (ps.map fun (i, x) => (i, η x)) = ps.map fun (i, x) => (i, η' x) := by
  apply List.map_congr_left
  intro q hq
  show (q.1, η q.2) = (q.1, η' q.2)
  rw [hη q.2 (List.mem_map.2 ⟨q, hq, rfl⟩)]
theorem makeQ_congr {o : Op} (hη : ∀ x ∈ o.operands.toList, η x = η' x) : makeQ P η o = makeQ P η' o := by
  cases o with
  | box e x => simp only [makeQ, hη x (by simp [Op.operands])]
  | buildSlice t len parts => simp only [makeQ, pmap_congr (η := η) (η' := η') (ps := parts.toList) (fun x hx => hη x (by simpa [Op.operands] using hx))]
  | _ => rfl
theorem opQ_congr {o : Op} (hη : ∀ x ∈ o.operands.toList, η x = η' x) : opQ P h η o = opQ P h η' o := by
  cases o with
  | move x | assign x | load t x | nilCheck x | unOp op t x | convert s t x | sliceToArrayPointer t x | fieldAddr t x f | field t x f | extract x i => simp only [opQ, hη x (by simp [Op.operands])]
  | pick c x y => simp only [opQ, hη c (by simp [Op.operands]), hη x (by simp [Op.operands]), hη y (by simp [Op.operands])]
  | binOp op t x y yt => simp only [opQ, hη x (by simp [Op.operands]), hη y (by simp [Op.operands])]
  | indexAddr t x y | index t x y | lookup t x y ok => simp only [opQ, hη x (by simp [Op.operands]), hη y (by simp [Op.operands])]
  | makeFunc f xs ys => 
    have h1 : xs.map η = xs.map η' := amap_congr fun x hx => hη x (by simp [Op.operands] at hx ⊢; exact .inl hx)
    have h2 : ys.map η = ys.map η' := amap_congr fun x hx => hη x (by simp [Op.operands] at hx ⊢; exact .inr hx)
    cases f <;> simp only [opQ, h1, h2]
  | slice t x lo hi mx =>
    have h1 : lo.map η = lo.map η' := omap_congr fun x hx => hη x (by simp [Op.operands] at hx ⊢; simp [hx])
    have h2 : hi.map η = hi.map η' := omap_congr fun x hx => hη x (by simp [Op.operands] at hx ⊢; simp [hx])
    have h3 : mx.map η = mx.map η' := omap_congr fun x hx => hη x (by simp [Op.operands] at hx ⊢; simp [hx])
    simp only [opQ, hη x (by simp [Op.operands]), h1, h2, h3]
  | build t parts => simp only [opQ, pmap_congr (η := η) (η' := η') (ps := parts.toList) (fun x hx => hη x (by simpa [Op.operands] using hx))]
  | call c =>
    obtain ⟨callee, args, ats⟩ := c
    cases callee with
    | value f => rfl
    | invoke r m => rfl
    | builtin b =>
      have hA : ∀ x ∈ args.toList, η x = η' x := fun x hx => hη x (by simpa [Op.operands, Call.operands] using hx)
      generalize hl : args.toList = l at hA
      cases b <;> first
        | rfl
        | (simp only [opQ, hl]
           match l, hA with
           | [], _ => rfl
           | [x], hA =>
             have e := hA x (by simp)
             first
               | rfl
               | simp only [e]
               | (cases ats[0]? <;> first | rfl | simp only [e])
           | [x, y], hA => first | rfl | simp only [hA x (by simp), hA y (by simp)]
           | _ :: _ :: _ :: _, _ => rfl)
  | _ => rfl
theorem opQ_heap {o : Op} (hr : readB o = false) : opQ P h η o = opQ P h' η o := by
  cases o with
  | load | convert | lookup => cases hr
  | call c =>
    obtain ⟨callee, args, ats⟩ := c
    cases callee with
    | builtin b => cases b <;> rfl
    | _ => rfl
  | makeFunc f xs ys => cases f <;> rfl
  | _ => rfl
end congr
end Go.Proofs.YtlagmjdifilheaaGreat.Exe
