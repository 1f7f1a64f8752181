/- All operations that make or write memory. No condition. -/
import Derived.Test.YtlagmjdifilheaaGreatExK
namespace Go.Proofs.YtlagmjdifilheaaGreat.Exe
open Go Go.RowKit
section all
variable {E : Env} {P : Program} {B : Nat → Prop} {w0 w : World} {h : Hp} {η : Operand → Value} {p : Operand → Bool} {a : Act}
theorem run_stringToBytes {e : TypeId} {s : ByteArray} : ∃ c, s.size ≤ c ∧ (Conv.stringToBytes e s).run P w = .ok (.slice (some ⟨w.heap.size, 0, none⟩) s.size c) (w.drew.alloc (.cells ((s.data.map fun b : UInt8 => Value.int .u8 b.toNat) ++ Array.replicate (c - s.size) (Value.int .u8 0)) e (c, c + 1))) := by
  refine ⟨Question.cut (.appendCap s.size 0 e) (w.tape w.drawn (.appendCap s.size 0 e)), by simp [Question.cut], ?_⟩
  have hle : s.size ≤ Question.cut (.appendCap s.size 0 e) (w.tape w.drawn (.appendCap s.size 0 e)) := by simp [Question.cut]
  have hq : (choose (.appendCap s.size 0 e)).run P w = .ok (Question.cut (.appendCap s.size 0 e) (w.tape w.drawn (.appendCap s.size 0 e))) w.drew := by
    rw [run_choose]; rfl
  generalize Question.cut (.appendCap s.size 0 e) (w.tape w.drawn (.appendCap s.size 0 e)) = c at hq hle ⊢
  have hsz : ((s.data.map fun b : UInt8 => Value.int .u8 b.toNat) ++ Array.replicate (c - s.size) (Value.int .u8 0)).size = c := by
    have : s.data.size = s.size := rfl
    simp [this]
    omega
  obtain ⟨arr, harr⟩ : ∃ arr, arr = (s.data.map fun b : UInt8 => Value.int .u8 b.toNat) ++ Array.replicate (c - s.size) (Value.int .u8 0) := ⟨_, rfl⟩
  rw [← harr] at hsz ⊢
  have hnew : (newRow e arr).run P w.drew = .ok ⟨w.heap.size, 0, none⟩ (w.drew.alloc (.cells arr e)) := rfl
  have hmark : (markStringish ⟨w.heap.size, 0, none⟩).run P (w.drew.alloc (.cells arr e)) = .ok () (w.drew.alloc (.cells arr e (c, c + 1))) := by
    have hsh : (w.drew.alloc (.cells arr e)).shape? w.heap.size = some (e, c) := by
      have h1 : (w.drew.alloc (.cells arr e)).heap[w.heap.size]? = some (.cells arr e (0, 0)) := World.alloc_heap_new w.drew _
      unfold World.shape?
      rw [h1]
      simp [hsz]
    simp only [markStringish, Sem.run_bind, run_shape, Result.andThen_ok, hsh, run_freeze]
    congr 1
    unfold World.freeze World.alloc
    simp only [Nat.one_ne_zero, if_false]
    congr 1
    apply Array.ext_getElem?
    intro k
    rw [Array.getElem?_modify, Array.getElem?_push, Array.getElem?_push]
    have hd : w.drew.heap = w.heap := rfl
    rw [hd]
    by_cases hk : k = w.heap.size
    · subst hk; simp
    · have hk' : ¬ w.heap.size = k := fun e => hk e.symm
      simp [hk, hk']
  simp only [Conv.stringToBytes, Sem.run_bind, hq, Result.andThen_ok, ← harr, hnew, hmark, Sem.run_pure]
theorem opL_ok (W : WR E P B w0 w h) (T : RelE p E η a) {o : Oper} {v : Value} {h' : Hp} (hx : o.op.operands.toList.all p = true) (hq : opL P h η o.op = some (v, h')) :
    ∃ E' x w', Grow E h E' h' ∧ Rel E' v x ∧ WR E' P B w0 w' h' ∧ ((execOp a.eval o).run P w = .ok (.value x) w' ∨ ((execOp a.eval o).run P w = .ok .skip w' ∧ x = undef)) := by
  obtain ⟨dst, op, type, pos, after, guard⟩ := o
  dsimp only at hx hq
  have lift : ∀ (s : Sem Value) (x : Value) (w' : World), s.run P w = .ok x w' → (do pure (.value (← s)) : Sem Next).run P w = .ok (.value x) w' := fun s x w' hs => by simp [hs]
  have liftU : ∀ (s : Sem Unit) (w' : World), s.run P w = .ok () w' → (do s; pure .skip : Sem Next).run P w = .ok .skip w' := fun s w' hs => by simp [hs]
  cases op with
  | alloc e =>
    simp only [opL] at hq
    cases hz : zeroQ P e with
    | none => simp [hz] at hq
    | some z =>
      obtain ⟨z1, z2⟩ := run_zero (w := w) hz
      cases ha : h.alloc (Blk.of z.cells.toList e false) with
      | none => simp [hz, ha] at hq
      | some p =>
        obtain ⟨i, hp⟩ := p
        simp only [hz, Option.bind_some, ha, Option.map_some, Option.some.injEq, Prod.mk.injEq] at hq
        obtain ⟨rfl, rfl⟩ := hq
        obtain ⟨E', e1, e2, e3⟩ := alloc_row W ha (RelL.refl_cells z2)
        refine ⟨E', _, _, e1, .ptr i _ 0 e2, e3, .inl (lift _ _ _ ?_)⟩
        simp [Instr.alloc, z1, newVar, newRow]
  | box e x =>
    simp only [Op.operands, List.all_cons, List.all_nil, Bool.and_true] at hx
    simp only [opL] at hq
    cases ha : h.alloc (Blk.of (η x).cells.toList e false) with
    | none => simp [ha] at hq
    | some p =>
      obtain ⟨i, hp⟩ := p
      simp only [ha, Option.map_some, Option.some.injEq, Prod.mk.injEq] at hq
      obtain ⟨rfl, rfl⟩ := hq
      obtain ⟨E', e1, e2, e3⟩ := alloc_row W ha (ev_rel T hx).cells
      exact ⟨E', _, _, e1, .ptr i _ 0 e2, e3, .inl (lift _ _ _ rfl)⟩
  | buildSlice t len parts =>
    have hx' : (parts.toList.map (·.2)).all p = true := by simpa [Op.operands] using hx
    have hv := evs_rel T hx'
    simp only [opL] at hq
    split at hq
    · rename_i e hu
      cases hS : szQ P e with
      | none => simp [hS] at hq
      | some n =>
      cases hz : zeroQ P e with
      | none => simp [hS, hz] at hq
      | some z =>
      simp only [hS, hz, Option.bind_some] at hq
      split at hq
      · cases hq
      · rename_i hc
        simp only [Bool.or_eq_true, decide_eq_true_eq, not_or] at hc
        have hzs : z.cells.size = n := by simpa using hc.1.2
        obtain ⟨z1, z2⟩ := run_zero (w := w) hz
        cases hf : Instr.fill (fun i => some (i * n, n)) (zerosL z.cells.toList len).toArray (parts.toList.map fun (i, x) => (i, η x)) with
        | none => simp [hf] at hq
        | some cs =>
        cases ha : h.alloc (Blk.of cs.toList e false) with
        | none => simp [hf, ha] at hq
        | some p =>
          obtain ⟨i, hp⟩ := p
          simp only [hf, Option.bind_some, ha, Option.map_some, Option.some.injEq, Prod.mk.injEq] at hq
          obtain ⟨rfl, rfl⟩ := hq
          obtain ⟨cs', k1, k2⟩ := fill_ok (E := E) (ps' := parts.toList.map fun (i, x) => (i, a.eval x)) (cs' := (zerosL z.cells.toList len).toArray) (by simp [Function.comp_def]) (by simpa [Function.comp_def] using hv) (by simpa using (RelL.refl_cells z2).zeros len) hf
          obtain ⟨E', e1, e2, e3⟩ := alloc_row W ha k2
          refine ⟨E', _, _, e1, .slice i _ 0 len len len e2 (Nat.le_refl _) (fun _ => rfl) (fun hg => ?_), e3, .inl (lift _ _ _ (buildSlice_ok hu hS hz hc.1.1 hzs (by simpa using k1)))⟩
          have h1 : len ≤ 2 ^ 24 := Nat.le_of_not_lt hc.2
          have h2 : (2 : Nat) ^ 24 < capG := by decide
          omega
    · cases hq
  | store t x y =>
    simp only [Op.operands, List.all_cons, List.all_nil, Bool.and_true, Bool.and_eq_true] at hx
    simp only [opL] at hq
    cases hs : storeL P h t (η x) (η y) with
    | none => simp [hs] at hq
    | some hp =>
      simp only [hs, Option.map_some, Option.some.injEq, Prod.mk.injEq] at hq
      obtain ⟨rfl, rfl⟩ := hq
      obtain ⟨w', k1, k2⟩ := opStore_ok W hs (ev_rel T hx.1) (ev_rel T hx.2)
      exact ⟨E, _, w', Grow.same (storeL_next hs), Rel.undef, k2, .inr ⟨liftU _ _ k1, rfl⟩⟩
  | mapUpdate t m k x =>
    simp only [Op.operands, List.all_cons, List.all_nil, Bool.and_true, Bool.and_eq_true] at hx
    simp only [opL] at hq
    cases hs : updateL P h t (η m) (η k) (η x) with
    | none => simp [hs] at hq
    | some hp =>
      simp only [hs, Option.map_some, Option.some.injEq, Prod.mk.injEq] at hq
      obtain ⟨rfl, rfl⟩ := hq
      obtain ⟨w', k1, k2⟩ := opUpdate_ok W hs (ev_rel T hx.1) (ev_rel T hx.2.1) (ev_rel T hx.2.2)
      exact ⟨E, _, w', Grow.same (updateL_next hs), Rel.undef, k2, .inr ⟨liftU _ _ k1, rfl⟩⟩
  | insert t m k x =>
    simp only [Op.operands, List.all_cons, List.all_nil, Bool.and_true, Bool.and_eq_true] at hx
    simp only [opL] at hq
    cases hs : updateL P h t (η m) (η k) (η x) with
    | none => simp [hs] at hq
    | some hp =>
      simp only [hs, Option.map_some, Option.some.injEq, Prod.mk.injEq] at hq
      obtain ⟨rfl, rfl⟩ := hq
      obtain ⟨w', k1, k2⟩ := opUpdate_ok W hs (ev_rel T hx.1) (ev_rel T hx.2.1) (ev_rel T hx.2.2)
      exact ⟨E, _, w', Grow.same (updateL_next hs), Rel.undef, k2, .inr ⟨liftU _ _ k1, rfl⟩⟩
  | makeMap t r =>
    cases r with
    | some r => cases hq
    | none =>
      simp only [opL] at hq
      cases ha : h.allocOb (.map [] 0) with
      | none => simp [ha] at hq
      | some p =>
        obtain ⟨i, hp⟩ := p
        simp only [ha, Option.map_some, Option.some.injEq, Prod.mk.injEq] at hq
        obtain ⟨rfl, rfl⟩ := hq
        obtain ⟨k1, k2, k3⟩ := W.alloc (o := .map #[] 0) (c := 0) ha ⟨#[], rfl, rfl, fun k e e' h1 => by simp at h1⟩
        refine ⟨_, .map (some w.heap.size), _, Grow.upd (allocOb_some ha).1 (allocOb_next ha) (by rw [(allocOb_some ha).1]; exact W.fresh _ (Nat.le_refl _)), .map i _ k3, k1, .inl (lift _ _ _ ?_)⟩
        simp [Instr.makeMap]
  | makeSlice t l c =>
    simp only [Op.operands, List.all_cons, List.all_nil, Bool.and_true, Bool.and_eq_true] at hx
    simp only [opL] at hq
    split at hq
    · rename_i e k n k' m hu hn hm
      have h1 := ev_rel T hx.1
      have h2 := ev_rel T hx.2
      rw [hn] at h1
      rw [hm] at h2
      have h1 := h1.of_int
      have h2 := h2.of_int
      cases hS : szQ P e with
      | none => simp [hS] at hq
      | some z =>
      cases hz : zeroQ P e with
      | none => simp [hS, hz] at hq
      | some v0 =>
      simp only [hS, hz, Option.bind_some] at hq
      obtain ⟨z1, z2⟩ := run_zero (w := w) hz
      split at hq
      · rename_i hc
        cases ha : h.alloc (Blk.of (zerosL v0.cells.toList m.toNat) e false) with
        | none => simp [ha] at hq
        | some p =>
          obtain ⟨i, hp⟩ := p
          simp only [ha, Option.map_some, Option.some.injEq, Prod.mk.injEq] at hq
          obtain ⟨rfl, rfl⟩ := hq
          obtain ⟨E', e1, e2, e3⟩ := alloc_row W (xs := (zerosL v0.cells.toList m.toNat).toArray) ha (by simpa using (RelL.refl_cells z2).zeros m.toNat)
          have hmG : m.toNat < capG := by
            have : m.toNat ≤ 2 ^ 20 := by omega
            have : (2 : Nat) ^ 20 < capG := by decide
            omega
          refine ⟨E', _, _, e1, .slice i _ 0 n.toNat m.toNat m.toNat e2 (by omega) (fun _ => rfl) (fun hg => by omega), e3, .inl (lift _ _ _ ?_)⟩
          rw [h1, h2]
          exact makeSlice_ok hu hS hz hc
      · cases hq
    · cases hq
  | convert src dst x =>
    simp only [Op.operands, List.all_cons, List.all_nil, Bool.and_true] at hx
    simp only [opL] at hq
    split at hq
    · rename_i e s hs hd he
      have hr := ev_rel T hx
      rw [he] at hr
      have hr := hr.of_string
      split at hq
      · rename_i hu8
        split at hq
        · rename_i hc
          cases ha : h.alloc (Blk.of (s.data.toList.map fun b => .int .u8 b.toNat) e true) with
          | none => simp [ha] at hq
          | some p =>
            obtain ⟨i, hp⟩ := p
            simp only [ha, Option.map_some, Option.some.injEq, Prod.mk.injEq] at hq
            obtain ⟨rfl, rfl⟩ := hq
            obtain ⟨info, hinfo, hisz⟩ : ∃ i, P.info? e = some i ∧ i.size = 1 := by
              have hz := hc.2
              unfold szQ at hz
              cases hi : P.info? e with
              | none => simp [hi] at hz
              | some i => exact ⟨i, rfl, by simpa [hi] using hz⟩
            obtain ⟨c, c1, c2⟩ := run_stringToBytes (P := P) (w := w) (e := e) (s := s)
            have hds : s.data.size = s.size := rfl
            obtain ⟨E', e1, e2, e3, e4⟩ := alloc_grow W.drew (xs := (s.data.map fun b : UInt8 => Value.int .u8 b.toNat) ++ Array.replicate (c - s.size) (Value.int .u8 0)) (fr := (c, c + 1)) (c := c) hinfo ha (Blk.of_cells _ _ _) rfl rfl (by
              have : ((s.data.map fun b : UInt8 => Value.int .u8 b.toNat) ++ Array.replicate (c - s.size) (Value.int .u8 0)).toList.take (s.data.toList.map fun b : UInt8 => Value.int .u8 b.toNat).length = s.data.toList.map fun b : UInt8 => Value.int .u8 b.toNat := by
                rw [Array.toList_append, Array.toList_map, List.take_left]
              show RelL E (s.data.toList.map fun b : UInt8 => Value.int .u8 b.toNat) (((s.data.map fun b : UInt8 => Value.int .u8 b.toNat) ++ Array.replicate (c - s.size) (Value.int .u8 0)).toList.take (s.data.toList.map fun b : UInt8 => Value.int .u8 b.toNat).length)
              rw [this]
              exact RelL.refl_leaf (List.all_eq_true.2 fun x hx => by obtain ⟨b, _, rfl⟩ := List.mem_map.1 hx; rfl)) (by simp [hds, hisz]; omega) (fun k hk => by simp [hds] at hk; omega)
            refine ⟨E', _, _, e1, .slice i _ 0 s.size capG c e2 c1 (fun hc => by simp at hc) (fun _ => ⟨rfl, e3.symm⟩), e4, .inl (lift _ _ _ ?_)⟩
            rw [hr]
            have : (convert src dst (.string s)).run P w = (Conv.stringToBytes e s).run P w := by
              simp [convert, run_und hs, run_und hd, run_und hu8]
            rw [this]
            exact c2
        · cases hq
      · cases hq
    · cases hq
  | call c =>
    obtain ⟨callee, args, argTypes⟩ := c
    cases callee with
    | value f => cases hq
    | invoke f m => cases hq
    | builtin b =>
      have hargs : args.toList.all p = true := by simpa [Op.operands, Call.operands] using hx
      have run : ∀ (s : Sem Value) (x : Value) (w' : World), (∀ (cs : Array Bool), builtin b argTypes type cs (args.map a.eval) = (do pure (.value (← s)))) → s.run P w = .ok x w' → (execOp a.eval ⟨dst, .call ⟨.builtin b, args, argTypes⟩, type, pos, after, guard⟩).run P w = .ok (.value x) w' := by
        intro s x w' h1 h2
        simp [execOp, resolve, invoke, h1, h2]
      cases b with
      | append =>
        simp only [opL] at hq
        split at hq
        · rename_i s x ts tx ha ht
          rw [ha] at hargs
          simp only [List.all_cons, List.all_nil, Bool.and_true, Bool.and_eq_true] at hargs
          have hr1 := ev_rel T hargs.1
          have hr2 := ev_rel T hargs.2
          have ha' : args.map a.eval = #[a.eval s, a.eval x] := by apply Array.toList_inj.1; simp [ha]
          have ht' : argTypes = #[ts, tx] := by apply Array.toList_inj.1; simp [ht]
          have fin : ∀ E' y w', Grow E h E' h' → Rel E' v y → WR E' P B w0 w' h' → (Builtin.append_ #[ts, tx] type #[a.eval s, a.eval x]).run P w = .ok y w' → ∃ E' x w', Grow E h E' h' ∧ Rel E' v x ∧ WR E' P B w0 w' h' ∧ ((execOp a.eval ⟨dst, .call ⟨.builtin .append, args, argTypes⟩, type, pos, after, guard⟩).run P w = .ok (.value x) w' ∨ ((execOp a.eval ⟨dst, .call ⟨.builtin .append, args, argTypes⟩, type, pos, after, guard⟩).run P w = .ok .skip w' ∧ x = undef)) := by
            intro E' y w' k1 k2 k3 k4
            refine ⟨E', y, w', k1, k2, k3, .inl (run _ _ _ (fun _ => rfl) ?_)⟩
            rw [ha', ht']
            exact k4
          have listy : ∀ e base len cap d, P.underlying ts = some (.slice e) → P.underlying tx = some d → (∀ k, d ≠ .int k) → η s = .slice base len cap →
              ((szQ P e).bind fun z => (lenQ (η x)).bind fun n => (firstQ h z n (η x)).bind fun new => appendL P h e base len cap new n) = some (v, h') →
              ∃ E' x w', Grow E h E' h' ∧ Rel E' v x ∧ WR E' P B w0 w' h' ∧ ((execOp a.eval ⟨dst, .call ⟨.builtin .append, args, argTypes⟩, type, pos, after, guard⟩).run P w = .ok (.value x) w' ∨ ((execOp a.eval ⟨dst, .call ⟨.builtin .append, args, argTypes⟩, type, pos, after, guard⟩).run P w = .ok .skip w' ∧ x = undef)) := by
            intro e base len cap d hu1 hu2 hd he hq
            cases hS : szQ P e with
            | none => simp [hS] at hq
            | some z =>
            cases hL : lenQ (η x) with
            | none => simp [hS, hL] at hq
            | some n =>
            cases hF : firstQ h z n (η x) with
            | none => simp [hS, hL, hF] at hq
            | some new =>
            simp only [hS, hL, hF, Option.bind_some] at hq
            rw [he] at hr1
            obtain ⟨E', y, w', k1, k2, k3, k4⟩ := appendL_ok (ty := type) W (app_list hu1 hu2 hd hS (lenQ_ok hL hr2)) hS hq hr1 (fun w1 W1 => by
              obtain ⟨xs, q1, q2⟩ := firstQ_ok W1 hF hr2
              exact ⟨xs.toArray, by simpa using q1, q2⟩)
            exact fin E' y w' k1 k2 k3 k4
          split at hq
          · rename_i e d base len cap hu1 hu2 he
            exact listy e base len cap _ hu1 hu2 (fun k e => by cases e) he hq
          · rename_i e j base len cap hu1 hu2 he
            split at hq
            · rename_i k m hm
              split at hq
              · rename_i hc
                cases hzv : zeroQ P e with
                | none => simp [hzv] at hq
                | some z0 =>
                simp only [hzv, Option.bind_some] at hq
                rw [he] at hr1
                rw [hm] at hr2
                have hr2 := hr2.of_int
                obtain ⟨z1, z2⟩ := run_zero (w := w) hzv
                have hq0 := hq
                unfold appendL at hq0
                cases hS : szQ P e with
                | none => simp [hS] at hq0
                | some z =>
                cases hbs : bytesQ P e with
                | none => simp [hS, hbs] at hq0
                | some bs =>
                simp only [hS, hbs, hzv, Option.bind_some] at hq0
                split at hq0
                · cases hq0
                · rename_i hcc
                  simp only [Bool.or_eq_true, decide_eq_true_eq, Bool.not_eq_true', not_or, Bool.not_eq_false, Nat.not_lt] at hcc
                  have hbb : bs ≤ 2 ^ 20 := hcc.2
                  have hzs : z0.cells.size = z := by simpa using hcc.1.1.1.1.1.2
                  obtain ⟨E', y, w', k1, k2, k3, k4⟩ := appendL_ok (ty := type) W (app_zeros (k := k) hu1 hu2 hS hc hbs hbb hzv) hS hq hr1 (fun w1 _ => by
                    refine ⟨_, ?_, rfl⟩
                    have hz1 := zerosL_eq (zs := z0.cells) (n := z) hzs m.toNat
                    by_cases h0 : m.toNat * z = 0
                    · rw [if_pos h0]
                      rw [← hz1, h0]
                      trivial
                    · rw [if_neg h0]
                      have : (Builtin.zeroCells z0.cells m.toNat).toList = zerosL z0.cells.toList m.toNat := by
                        rw [← hz1]
                        simp [Builtin.zeroCells, hzs]
                      rw [this]
                      exact (RelL.refl_cells z2).zeros _)
                  exact fin E' y w' k1 k2 k3 (by rw [hr2]; exact k4)
              · cases hq
            · cases hq
          · rename_i e base len cap hu1 hu2 he
            exact listy e base len cap _ hu1 hu2 (fun k e => by cases e) he hq
          · cases hq
        · cases hq
      | copy =>
        simp only [opL] at hq
        split at hq
        · rename_i d s t ha ht
          rw [ha] at hargs
          simp only [List.all_cons, List.all_nil, Bool.and_true, Bool.and_eq_true] at hargs
          have hr1 := ev_rel T hargs.1
          have hr2 := ev_rel T hargs.2
          have ha' : args.map a.eval = #[a.eval d, a.eval s] := by apply Array.toList_inj.1; simp [ha]
          split at hq
          · rename_i e base len cap hu he
            cases hS : szQ P e with
            | none => simp [hS] at hq
            | some z =>
            cases hL : lenQ (η s) with
            | none => simp [hS, hL] at hq
            | some m =>
            simp only [hS, hL, Option.bind_some] at hq
            cases hF : firstQ h z (min m len) (η s) with
            | none => simp [hF] at hq
            | some cs =>
            simp only [hF, Option.bind_some] at hq
            obtain ⟨xs, q1, q2⟩ := firstQ_ok W hF hr2
            have hmin : Nat.min m len = min m len := rfl
            rw [he] at hr1
            split at hq
            · cases hq
              obtain ⟨a', cap', h1, h2, _⟩ := hr1.to_slice'
              obtain ⟨rfl, _⟩ := h2 rfl
              refine ⟨E, _, w, Grow.refl _ _, .leaf _ rfl, W, .inl (run _ _ _ (fun _ => rfl) ?_)⟩
              simp [Builtin.copy_, ht, ha', run_und hu, h1, lenQ_ok hL hr2, run_size hS, hmin, q2]
            · rename_i i off
              obtain ⟨b, cap', hρ, h1, _⟩ := hr1.to_slice
              cases hst : storeCellsL h i off cs with
              | none => simp [hst] at hq
              | some hp =>
                simp only [hst, Option.map_some, Option.some.injEq, Prod.mk.injEq] at hq
                obtain ⟨rfl, rfl⟩ := hq
                obtain ⟨w', s1, s2⟩ := run_stores W hst q1 hρ
                refine ⟨E, _, w', Grow.same (storeCellsL_next hst), .leaf _ rfl, s2, .inl (run _ _ _ (fun _ => rfl) ?_)⟩
                simp [Builtin.copy_, ht, ha', run_und hu, h1, lenQ_ok hL hr2, run_size hS, hmin, q2, s1]
            · cases hq
          · cases hq
        · cases hq
      | unsafeString =>
        simp only [opL] at hq
        split at hq
        · rename_i x y pt it ha ht
          rw [ha] at hargs
          simp only [List.all_cons, List.all_nil, Bool.and_true, Bool.and_eq_true] at hargs
          have hr1 := ev_rel T hargs.1
          have hr2 := ev_rel T hargs.2
          have ha' : args.map a.eval = #[a.eval x, a.eval y] := by apply Array.toList_inj.1; simp [ha]
          have ht' : argTypes = #[pt, it] := by apply Array.toList_inj.1; simp [ht]
          split at hq
          · rename_i e i n hu he1 he2
            rw [he1] at hr1
            rw [he2] at hr2
            obtain ⟨b, hρ, h1⟩ := hr1.to_ptr
            have h2 := hr2.of_leaf rfl
            split at hq
            · rename_i blk hb
              split at hq
              · rename_i hc
                obtain ⟨hc1, hc2, hc3, hc4⟩ := hc
                cases hcs : cellsAt h i 0 n with
                | none => simp [hcs] at hq
                | some cs =>
                cases hbs : bytesX cs with
                | none => simp [hcs, hbs] at hq
                | some bs =>
                  simp only [hcs, hbs, Option.bind_some, Option.map_some, Option.some.injEq, Prod.mk.injEq] at hq
                  obtain ⟨rfl, rfl⟩ := hq
                  obtain ⟨cur, fr, r2, r3, _, r5, _, _⟩ := W.row hb hρ
                  obtain ⟨blk', hb', hle, hcs', hlen⟩ := cellsAt_eq hcs
                  obtain rfl : blk = blk' := Option.some.inj (hb.symm.trans hb')
                  have hbytes := bytesX_cells hbs
                  have hbl : bs.length = n := by
                    have := congrArg List.length hbytes
                    rw [hlen] at this
                    simpa using this.symm
                  have hsz : blk.cells.length ≤ cur.size := by
                    have := r5.length
                    rw [List.length_take] at this
                    simp at this
                    omega
                  have hcell : ∀ (j : Nat) (x : UInt8), bs[j]? = some x → w.cell? ((⟨b, 0, none⟩ : Addr).add j) = some (.int .u8 x.toNat) := by
                    intro j x hj
                    rw [add_none, Nat.zero_add, cell_of r3]
                    have hjn : j < n := by rw [← hbl]; exact (List.getElem?_eq_some_iff.1 hj).1
                    have h3 : blk.cells[j]? = some (.int .u8 x.toNat) := by
                      have h4 : cs[j]? = some (.int .u8 x.toNat) := by rw [hbytes]; simp [hj]
                      rw [hcs', List.drop_zero, List.getElem?_take, if_pos hjn] at h4
                      exact h4
                    obtain ⟨y, hy, hr⟩ := r5.get h3
                    rw [List.getElem?_take] at hy
                    split at hy
                    · rw [hr.of_leaf rfl] at hy
                      simpa using hy
                    · cases hy
                  have hlt : i < roomN := Hp.ob_small (by rw [Hp.get_ob hb]; rfl)
                  refine ⟨E, _, w.freeze ⟨b, 0, none⟩ bs.length, Grow.same rfl, .leaf _ rfl, ?_, .inl (run _ _ _ (fun _ => rfl) ?_)⟩
                  · have Wk := W.kill i hlt
                    refine ⟨Wk.below.freeze r2 _, Wk.base, fun j oj c hj hcj => ?_, Wk.inj, Wk.fresh⟩
                    obtain ⟨o, k1, k2, k3⟩ := Wk.live j oj c hj hcj
                    refine ⟨o, k1, ?_, k3⟩
                    have hne : c ≠ b := fun e => by
                      subst e
                      by_cases hji : j = i
                      · rw [hji, Hp.ob_put_same hlt] at hj; cases hj
                      · rw [Hp.ob_put_other hlt hji] at hj
                        exact hji (W.inj j i c (by rw [hj]; rfl) (by rw [Hp.get_ob hb]; rfl) hcj hρ)
                    unfold World.freeze
                    split
                    · exact k2
                    · show (w.heap.modify b _)[c]? = some o
                      rw [Array.getElem?_modify]
                      have : ¬ b = c := fun e => hne e.symm
                      simp [this, k2]
                  · rw [ha', ht', h1, h2]
                    have hn : (Int.ofNat n) = ((bs.length : Nat) : Int) := by rw [hbl]; rfl
                    rw [hn]
                    exact Lib.run_unsafeString_row w pt it type e hu hc2 b cur.size (by rw [← hc1]; exact shape_cells r3) bs (by intro e0; rw [e0] at hbl; simp at hbl; omega) (by omega) (by omega) hcell
              · cases hq
            · cases hq
          · cases hq
        · cases hq
      | clear =>
        simp only [opL] at hq
        split at hq
        · rename_i s t ha ht
          rw [ha] at hargs
          have hr := ev_rel T (show p s = true by simpa using hargs)
          have ha' : args.map a.eval = #[a.eval s] := by apply Array.toList_inj.1; simp [ha]
          split at hq
          · rename_i e len cap hu he
            cases hq
            rw [he] at hr
            obtain ⟨a', cap', h1, h2, _⟩ := hr.to_slice'
            obtain ⟨rfl, _⟩ := h2 rfl
            refine ⟨E, _, w, Grow.refl _ _, Rel.undef, W, .inl (run _ _ _ (fun _ => rfl) ?_)⟩
            simp [Builtin.clear_, ht, ha', run_und hu, h1]
            rfl
          · rename_i e i off n cap hu he
            rw [he] at hr
            obtain ⟨b, cap', hρ, h1, _⟩ := hr.to_slice
            cases hz : zeroQ P e with
            | none => simp [hz] at hq
            | some z0 =>
            obtain ⟨z1, z2⟩ := run_zero (w := w) hz
            cases hst : storeCellsL h i off (zerosL z0.cells.toList n) with
            | none => simp [hz, hst] at hq
            | some hp =>
              simp only [hz, Option.bind_some, hst, Option.map_some, Option.some.injEq, Prod.mk.injEq] at hq
              obtain ⟨rfl, rfl⟩ := hq
              have hzc : (Builtin.zeroCells z0.cells n).toList = zerosL z0.cells.toList n := by
                rw [← zerosL_eq (zs := z0.cells) rfl n]
                simp [Builtin.zeroCells]
              obtain ⟨w', s1, s2⟩ := run_stores W hst ((RelL.refl_cells z2).zeros n) hρ
              refine ⟨E, _, w', Grow.same (storeCellsL_next hst), Rel.undef, s2, .inl (run _ _ _ (fun _ => rfl) ?_)⟩
              cases n with
              | zero =>
                simp only [zerosL, storeCells, Sem.run_pure, Result.ok.injEq, true_and] at s1
                subst s1
                simp [Builtin.clear_, ht, ha', run_und hu, h1]
                rfl
              | succ n =>
                simp [Builtin.clear_, ht, ha', run_und hu, h1, z1, hzc, s1]
                rfl
          · cases hq
        · cases hq
      | _ => cases hq
  | _ => cases hq
end all
end Go.Proofs.YtlagmjdifilheaaGreat.Exe
