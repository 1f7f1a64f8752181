/- All operations that change nothing. No condition. -/
import Derived.Test.YtlagmjdifilheaaGreatExF
import Derived.Lib.UnsafeStr
namespace Go.Proofs.YtlagmjdifilheaaGreat.Exe
open Go Go.RowKit
section quiet
variable {E : Env} {P : Program} {B : Nat → Prop} {w0 w : World} {h : Hp} {η : Operand → Value} {p : Operand → Bool} {a : Act}
theorem relO_map (T : RelE p E η a) {x : Option Operand} (hx : x.toArray.toList.all p = true) : RelO E (x.map η) (x.map a.eval) := by
  cases x with
  | none => trivial
  | some x => exact ev_rel T (by simpa using hx)
theorem opQ_ok (W : WR E P B w0 w h) (T : RelE p E η a) {o : Oper} {v : Value} (hx : o.op.operands.toList.all p = true) (hq : opQ P h η o.op = some v) :
    ∃ x, Rel E v x ∧ (execOp a.eval o).run P w = .ok (.value x) w := by
  obtain ⟨dst, op, type, pos, after, guard⟩ := o
  dsimp only at hx hq
  have lift : ∀ (s : Sem Value) (x : Value), s.run P w = .ok x w → (do pure (.value (← s)) : Sem Next).run P w = .ok (.value x) w := fun s x hs => by simp [hs]
  cases op with
  | move x =>
    cases hq
    exact ⟨_, ev_rel T (by simpa [Op.operands] using hx), rfl⟩
  | assign x =>
    cases hq
    exact ⟨_, ev_rel T (by simpa [Op.operands] using hx), rfl⟩
  | pick c x y =>
    simp only [Op.operands, List.all_cons, List.all_nil, Bool.and_true, Bool.and_eq_true] at hx
    obtain ⟨hc, hx, hy⟩ := hx
    simp only [opQ] at hq
    split at hq
    · rename_i t he
      cases hq
      have hb := ev_rel T hc
      rw [he] at hb
      have hb := hb.of_bool
      cases t with
      | true => exact ⟨_, ev_rel T hx, by simp [execOp, hb, asBool]⟩
      | false => exact ⟨_, ev_rel T hy, by simp [execOp, hb, asBool]⟩
    · cases hq
  | load t x =>
    simp only [Op.operands, List.all_cons, List.all_nil, Bool.and_true] at hx
    obtain ⟨y, h1, h2⟩ := loadQ_ok W (show loadQ P h t (η x) = some v from hq) (ev_rel T hx)
    exact ⟨y, h1, lift _ _ h2⟩
  | nilCheck x =>
    simp only [Op.operands, List.all_cons, List.all_nil, Bool.and_true] at hx
    have hr := ev_rel T hx
    simp only [opQ] at hq
    split at hq
    · rename_i p he
      cases hq
      rw [he] at hr
      obtain ⟨i, b, h1, h2, h3⟩ := hr.to_ptr'
      refine ⟨_, hr, ?_⟩
      simp [execOp, h3]
    · rename_i f xs ys he
      cases hq
      rw [he] at hr
      obtain ⟨xs', ys', h3, _, _⟩ := hr.to_func
      refine ⟨_, hr, ?_⟩
      simp [execOp, h3]
    · cases hq
  | binOp op t x y ty =>
    simp only [Op.operands, List.all_cons, List.all_nil, Bool.and_true, Bool.and_eq_true] at hx
    obtain ⟨z, h1, h2⟩ := binP_ok (w := w) (show binP P op t x y (η x) (η y) = some v from hq) (ev_rel T hx.1) (ev_rel T hx.2)
    exact ⟨z, h1, lift _ _ h2⟩
  | unOp op t x =>
    simp only [Op.operands, List.all_cons, List.all_nil, Bool.and_true] at hx
    simp only [opQ] at hq
    split at hq
    · rename_i hl
      obtain ⟨h1, h2⟩ := bind_leaf hq
      have he := (ev_rel T hx).of_leaf hl
      refine ⟨v, .leaf _ h2, lift _ _ ?_⟩
      rw [he]
      exact pureRun_run h1
    · cases hq
  | convert src dst x =>
    simp only [Op.operands, List.all_cons, List.all_nil, Bool.and_true] at hx
    obtain ⟨z, h1, h2⟩ := convP_ok W (show convP P h src dst (η x) = some v from hq) (ev_rel T hx)
    exact ⟨z, h1, lift _ _ h2⟩
  | sliceToArrayPointer t x =>
    simp only [Op.operands, List.all_cons, List.all_nil, Bool.and_true] at hx
    have hr := ev_rel T hx
    simp only [opQ] at hq
    split at hq
    · rename_i n e p len cap hu he
      rw [he] at hr
      obtain ⟨a', cap', h1, _, hs⟩ := hr.to_slice'
      obtain ⟨i, b, hρ, h2, rfl, _⟩ := hs _ rfl
      split at hq
      · rename_i hn
        cases hq
        refine ⟨.pointer (some ⟨b, p.off, none⟩), h2 ▸ .ptr i b _ hρ, lift _ _ ?_⟩
        rw [h1]
        exact run_arrayAt _ _ _ _ _ _ _ hu hn
      · cases hq
    · cases hq
  | makeFunc fn first captured =>
    cases fn with
    | func f =>
      cases hq
      simp only [Op.operands, Array.toList_append, List.all_append, Bool.and_eq_true] at hx
      refine ⟨.func (.func f) (first.map a.eval) (captured.map a.eval), relL_func ?_ ?_, rfl⟩
      · simpa using evs_rel T hx.1
      · simpa using evs_rel T hx.2
    | _ => cases hq
  | slice t x lo hi mx =>
    simp only [Op.operands, Array.toList_append, List.all_append, Bool.and_eq_true, List.all_cons, List.all_nil, Bool.and_true] at hx
    obtain ⟨⟨⟨hx, hl⟩, hh⟩, hm⟩ := hx
    obtain ⟨y, h1, h2⟩ := sliceQ_ok (w := w) (show sliceQ P t (η x) (lo.map η) (hi.map η) (mx.map η) = some v from hq) (ev_rel T hx) (relO_map T hm) (relO_map T hh) (relO_map T hl)
    exact ⟨y, h1, lift _ _ h2⟩
  | fieldAddr s x f =>
    simp only [Op.operands, List.all_cons, List.all_nil, Bool.and_true] at hx
    obtain ⟨y, h1, h2⟩ := fieldAddrQ_ok (w := w) (show fieldAddrQ P s (η x) f = some v from hq) (ev_rel T hx)
    exact ⟨y, h1, lift _ _ h2⟩
  | field t x f =>
    simp only [Op.operands, List.all_cons, List.all_nil, Bool.and_true] at hx
    obtain ⟨y, h1, h2⟩ := fieldQ_ok (w := w) (show fieldQ P t (η x) f = some v from hq) (ev_rel T hx)
    exact ⟨y, h1, lift _ _ h2⟩
  | indexAddr t x i =>
    simp only [Op.operands, List.all_cons, List.all_nil, Bool.and_true, Bool.and_eq_true] at hx
    obtain ⟨y, h1, h2⟩ := indexAddrQ_ok (w := w) (show indexAddrQ P t (η x) (η i) = some v from hq) (ev_rel T hx.1) (ev_rel T hx.2)
    exact ⟨y, h1, lift _ _ h2⟩
  | index t x i =>
    simp only [Op.operands, List.all_cons, List.all_nil, Bool.and_true, Bool.and_eq_true] at hx
    obtain ⟨y, h1, h2⟩ := indexQ_ok (w := w) (show indexQ P t (η x) (η i) = some v from hq) (ev_rel T hx.1) (ev_rel T hx.2)
    exact ⟨y, h1, lift _ _ h2⟩
  | lookup t m k ok =>
    simp only [Op.operands, List.all_cons, List.all_nil, Bool.and_true, Bool.and_eq_true] at hx
    obtain ⟨y, h1, h2⟩ := lookupQ_ok W (show lookupQ P h t (η m) (η k) ok = some v from hq) (ev_rel T hx.1) (ev_rel T hx.2)
    exact ⟨y, h1, lift _ _ h2⟩
  | extract t i =>
    simp only [Op.operands, List.all_cons, List.all_nil, Bool.and_true] at hx
    have hr := ev_rel T hx
    simp only [opQ] at hq
    split at hq
    · rename_i vs he
      rw [he] at hr
      obtain ⟨cs', h1, h2⟩ := hr.to_tuple
      obtain ⟨y, h3, h4⟩ := h2.get hq
      refine ⟨y, h4, lift _ _ ?_⟩
      have h5 : cs'[i]? = some y := by simpa using h3
      simp [Instr.extract, h1, h5]
    · cases hq
  | build t parts =>
    obtain ⟨y, h1, h2⟩ := buildQ_ok T (by simpa [Op.operands] using hx) hq
    exact ⟨y, h1, lift _ _ h2⟩
  | call c =>
    obtain ⟨callee, args, argTypes⟩ := c
    cases callee with
    | value f => cases hq
    | invoke f m => cases hq
    | builtin b =>
      have hargs : args.toList.all p = true := by simpa [Op.operands, Call.operands] using hx
      have run : ∀ (s : Sem Value) (x : Value), (∀ (cs : Array Bool), builtin b argTypes type cs (args.map a.eval) = (do pure (.value (← s)))) → s.run P w = .ok x w → (execOp a.eval ⟨dst, .call ⟨.builtin b, args, argTypes⟩, type, pos, after, guard⟩).run P w = .ok (.value x) w := by
        intro s x h1 h2
        simp [execOp, resolve, invoke, h1, h2]
      cases b with
      | len =>
        simp only [opQ] at hq
        split at hq
        · rename_i x t ha ht
          rw [ha] at hargs
          have hr := ev_rel T (show p x = true by simpa using hargs)
          have ha' : args.map a.eval = #[a.eval x] := by apply Array.toList_inj.1; simp [ha]
          split at hq
          · rename_i s hu he
            cases hq
            rw [he] at hr
            refine ⟨_, .leaf _ rfl, run _ _ (fun _ => rfl) ?_⟩
            simp [Builtin.len_, ht, ha', run_und hu, hr.of_string]
          · rename_i e s n c hu he
            cases hq
            rw [he] at hr
            obtain ⟨a', cap', h1, _⟩ := hr.to_slice'
            refine ⟨_, .leaf _ rfl, run _ _ (fun _ => rfl) ?_⟩
            simp [Builtin.len_, ht, ha', run_und hu, h1]
          · rename_i n e hu
            cases hq
            refine ⟨_, .leaf _ rfl, run _ _ (fun _ => rfl) ?_⟩
            simp [Builtin.len_, ht, ha', run_und hu]
          · cases hq
        · cases hq
      | cap =>
        simp only [opQ] at hq
        split at hq
        · rename_i x t ha ht
          rw [ha] at hargs
          have hr := ev_rel T (show p x = true by simpa using hargs)
          have ha' : args.map a.eval = #[a.eval x] := by apply Array.toList_inj.1; simp [ha]
          split at hq
          · rename_i e s n c hu he
            rw [he] at hr
            split at hq
            · rename_i hc
              cases hq
              have hcap : ∃ s', a.eval x = .slice s' n c := by
                obtain ⟨a', cap', h1, h2, h3⟩ := hr.to_slice'
                cases s with
                | none => obtain ⟨rfl, rfl⟩ := h2 rfl; exact ⟨_, h1⟩
                | some s =>
                  obtain ⟨_, _, _, _, _, _, hk, _⟩ := h3 s rfl
                  rw [hk hc] at h1
                  exact ⟨_, h1⟩
              obtain ⟨s', h1⟩ := hcap
              refine ⟨_, .leaf _ rfl, run _ _ (fun _ => rfl) ?_⟩
              simp [Builtin.cap_, ht, ha', run_und hu, h1]
            · cases hq
          · cases hq
        · cases hq
      | unsafeSliceData =>
        simp only [opQ] at hq
        split at hq
        · rename_i x ha
          rw [ha] at hargs
          have hr := ev_rel T (show p x = true by simpa using hargs)
          have ha' : args.map a.eval = #[a.eval x] := by apply Array.toList_inj.1; simp [ha]
          split at hq
          · rename_i i off n c he
            cases hq
            rw [he] at hr
            obtain ⟨b, cap', hρ, h1, hl, _⟩ := hr.to_slice
            refine ⟨_, .ptr i b off hρ, run _ _ (fun _ => rfl) ?_⟩
            rw [ha', h1]
            exact Lib.run_unsafeSliceData_row _ _ _ _ _ _ (by omega)
          · rename_i n c he
            cases hq
            rw [he] at hr
            obtain ⟨a', cap', h1, h2, _⟩ := hr.to_slice'
            obtain ⟨rfl, _⟩ := h2 rfl
            refine ⟨_, .leaf _ rfl, run _ _ (fun _ => rfl) ?_⟩
            rw [ha', h1]
            exact Lib.run_unsafeSliceData_nil _ _ _ _ _
          · cases hq
        · cases hq
      | max =>
        simp only [opQ] at hq
        split at hq
        · rename_i x y ha
          rw [ha] at hargs
          simp only [List.all_cons, List.all_nil, Bool.and_true, Bool.and_eq_true] at hargs
          have hr := ev_rel T hargs.1
          have hr2 := ev_rel T hargs.2
          have ha' : args.map a.eval = #[a.eval x, a.eval y] := by apply Array.toList_inj.1; simp [ha]
          split at hq
          · rename_i k m k' n he he2
            cases hq
            rw [he] at hr
            rw [he2] at hr2
            refine ⟨_, .leaf _ rfl, run _ _ (fun _ => rfl) ?_⟩
            simp [Builtin.max_, ha', Builtin.max2, hr.of_int, hr2.of_int]
          · cases hq
        · cases hq
      | min =>
        simp only [opQ] at hq
        split at hq
        · rename_i x y ha
          rw [ha] at hargs
          simp only [List.all_cons, List.all_nil, Bool.and_true, Bool.and_eq_true] at hargs
          have hr := ev_rel T hargs.1
          have hr2 := ev_rel T hargs.2
          have ha' : args.map a.eval = #[a.eval x, a.eval y] := by apply Array.toList_inj.1; simp [ha]
          split at hq
          · rename_i k m k' n he he2
            cases hq
            rw [he] at hr
            rw [he2] at hr2
            refine ⟨_, .leaf _ rfl, run _ _ (fun _ => rfl) ?_⟩
            simp [Builtin.min_, ha', Builtin.min2, hr.of_int, hr2.of_int]
          · cases hq
        · cases hq
      | _ => cases hq
  | _ => cases hq
end quiet
end Go.Proofs.YtlagmjdifilheaaGreat.Exe
