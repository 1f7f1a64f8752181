/- Maps, literals, len and cap; and all operations that change nothing. No condition. -/
import Derived.Test.YtlagmjdifilheaaGreatExE
namespace Go.Proofs.YtlagmjdifilheaaGreat.Exe
open Go Go.RowKit
section quiet
variable {E : Env} {P : Program} {B : Nat → Prop} {w0 w : World} {h : Hp} {η : Operand → Value} {p : Operand → Bool} {a : Act}
/-- A map's entries, by names. -/
def RelM (E : Env) (es : List Ent) (es' : List MapEntry) : Prop := es'.length = es.length ∧ ∀ (k : Nat) (e : Ent) (e' : MapEntry), es[k]? = some e → es'[k]? = some e' → e'.key = e.key ∧ e'.born = e.born ∧ Rel E e.val e'.val
theorem RelM.head {e : Ent} {e' : MapEntry} {es : List Ent} {es' : List MapEntry} (hM : RelM E (e :: es) (e' :: es')) : (e'.key = e.key ∧ e'.born = e.born ∧ Rel E e.val e'.val) ∧ RelM E es es' :=
  ⟨hM.2 0 e e' rfl rfl, by have := hM.1; simpa using this, fun k a b h1 h2 => hM.2 (k + 1) a b (by simpa using h1) (by simpa using h2)⟩
def keyD (d : TypeDesc) (k : Value) : Bool := match d, k with
  | .int j, .int j' _ => j = j'
  | .string, .string _ => true
  | _, _ => false
theorem keyB_d {t : TypeId} {k : Value} (h : keyB P t k = true) : ∃ d, P.underlying t = some d ∧ keyD d k = true := by
  unfold keyB at h
  split at h
  · rename_i j j' n hd; exact ⟨_, hd, h⟩
  · rename_i s hd; exact ⟨_, hd, rfl⟩
  · cases h
theorem data_inj {a b : ByteArray} : a.data.toList = b.data.toList ↔ a = b := ⟨fun h => ByteArray.ext (Array.toList_inj.1 h), fun h => by rw [h]⟩
theorem beq_bytes (a b : ByteArray) : (a == b) = decide (a = b) := by
  have h : (a == b) = (a.data == b.data) := rfl
  rw [h]
  by_cases hab : a = b
  · subst hab; simp
  · have : a.data ≠ b.data := fun e => hab (ByteArray.ext e)
    simp [hab, this]
theorem findQ_ok {d : TypeDesc} {k : Value} (hk : keyD d k = true) : ∀ {es : List Ent} {es' : List MapEntry} (i : Nat) {r : Option (Nat × Value)}, RelM E es es' → findQ k es i = some r →
    ∃ r', Instr.findNow d k es' i = some r' ∧ (match r, r' with
      | none, none => True
      | some (n, v), some (m, x) => n = m ∧ Rel E v x ∧ i ≤ n ∧ ∃ e e', es[n - i]? = some e ∧ es'[n - i]? = some e' ∧ e'.key = e.key ∧ k = e.key
      | _, _ => False)
  | [], [], i, r, _, hq => by cases hq; exact ⟨none, rfl, trivial⟩
  | [], _ :: _, _, _, hM, _ => by have := hM.1; simp at this
  | _ :: _, [], _, _, hM, _ => by have := hM.1; simp at this
  | e :: es, e' :: es', i, r, hM, hq => by
    obtain ⟨⟨h1, h2, h3⟩, hT⟩ := hM.head
    have step : ∀ r, findQ k es (i + 1) = some r → Instr.sameNow d k e'.key = some false → ∃ r', Instr.findNow d k (e' :: es') i = some r' ∧ (match r, r' with
      | none, none => True
      | some (n, v), some (m, x) => n = m ∧ Rel E v x ∧ i ≤ n ∧ ∃ f f', (e :: es)[n - i]? = some f ∧ (e' :: es')[n - i]? = some f' ∧ f'.key = f.key ∧ k = f.key
      | _, _ => False) := fun r hr hs => by
      obtain ⟨r', k1, k2⟩ := findQ_ok hk (i + 1) hT hr
      refine ⟨r', by simp [Instr.findNow, hs, k1], ?_⟩
      cases r with
      | none => cases r' with
        | none => trivial
        | some p => exact k2.elim
      | some p => cases r' with
        | none => exact k2.elim
        | some p' =>
          obtain ⟨a1, a2, a3, f, f', a4, a5, a6, a7⟩ := k2
          refine ⟨a1, a2, by omega, f, f', ?_, ?_, a6, a7⟩
          · rw [show p.1 - i = (p.1 - (i + 1)) + 1 by omega]; simpa using a4
          · rw [show p.1 - i = (p.1 - (i + 1)) + 1 by omega]; simpa using a5
    unfold findQ at hq
    split at hq
    · rename_i j n j' m he
      split at hq
      · rename_i hjj
        subst hjj
        split at hq
        · rename_i hnm
          subst hnm
          cases hq
          have hs : Instr.sameNow d (.int j n) e'.key = some true := by
            rw [h1, he]
            cases d <;> simp [keyD] at hk
            simp [Instr.sameNow]
          exact ⟨some (i, e'.val), (by simp [Instr.findNow, hs]), rfl, h3, Nat.le_refl _, e, e', (by simp), (by simp), h1, he.symm⟩
        · rename_i hnm
          refine step r hq ?_
          rw [h1, he]
          cases d <;> simp [keyD] at hk
          simp [Instr.sameNow, hnm]
      · cases hq
    · rename_i s1 s2 he
      split at hq
      · rename_i hss
        rw [data_inj] at hss
        subst hss
        cases hq
        have hs : Instr.sameNow d (.string s1) e'.key = some true := by
          rw [h1, he]
          cases d <;> simp [keyD] at hk
          simp [Instr.sameNow, beq_bytes]
        exact ⟨some (i, e'.val), by simp [Instr.findNow, hs], rfl, h3, Nat.le_refl _, e, e', by simp, by simp, h1, he.symm⟩
      · rename_i hss
        rw [data_inj] at hss
        refine step r hq ?_
        rw [h1, he]
        cases d <;> simp [keyD] at hk
        simp [Instr.sameNow, beq_bytes, hss]
    · cases hq
theorem checkKey_ok {t : TypeId} {d : TypeDesc} {k : Value} {e : Bool} (hd : P.underlying t = some d) (hk : keyD d k = true) : (Instr.checkKey e 10000 t k).run P w = .ok () w := by
  obtain ⟨n, hn⟩ : ∃ n, Instr.checkKey e 10000 t k = Instr.checkKey e (n + 1) t k := ⟨9999, rfl⟩
  rw [hn]
  cases d <;> cases k <;> simp [keyD] at hk <;> simp [Instr.checkKey, run_und hd]
theorem leaf_key {d : TypeDesc} {k x : Value} (hk : keyD d k = true) (hr : Rel E k x) : x = k := by
  cases d <;> cases k <;> simp [keyD] at hk <;> exact hr.of_leaf rfl
theorem WR.map (W : WR E P B w0 w h) {i : Nat} {es : List Ent} {clock : Nat} {b : Nat} (hρ : E.ρ i = some b) (hi : h.ob i = some (.map es clock)) : ∃ es', B b ∧ w.heap[b]? = some (.map es' clock) ∧ RelM E es es'.toList := by
  obtain ⟨o, h2, h3, es', rfl, h4, h5⟩ := W.live i _ b hi hρ
  exact ⟨es', h2, h3, h4, h5⟩
theorem run_getMap {b : Nat} {es : Array MapEntry} {c : Nat} (hb : w.heap[b]? = some (.map es c)) : (getObj b).run P w = .ok (.map es c) w := by
  simp [getObj, Sem.run, hb]
theorem lookupQ_ok (W : WR E P B w0 w h) {t : TypeId} {m k m' k' r : Value} {ok : Bool} (hq : lookupQ P h t m k ok = some r) (hm : Rel E m m') (hk : Rel E k k') : ∃ z, Rel E r z ∧ (Instr.lookup t m' k' ok).run P w = .ok z w := by
  unfold lookupQ at hq
  split at hq
  · rename_i kt et hu
    split at hq
    · rename_i hkb
      obtain ⟨d, hd, hkd⟩ := keyB_d hkb
      obtain rfl := leaf_key hkd hk
      have fin : ∀ (es : List Ent) (es' : Array MapEntry), RelM E es es'.toList → ((findQ k' es 0).bind fun r => (match r with
          | some (_, v) => some (v, true)
          | none => (zeroQ P et).map fun z => (z, false)).map fun (v, b) => if ok then Value.tuple #[v, .bool b] else v) = some r →
          ∃ z, Rel E r z ∧ (do
            Instr.checkKey es'.isEmpty 10000 kt k'
            let (v, b) ← match ← Instr.findKey kt k' es'.toList with
              | some (_, v) => pure (v, true)
              | none => pure (← zeroValue et, false)
            pure (if ok then Value.tuple #[v, .bool b] else v) : Sem Value).run P w = .ok z w := by
        intro es es' hM hq
        cases hf : findQ k' es 0 with
        | none => simp [hf] at hq
        | some r0 =>
          simp only [hf, Option.bind_some] at hq
          obtain ⟨r', k1, k2⟩ := findQ_ok hkd 0 hM hf
          have hfk : (Instr.findKey kt k' es'.toList).run P w = .ok r' w := by simp [Instr.findKey, run_und hd, k1]
          cases r0 with
          | none => cases r' with
            | some p => exact k2.elim
            | none =>
              cases hz : zeroQ P et with
              | none => simp [hz] at hq
              | some z =>
                simp only [hz, Option.map_some, Option.some.injEq] at hq
                obtain ⟨z1, z2⟩ := run_zero (w := w) hz
                refine ⟨r, ?_, by simp [checkKey_ok hd hkd, hfk, z1, ← hq]⟩
                rw [← hq]
                split
                · exact relL_tuple ⟨.refl_flat z2, .leaf _ rfl, trivial⟩
                · exact .refl_flat z2
          | some p => cases r' with
            | none => exact k2.elim
            | some p' =>
              simp only [Option.map_some, Option.some.injEq] at hq
              obtain ⟨_, a2, _⟩ := k2
              refine ⟨if ok then .tuple #[p'.2, .bool true] else p'.2, ?_, by simp [checkKey_ok hd hkd, hfk]⟩
              rw [← hq]
              split
              · exact relL_tuple ⟨a2, .leaf _ rfl, trivial⟩
              · exact a2
      split at hq
      · -- no map
        obtain rfl := hm.of_leaf rfl
        obtain ⟨z, z1, z2⟩ := fin [] #[] ⟨rfl, fun k e e' h1 => by simp at h1⟩ hq
        refine ⟨z, z1, ?_⟩
        simp only [Instr.lookup, Sem.run_bind, run_und hu, Result.andThen_ok, Sem.run_pure] at z2 ⊢
        exact z2
      · rename_i i
        obtain ⟨b, hρ, rfl⟩ := hm.to_map
        split at hq
        · rename_i es c ho
          obtain ⟨es', _, h3, h4⟩ := W.map hρ ho
          obtain ⟨z, z1, z2⟩ := fin es es' h4 hq
          refine ⟨z, z1, ?_⟩
          simp only [Instr.lookup, Sem.run_bind, run_und hu, Result.andThen_ok, run_getMap h3, Sem.run_pure] at z2 ⊢
          exact z2
        · cases hq
      · cases hq
    · cases hq
  · cases hq
theorem fold_put : ∀ {l l' : List Value} (off k : Nat) {cs cs' : Array Value}, RelL E l l' → RelL E cs.toList cs'.toList →
    RelL E ((l.zipIdx k).foldl (fun cs (c, j) => cs.setIfInBounds (off + j) c) cs).toList ((l'.zipIdx k).foldl (fun cs (c, j) => cs.setIfInBounds (off + j) c) cs').toList
  | [], [], _, _, _, _, _, h => h
  | _ :: _, _ :: _, off, k, _, _, h, hc => by
    simp only [List.zipIdx_cons, List.foldl_cons]
    exact fold_put off (k + 1) h.2 (by simpa using hc.set (off + k) h.1)
theorem fill_ok {place : Nat → Option (Nat × Nat)} : ∀ {ps ps' : List (Nat × Value)} {cs cs' r : Array Value}, ps.map (·.1) = ps'.map (·.1) → RelL E (ps.map (·.2)) (ps'.map (·.2)) → RelL E cs.toList cs'.toList → Instr.fill place cs ps = some r →
    ∃ r', Instr.fill place cs' ps' = some r' ∧ RelL E r.toList r'.toList
  | [], [], _, cs', _, _, _, hc, hq => by
    simp only [Instr.fill, Option.some.injEq] at hq
    subst hq
    exact ⟨cs', rfl, hc⟩
  | [], _ :: _, _, _, _, h1, _, _, _ => by simp at h1
  | _ :: _, [], _, _, _, h1, _, _, _ => by simp at h1
  | (i, v) :: ps, (i', v') :: ps', cs, cs', r, h1, h2, hc, hq => by
    simp only [List.map_cons, List.cons.injEq] at h1
    obtain ⟨rfl, h1⟩ := h1
    unfold Instr.fill at hq ⊢
    split at hq
    · cases hq
    · rename_i off size hp
      have hv := h2.1.cells
      have hs : v'.cells.size = v.cells.size := by have := hv.length; simpa using this.symm
      have hcs : cs'.size = cs.size := by have := hc.length; simpa using this.symm
      simp only [hs, hcs]
      split at hq
      · cases hq
      · rename_i hok
        simp only [hok]
        refine fill_ok h1 h2.2 ?_ hq
        rw [← Array.foldl_toList, ← Array.foldl_toList, Array.toList_zipIdx, Array.toList_zipIdx]
        exact fold_put off 0 hv hc
theorem mapM_places : ∀ (l : List Field), (l.all fun f => (szQ P f.type).isSome) = true → (l.mapM (m := Sem) fun f => do pure (f.offset, ← sizeOf f.type)).run P w = .ok (l.map fun f => (f.offset, (szQ P f.type).getD 0)) w
  | [], _ => rfl
  | f :: l, hl => by
    simp only [List.all_cons, Bool.and_eq_true] at hl
    obtain ⟨n, hn⟩ := Option.isSome_iff_exists.1 hl.1
    rw [List.mapM_cons]
    simp only [Sem.run_bind, run_size hn, Result.andThen_ok, Sem.run_pure]
    rw [mapM_places l hl.2]
    simp [hn]
theorem evs_rel (T : RelE p E η a) {xs : List Operand} (hx : xs.all p = true) : RelL E (xs.map η) (xs.map a.eval) :=
  RelL.map fun x hm => ev_rel T (List.all_eq_true.1 hx x hm)
theorem buildQ_ok (T : RelE p E η a) {t : TypeId} {parts : Array (Nat × Operand)} {r : Value} (hx : (parts.toList.map (·.2)).all p = true) (hq : opQ P h η (.build t parts) = some r) :
    ∃ z, Rel E r z ∧ (Instr.build t (parts.map fun (i, x) => (i, a.eval x))).run P w = .ok z w := by
  have hv := evs_rel T hx
  simp only [opQ] at hq
  split at hq
  · rename_i z fields hz hu
    obtain ⟨z1, z2⟩ := run_zero (w := w) hz
    split at hq
    · rename_i hall
      cases hf : Instr.fill (fun i => (fields[i]?).map fun f => (f.offset, (szQ P f.type).getD 0)) z.cells (parts.toList.map fun (i, x) => (i, η x)) with
      | none => simp [hf] at hq
      | some cs =>
        simp only [hf, Option.map_some, Option.some.injEq] at hq
        obtain ⟨cs', k1, k2⟩ := fill_ok (E := E) (ps' := parts.toList.map fun (i, x) => (i, a.eval x)) (cs' := z.cells) (by simp [Function.comp_def]) (by simpa [Function.comp_def] using hv) (Rel.refl_flat z2).cells hf
        refine ⟨.agg cs', hq ▸ relL_agg k2, ?_⟩
        have hm : (fields.mapM (m := Sem) fun f => do pure (f.offset, ← sizeOf f.type)).run P w = .ok (fields.toList.map fun f => (f.offset, (szQ P f.type).getD 0)).toArray w := by
          rw [Array.mapM_eq_mapM_toList, Sem.run_map, mapM_places fields.toList hall]
          rfl
        have hpl : (fun i : Nat => ((fields.toList.map fun f => (f.offset, (szQ P f.type).getD 0)).toArray)[i]?) = fun i => (fields[i]?).map fun f => (f.offset, (szQ P f.type).getD 0) := by
          funext i; simp
        simp only [Instr.build, Sem.run_bind, z1, Result.andThen_ok, run_und hu, hm, hpl]
        simp [k1]
    · cases hq
  · rename_i z n e hz hu
    obtain ⟨z1, z2⟩ := run_zero (w := w) hz
    cases hS : szQ P e with
    | none => simp [hS] at hq
    | some sz =>
      simp only [hS, Option.bind_some] at hq
      cases hf : Instr.fill (fun i => some (i * sz, sz)) z.cells (parts.toList.map fun (i, x) => (i, η x)) with
      | none => simp [hf] at hq
      | some cs =>
        simp only [hf, Option.map_some, Option.some.injEq] at hq
        obtain ⟨cs', k1, k2⟩ := fill_ok (E := E) (ps' := parts.toList.map fun (i, x) => (i, a.eval x)) (cs' := z.cells) (by simp [Function.comp_def]) (by simpa [Function.comp_def] using hv) (Rel.refl_flat z2).cells hf
        refine ⟨.agg cs', hq ▸ relL_agg k2, ?_⟩
        simp only [Instr.build, Sem.run_bind, z1, Result.andThen_ok, run_und hu, run_size hS]
        simp [k1]
  · cases hq
end quiet
end Go.Proofs.YtlagmjdifilheaaGreat.Exe
