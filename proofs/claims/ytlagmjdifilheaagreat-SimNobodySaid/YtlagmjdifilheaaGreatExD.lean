/- Operations that change nothing: what the executor tells of them is what the model does. No condition. -/
import Derived.Test.YtlagmjdifilheaaGreatExC
namespace Go.Proofs.YtlagmjdifilheaaGreat.Exe
open Go Go.RowKit
section types
variable {P : Program} {w : World} {t : TypeId}
theorem run_size {n : Nat} (h : szQ P t = some n) : (sizeOf t).run P w = .ok n w := by
  unfold szQ at h
  cases hi : P.info? t with
  | none => simp [hi] at h
  | some i => simp [sizeOf, typeInfo, hi] at h ⊢; exact h
theorem run_und {d : TypeDesc} (h : P.underlying t = some d) : (underlying t).run P w = .ok d w := run_underlying h w
theorem run_agg {b : Bool} (h : aggQ P t = some b) : (isAgg t).run P w = .ok b w := by
  unfold aggQ at h
  split at h
  · rename_i fs hu; cases h; simp [isAgg, run_und hu]
  · rename_i n e hu; cases h; simp [isAgg, run_und hu]
  · rename_i d n1 n2 hu
    cases h
    simp only [isAgg, Sem.run_bind, run_und hu, Result.andThen_ok]
    rfl
  · cases h
theorem run_zero {v : Value} (h : zeroQ P t = some v) : (zeroValue t).run P w = .ok v w ∧ flatB v = true := by
  unfold zeroQ at h
  cases hi : P.info? t with
  | none => simp [hi] at h
  | some i =>
    cases hz : i.zero with
    | none => simp [hi, hz] at h
    | some z =>
      simp only [hi, Option.bind_some, hz] at h
      split at h
      · rename_i hf
        cases h
        exact ⟨by simp [zeroValue, typeInfo, hi, hz], hf⟩
      · cases h
end types
section quiet
variable {E : Env} {P : Program} {B : Nat → Prop} {w0 w : World} {h : Hp} {η : Operand → Value} {τ : Tmps} {a : Act}
theorem evL_rel (T : RelL E τ a.tmps.toList) {x : Operand} (hx : opdB x = true) : Rel E (ev τ x) (a.eval x) := by
  cases x with
  | tmp t =>
    have hl := T.length
    by_cases ht : t < τ.length
    · have h1 : τ[t]? = some τ[t] := List.getElem?_eq_getElem ht
      obtain ⟨c, hc, hr⟩ := T.get h1
      have : a.eval (.tmp t) = c := by
        show a.tmps.getD t undef = c
        rw [Array.getD_eq_getD_getElem?, ← Array.getElem?_toList, hc]
        rfl
      rw [this]
      simpa [ev, List.getD, h1] using hr
    · have h1 : τ[t]? = none := List.getElem?_eq_none (Nat.le_of_not_lt ht)
      have h2 : a.tmps[t]? = none := Array.getElem?_eq_none (by simp at hl; rw [← hl]; exact Nat.le_of_not_lt ht)
      have h3 : a.eval (.tmp t) = undef := by
        show a.tmps.getD t undef = undef
        rw [Array.getD_eq_getD_getElem?, h2]; rfl
      rw [h3]
      simpa [ev, List.getD, h1] using Rel.undef
  | const v => exact Rel.refl_flat hx
  | global g => simp [opdB] at hx
  | func f => exact relL_func (E := E) (xs := #[]) (xs' := #[]) (ys := #[]) (ys' := #[]) trivial trivial
/-- Operands by names, and by numbers. -/
def RelE (p : Operand → Bool) (E : Env) (η : Operand → Value) (a : Act) : Prop := ∀ x, p x = true → Rel E (η x) (a.eval x)
theorem ev_rel {p : Operand → Bool} (T : RelE p E η a) {x : Operand} (hx : p x = true) : Rel E (η x) (a.eval x) := T x hx
theorem loadQ_ok (W : WR E P B w0 w h) {t : TypeId} {v x r : Value} (hq : loadQ P h t v = some r) (hr : Rel E v x) : ∃ y, Rel E r y ∧ (Instr.loadAt t x).run P w = .ok y w := by
  unfold loadQ at hq
  split at hq
  · rename_i i off
    obtain ⟨b, hρ, rfl⟩ := hr.to_ptr
    split at hq
    · rename_i n hA hS
      cases hc : cellsAt h i off n with
      | none => simp [hc] at hq
      | some cs =>
        simp only [hc, Option.map_some, Option.some.injEq] at hq
        subst hq
        obtain ⟨cs', _, h3, _, h4⟩ := run_cells W hρ hc
        exact ⟨.agg cs'.toArray, relL_agg (by simpa using h3), by simp [Instr.loadAt, Instr.sureAddr, loadVar, run_agg hA, run_size hS, h4]⟩
    · rename_i hA
      cases hc : h.get i with
      | none => simp [hc] at hq
      | some blk =>
        simp only [hc, Option.bind_some, Option.map_eq_some_iff] at hq
        obtain ⟨v, hv, rfl⟩ := hq
        obtain ⟨x, h2, h3⟩ := run_cell W hρ hc (Row.at_list hv)
        refine ⟨x, h2, ?_⟩
        simp only [Instr.loadAt, Instr.sureAddr, loadVar, Sem.run_bind, Sem.run_pure, Result.andThen_ok, run_agg hA]
        simpa using h3
    · cases hq
  · cases hq
theorem fieldAddrQ_ok {s : TypeId} {v x r : Value} {f : Nat} (hq : fieldAddrQ P s v f = some r) (hr : Rel E v x) : ∃ y, Rel E r y ∧ (Instr.fieldAt s x f).run P w = .ok y w := by
  unfold fieldAddrQ at hq
  split at hq
  · rename_i fields i off hu
    obtain ⟨b, hρ, rfl⟩ := hr.to_ptr
    split at hq
    · rename_i fd hf
      split at hq
      · rename_i n hS
        cases hq
        exact ⟨_, .ptr i b _ hρ, by simp [Instr.fieldAt, run_und hu, hf, Instr.sureAddr, fieldPlace, run_size hS, add_none]⟩
      · cases hq
    · cases hq
  · cases hq
theorem partQ_ok {t : TypeId} {cs cs' : Array Value} {off : Nat} {r : Value} (hq : partQ P t cs off = some r) (hr : RelL E cs.toList cs'.toList) : ∃ y, Rel E r y ∧ (part t cs' off).run P w = .ok y w := by
  unfold partQ at hq
  split at hq
  · rename_i n hA hS
    cases hq
    refine ⟨.agg (cs'.extract off (off + n)), relL_agg ?_, by simp [part, run_agg hA, run_size hS]⟩
    simpa [List.extract] using (hr.drop off).take n
  · rename_i hA
    obtain ⟨y, h1, h2⟩ := hr.get hq
    refine ⟨y, h2, ?_⟩
    have h3 : cs'[off]? = some y := by simpa using h1
    simp [part, run_agg hA, h3]
  · cases hq
theorem fieldQ_ok {t : TypeId} {v x r : Value} {f : Nat} (hq : fieldQ P t v f = some r) (hr : Rel E v x) : ∃ y, Rel E r y ∧ (Instr.field t x f).run P w = .ok y w := by
  unfold fieldQ at hq
  split at hq
  · rename_i fields cs hu
    obtain ⟨cs', rfl, hR⟩ := hr.to_agg
    split at hq
    · rename_i fd hf
      obtain ⟨y, h1, h2⟩ := partQ_ok (w := w) hq hR
      exact ⟨y, h1, by simp [Instr.field, run_und hu, hf, asAgg, h2]⟩
    · cases hq
  · cases hq
theorem Rel.of_int {k : IntKind} {n : Int} {x : Value} (h : Rel E (.int k n) x) : x = .int k n := h.of_leaf rfl
theorem Rel.of_bool {b : Bool} {x : Value} (h : Rel E (.bool b) x) : x = .bool b := h.of_leaf rfl
theorem Rel.of_string {s : ByteArray} {x : Value} (h : Rel E (.string s) x) : x = .string s := h.of_leaf rfl
theorem indexAddrQ_ok {t : TypeId} {v x i j r : Value} (hq : indexAddrQ P t v i = some r) (hr : Rel E v x) (hi : Rel E i j) : ∃ y, Rel E r y ∧ (Instr.indexAt t x j).run P w = .ok y w := by
  unfold indexAddrQ at hq
  split at hq
  · rename_i e i off len cap k n hu
    obtain rfl := hi.of_int
    obtain ⟨b, cap', hρ, rfl, _⟩ := hr.to_slice
    split at hq
    · rename_i hn
      cases hS : szQ P e with
      | none => simp [hS] at hq
      | some z =>
        simp only [hS, Option.map_some, Option.some.injEq] at hq
        subst hq
        exact ⟨_, .ptr i b _ hρ, by simp [Instr.indexAt, asIntOf, run_und hu, run_size hS, add_none, hn]⟩
    · cases hq
  · rename_i len e i off k n hu
    obtain rfl := hi.of_int
    obtain ⟨b, hρ, rfl⟩ := hr.to_ptr
    split at hq
    · rename_i hn
      cases hS : szQ P e with
      | none => simp [hS] at hq
      | some z =>
        simp only [hS, Option.map_some, Option.some.injEq] at hq
        subst hq
        exact ⟨_, .ptr i b _ hρ, by simp [Instr.indexAt, asIntOf, run_und hu, run_size hS, add_none, hn, Instr.sureAddr]⟩
    · cases hq
  · cases hq
theorem indexQ_ok {t : TypeId} {v x i j r : Value} (hq : indexQ P t v i = some r) (hr : Rel E v x) (hi : Rel E i j) : ∃ y, Rel E r y ∧ (Instr.index t x j).run P w = .ok y w := by
  unfold indexQ at hq
  split at hq
  · rename_i len e cs k n hu
    obtain rfl := hi.of_int
    obtain ⟨cs', rfl, hR⟩ := hr.to_agg
    split at hq
    · rename_i hn
      cases hS : szQ P e with
      | none => simp [hS] at hq
      | some z =>
        simp only [hS, Option.bind_some] at hq
        obtain ⟨y, h1, h2⟩ := partQ_ok (w := w) hq hR
        exact ⟨y, h1, by simp [Instr.index, asIntOf, run_und hu, run_size hS, hn, h2]⟩
    · cases hq
  · rename_i s k n hu
    obtain rfl := hi.of_int
    obtain rfl := hr.of_string
    split at hq
    · rename_i hn
      cases hc : s.data.toList[n.toNat]? with
      | none => simp [hc] at hq
      | some b =>
        simp only [hc, Option.map_some, Option.some.injEq] at hq
        subst hq
        refine ⟨_, .leaf _ rfl, ?_⟩
        have h1 : s[n.toNat]? = some b := by
          have h2 := (List.getElem?_eq_some_iff.1 hc)
          obtain ⟨h3, h4⟩ := h2
          have h5 : n.toNat < s.size := by simpa using h3
          rw [getElem?_pos s n.toNat h5]
          congr 1
        simp [Instr.index, asIntOf, run_und hu, hn, h1]
    · cases hq
  · cases hq
/-- Operands that may be left out. -/
def RelO (E : Env) : Option Value → Option Value → Prop
  | none, none => True
  | some a, some b => Rel E a b
  | _, _ => False
theorem run_bound {k : IntKind} {n : Int} {y : Nat} {code : BoundsCode} (h : 0 ≤ n ∧ n ≤ (y : Int)) : (Instr.sliceBound (.int k n) y code).run P w = .ok n.toNat w := by
  simp [Instr.sliceBound, asIntOf, h]
theorem boundQ_some {v v' : Option Value} {d top r : Nat} (hq : boundQ v d top = some r) (hr : RelO E v v') : (v = none ∧ v' = none ∧ r = d) ∨ (∃ k n, v = some (.int k n) ∧ v' = some (.int k n) ∧ 0 ≤ n ∧ n ≤ (top : Int) ∧ r = n.toNat) := by
  unfold boundQ at hq
  split at hq
  · cases v' with
    | none => cases hq; exact .inl ⟨rfl, rfl, rfl⟩
    | some _ => exact hr.elim
  · rename_i k n
    split at hq
    · rename_i hn
      cases hq
      cases v' with
      | none => exact hr.elim
      | some b =>
        obtain rfl := Rel.of_int hr
        exact .inr ⟨k, n, rfl, rfl, hn.1, hn.2, rfl⟩
    · cases hq
  · cases hq
theorem sb_none {isS : Bool} {len cap top hh l : Nat} {lo hi lo' hi' : Option Value} (h1 : boundQ hi len top = some hh) (ht : top ≤ cap) (h2 : boundQ lo 0 hh = some l) (r1 : RelO E hi hi') (r2 : RelO E lo lo') :
    (Instr.sliceBounds isS len cap lo' hi' none).run P w = .ok (l, hh, cap) w := by
  rcases boundQ_some h1 r1 with ⟨rfl, rfl, rfl⟩ | ⟨k, n, rfl, rfl, a1, a2, rfl⟩ <;> rcases boundQ_some h2 r2 with ⟨rfl, rfl, rfl⟩ | ⟨k', n', rfl, rfl, b1, b2, rfl⟩
  · simp [Instr.sliceBounds]
  · simp [Instr.sliceBounds, run_bound ⟨b1, b2⟩]
  · have hn : 0 ≤ n ∧ n ≤ (cap : Int) := ⟨a1, by omega⟩
    simp [Instr.sliceBounds, run_bound hn]
  · have hn : 0 ≤ n ∧ n ≤ (cap : Int) := ⟨a1, by omega⟩
    simp [Instr.sliceBounds, run_bound hn, run_bound ⟨b1, b2⟩]
theorem sb_some {isS : Bool} {len cap top m hh l : Nat} {lo hi mx lo' hi' mx' : Option Value} (h0 : boundQ mx 0 top = some m) (hm : mx.isSome = true) (h1 : boundQ hi 0 m = some hh) (hi1 : hi.isSome = true) (ht : top ≤ cap) (h2 : boundQ lo 0 hh = some l) (r0 : RelO E mx mx') (r1 : RelO E hi hi') (r2 : RelO E lo lo') :
    (Instr.sliceBounds isS len cap lo' hi' mx').run P w = .ok (l, hh, m) w := by
  rcases boundQ_some h0 r0 with ⟨rfl, rfl, rfl⟩ | ⟨k0, n0, rfl, rfl, c1, c2, rfl⟩
  · cases hm
  rcases boundQ_some h1 r1 with ⟨rfl, rfl, rfl⟩ | ⟨k, n, rfl, rfl, a1, a2, rfl⟩
  · cases hi1
  have hn : 0 ≤ n0 ∧ n0 ≤ (cap : Int) := ⟨c1, by omega⟩
  rcases boundQ_some h2 r2 with ⟨rfl, rfl, rfl⟩ | ⟨k', n', rfl, rfl, b1, b2, rfl⟩
  · simp [Instr.sliceBounds, run_bound hn, run_bound ⟨a1, a2⟩]
  · simp [Instr.sliceBounds, run_bound hn, run_bound ⟨a1, a2⟩, run_bound ⟨b1, b2⟩]
theorem boundQ_le {v : Option Value} {d top r : Nat} (hq : boundQ v d top = some r) (hd : d ≤ top) : r ≤ top := by
  unfold boundQ at hq
  split at hq
  · cases hq; exact hd
  · split at hq
    · rename_i hn; cases hq; omega
    · cases hq
  · cases hq
theorem extract_data (s : ByteArray) (l h : Nat) : s.extract l h = ⟨((s.data.toList.drop l).take (h - l)).toArray⟩ := by
  apply ByteArray.ext
  rw [ByteArray.data_extract]
  apply Array.toList_inj.1
  simp [List.extract]
theorem sliceQ_ok {t : TypeId} {v x r : Value} {lo hi mx lo' hi' mx' : Option Value} (hq : sliceQ P t v lo hi mx = some r) (hr : Rel E v x) (r0 : RelO E mx mx') (r1 : RelO E hi hi') (r2 : RelO E lo lo') :
    ∃ y, Rel E r y ∧ (Instr.sliceAt t x lo' hi' mx').run P w = .ok y w := by
  unfold sliceQ at hq
  split at hq
  · -- a string
    rename_i s hu
    obtain rfl := hr.of_string
    split at hq
    · cases hq
    · rename_i hmx
      have hm : mx = none := by cases mx <;> simp_all
      subst hm
      have hm' : mx' = none := by cases mx' <;> simp_all [RelO]
      subst hm'
      cases h1 : boundQ hi s.size s.size with
      | none => simp [h1] at hq
      | some hh =>
        cases h2 : boundQ lo 0 hh with
        | none => simp [h1, h2] at hq
        | some l =>
          simp only [h1, h2, Option.bind_some, Option.some.injEq] at hq
          subst hq
          refine ⟨_, .leaf _ rfl, ?_⟩
          simp [Instr.sliceAt, Instr.slice, run_und hu, sb_none h1 (Nat.le_refl _) h2 r1 r2, extract_data]
  · -- no block
    rename_i e hu
    obtain rfl := hr.of_leaf rfl
    cases h0 : boundQ mx 0 0 with
    | none => simp [h0] at hq
    | some m =>
    have hm := boundQ_le h0 (Nat.le_refl _)
    obtain rfl : m = 0 := by omega
    cases h1 : boundQ hi 0 0 with
    | none => simp [h0, h1] at hq
    | some hh =>
    have hm := boundQ_le h1 (Nat.le_refl _)
    obtain rfl : hh = 0 := by omega
    cases h2 : boundQ lo 0 0 with
    | none => simp [h0, h1, h2] at hq
    | some l =>
    have hm := boundQ_le h2 (Nat.le_refl _)
    obtain rfl : l = 0 := by omega
    simp only [h0, h1, h2, Option.bind_some] at hq
    split at hq
    · cases hq
    · rename_i hb
      cases hS : szQ P e with
      | none => simp [hS] at hq
      | some z =>
        simp only [hS, Option.bind_some, Option.some.injEq] at hq
        subst hq
        refine ⟨_, .leaf _ rfl, ?_⟩
        cases mx with
        | none =>
          obtain rfl : mx' = none := by cases mx' <;> simp_all [RelO]
          simp [Instr.sliceAt, Instr.slice, run_und hu, sb_none h1 (Nat.le_refl _) h2 r1 r2, run_size hS]
        | some m0 =>
          have hhi : hi.isSome = true := by cases hi <;> simp_all
          simp [Instr.sliceAt, Instr.slice, run_und hu, sb_some h0 rfl h1 hhi (Nat.le_refl _) h2 r0 r1 r2, run_size hS]
  · -- a slice
    rename_i e i off len cap hu
    obtain ⟨b, cap', hρ, rfl, hl, hk, hg⟩ := hr.to_slice
    have htop : (if cap < capG then cap else len) ≤ cap' := by
      split
      · rename_i hc; rw [hk hc]; exact Nat.le_refl _
      · exact hl
    split at hq
    · -- a full slice
      rename_i m0
      cases h0 : boundQ (some m0) 0 (if cap < capG then cap else len) with
      | none => simp [h0] at hq
      | some m =>
      cases h1 : boundQ hi 0 m with
      | none => simp [h0, h1] at hq
      | some hh =>
      cases h2 : boundQ lo 0 hh with
      | none => simp [h0, h1, h2] at hq
      | some l =>
      simp only [h0, h1, h2, Option.bind_some] at hq
      split at hq
      · cases hq
      · rename_i hhi
        simp only [Bool.or_eq_true, decide_eq_true_eq, not_or] at hhi
        have hhi' : hi.isSome = true := by cases hi <;> simp_all
        cases hS : szQ P e with
        | none => simp [hS] at hq
        | some z =>
          simp only [hS, Option.bind_some, Option.some.injEq] at hq
          subst hq
          have hb := sb_some (P := P) (w := w) (isS := true) (len := len) h0 rfl h1 hhi' htop h2 r0 r1 r2
          have hm1 := boundQ_le h1 (Nat.zero_le _)
          have hl1 := boundQ_le h2 (Nat.zero_le _)
          have hmG : m < capG := Nat.lt_of_not_le hhi.2
          refine ⟨.slice (some ⟨b, if m = l then off else off + l * z, none⟩) (hh - l) (m - l), .slice i b _ _ _ _ hρ (by omega) (fun _ => rfl) (fun e => by omega), ?_⟩
          by_cases hml : m = l
          · simp [Instr.sliceAt, Instr.slice, run_und hu, hb, run_size hS, hml]
          · simp [Instr.sliceAt, Instr.slice, run_und hu, hb, run_size hS, hml, add_none]
    · obtain rfl : mx' = none := by cases mx' <;> simp_all [RelO]
      cases h1 : boundQ hi len (if cap < capG then cap else len) with
      | none => simp [h1] at hq
      | some hh =>
      cases h2 : boundQ lo 0 hh with
      | none => simp [h1, h2] at hq
      | some l =>
      cases hS : szQ P e with
      | none => simp [h1, hS] at hq
      | some z =>
      simp only [h1, h2, hS, Option.bind_some] at hq
      have hb := sb_none (P := P) (w := w) (isS := true) (len := len) h1 htop h2 r1 r2
      have hl1 := boundQ_le h2 (Nat.zero_le _)
      split at hq
      · rename_i hc
        cases hq
        obtain rfl := hk hc
        rw [if_pos hc] at h1
        have hh1 : hh ≤ cap' := by
          rcases boundQ_some h1 r1 with ⟨_, _, rfl⟩ | ⟨k, n, _, _, a1, a2, rfl⟩
          · exact hl
          · omega
        refine ⟨.slice (some ⟨b, if cap' = l then off else off + l * z, none⟩) (hh - l) (cap' - l), .slice i b _ _ _ _ hρ (by omega) (fun _ => rfl) (fun e => by omega), ?_⟩
        by_cases hml : cap' = l
        · subst hml
          simp [Instr.sliceAt, Instr.slice, run_und hu, hb, run_size hS]
        · simp [Instr.sliceAt, Instr.slice, run_und hu, hb, run_size hS, hml, add_none]
      · rename_i hc
        rw [if_neg hc] at h1
        have hh1 : hh ≤ len := by
          rcases boundQ_some h1 r1 with ⟨_, _, rfl⟩ | ⟨k, n, _, _, a1, a2, rfl⟩
          · exact Nat.le_refl _
          · omega
        split at hq
        · rename_i hl0
          cases hq
          subst hl0
          refine ⟨.slice (some ⟨b, off, none⟩) hh cap', .slice i b _ _ _ _ hρ (by omega) hk hg, ?_⟩
          simp [Instr.sliceAt, Instr.slice, run_und hu, hb, run_size hS, add_none]
        · split at hq
          · rename_i hln
            cases hq
            have hml : cap' ≠ l := by omega
            refine ⟨.slice (some ⟨b, off + l * z, none⟩) (hh - l) (cap' - l), .slice i b _ _ _ _ hρ (by omega) (fun e => by simp [capX, capG] at e) (fun e => by simp [capX, capG] at e), ?_⟩
            simp [Instr.sliceAt, Instr.slice, run_und hu, hb, run_size hS, hml, add_none]
          · cases hq
  · -- an array
    rename_i n e i off hu
    obtain ⟨b, hρ, rfl⟩ := hr.to_ptr
    cases h0 : boundQ mx n n with
    | none => simp [h0] at hq
    | some m =>
    have hmn := boundQ_le h0 (Nat.le_refl _)
    cases h1 : boundQ hi m m with
    | none => simp [h0, h1] at hq
    | some hh =>
    cases h2 : boundQ lo 0 hh with
    | none => simp [h0, h1, h2] at hq
    | some l =>
    simp only [h0, h1, h2, Option.bind_some] at hq
    split at hq
    · cases hq
    · rename_i hb
      simp only [Bool.or_eq_true, decide_eq_true_eq, not_or] at hb
      have hm1 := boundQ_le h1 (Nat.le_refl _)
      have hl1 := boundQ_le h2 (Nat.zero_le _)
      have hnG : n < capG := Nat.lt_of_not_le hb.2
      cases hS : szQ P e with
      | none => simp [hS] at hq
      | some z =>
        simp only [hS, Option.bind_some, Option.some.injEq] at hq
        subst hq
        refine ⟨.slice (some ⟨b, if m = l then off else off + l * z, none⟩) (hh - l) (m - l), .slice i b _ _ _ _ hρ (by omega) (fun _ => rfl) (fun e => by omega), ?_⟩
        have hrun : (Instr.sliceBounds false n n lo' hi' mx').run P w = .ok (l, hh, m) w := by
          cases mx with
          | none =>
            obtain rfl : mx' = none := by cases mx' <;> simp_all [RelO]
            obtain rfl : n = m := by simpa [boundQ] using h0
            exact sb_none h1 (Nat.le_refl _) h2 r1 r2
          | some m0 =>
            have hhi : hi.isSome = true := by cases hi <;> simp_all
            have h0' : boundQ (some m0) 0 n = some m := by cases m0 <;> first | exact h0 | cases h0
            have h1' : boundQ hi 0 m = some hh := by
              cases hi with
              | none => cases hhi
              | some v => cases v <;> first | exact h1 | cases h1
            exact sb_some h0' rfl h1' hhi (Nat.le_refl _) h2 r0 r1 r2
        by_cases hml : m = l
        · simp [Instr.sliceAt, run_und hu, Instr.sureAddr, hrun, run_size hS, hml]
        · simp [Instr.sliceAt, run_und hu, Instr.sureAddr, hrun, run_size hS, hml, add_none]
  · cases hq
end quiet
end Go.Proofs.YtlagmjdifilheaaGreat.Exe
