/- A region whose order is open: what is asked of its order, and the slots along it. No condition. -/
import Derived.Test.YtlagmjdifilheaaGreatExT
import Derived.Orders
namespace Go.Proofs.YtlagmjdifilheaaGreat.Exe
open Go Go.RowKit
section mask
theorem edge_bit {as : List Nat} {j : Nat} : ∀ {l : List Edge} {m : Nat}, (l.foldl (fun m e => bif Region.binds .any e then m ||| (2 ^ e.on ||| as.getD e.on 0) else m) m).testBit j = true →
    m.testBit j = true ∨ ∃ e ∈ l, Region.binds .any e = true ∧ (e.on = j ∨ (as.getD e.on 0).testBit j = true)
  | [], m, h => .inl h
  | e :: l, m, h => by
    simp only [List.foldl_cons] at h
    rcases edge_bit h with h1 | ⟨x, hx, h2⟩
    · cases hb : Region.binds .any e with
      | false => rw [hb] at h1; exact .inl h1
      | true =>
        rw [hb, cond_true] at h1
        simp only [Nat.testBit_or, Bool.or_eq_true, Nat.testBit_two_pow, decide_eq_true_eq] at h1
        rcases h1 with h1 | h1 | h1
        · exact .inl h1
        · exact .inr ⟨e, by simp, hb, .inl h1⟩
        · exact .inr ⟨e, by simp, hb, .inr h1⟩
    · exact .inr ⟨x, by simp [hx], h2⟩
end mask
section good
variable {P : Program} {ops : List Oper} {as : List Nat} {ord : List Nat}
structure Orderly (P : Program) (ops : List Oper) (as ord : List Nat) : Prop where
  lt : ∀ {p i : Nat}, ord[p]? = some i → i < ops.length
  inj : ∀ {p q i : Nat}, ord[p]? = some i → ord[q]? = some i → p = q
  mask : ∀ {p i : Nat}, ord[p]? = some i → ancOf as i = edgeMask as (opAt ops i)
  edge : ∀ {p i : Nat}, ord[p]? = some i → ∀ e ∈ (opAt ops i).after.toList, Region.binds .any e = true → e.on < i
  dst : ∀ {p q i j d : Nat}, ord[p]? = some i → ord[q]? = some j → (opAt ops i).dst = some d → (opAt ops j).dst = some d → p = q
  before : ∀ {p q i j t : Nat}, q < p → ord[p]? = some i → ord[q]? = some j → t ∈ temps ops (opAt ops i) → (opAt ops j).dst = some t → (ancOf as i).testBit j = true
  behind : ∀ {p q i j t : Nat}, p < q → ord[p]? = some i → ord[q]? = some j → t ∈ temps ops (opAt ops i) → (opAt ops j).dst = some t → (ancOf as j).testBit i = true
  wr : ∀ {p q i j : Nat}, q < p → ord[p]? = some i → ord[q]? = some j → role P (opAt ops j).op = 2 → (ancOf as i).testBit j = true
  guard : ∀ {p i g : Nat} {want : Bool}, ord[p]? = some i → (opAt ops i).guard = some (g, want) → ∃ d, (ops[g]?).bind (·.dst) = some d
theorem okIts_at : ∀ {ord done : List Nat}, okIts P ops as done ord = true → ∀ (p i : Nat), ord[p]? = some i → okIt P ops as (done ++ ord.take p) i (ord.drop (p + 1)) = true
  | [], _, _, p, i, hp => by simp at hp
  | x :: ord, done, h, p, i, hp => by
    simp only [okIts, Bool.and_eq_true] at h
    cases p with
    | zero =>
      simp only [List.getElem?_cons_zero, Option.some.injEq] at hp
      subst hp
      simpa using h.1
    | succ p =>
      have := okIts_at h.2 p i (by simpa using hp)
      simpa using this
theorem mem_take {p q j : Nat} (hq : q < p) (hj : ord[q]? = some j) : j ∈ ord.take p := List.mem_of_getElem? (i := q) (by rw [List.getElem?_take, if_pos hq]; exact hj)
theorem mem_drop {p q j : Nat} (hq : p < q) (hj : ord[q]? = some j) : j ∈ ord.drop (p + 1) := List.mem_of_getElem? (i := q - (p + 1)) (by rw [List.getElem?_drop, show p + 1 + (q - (p + 1)) = q by omega]; exact hj)
theorem good_of (h : okIts P ops as [] ord = true) : Orderly P ops as ord := by
  have key : ∀ {p i : Nat}, ord[p]? = some i → okIt P ops as (ord.take p) i (ord.drop (p + 1)) = true := fun {p i} hp => by simpa using okIts_at h p i hp
  have ex : ∀ {p i : Nat}, ord[p]? = some i → i < ops.length ∧ (∀ j ∈ ord.take p, j ≠ i) ∧ ancOf as i = edgeMask as (opAt ops i) ∧ (∀ e ∈ (opAt ops i).after.toList, Region.binds .any e = true → e.on < i) ∧
      (∀ d, (opAt ops i).dst = some d → ∀ j ∈ ord.take p, (opAt ops j).dst ≠ some d) ∧ (∀ t ∈ temps ops (opAt ops i), (∀ j ∈ ord.drop (p + 1), (opAt ops j).dst = some t → (ancOf as j).testBit i = true) ∧ ∀ j ∈ ord.take p, (opAt ops j).dst = some t → (ancOf as i).testBit j = true) ∧
      (∀ j ∈ ord.take p, role P (opAt ops j).op = 2 → (ancOf as i).testBit j = true) ∧ ∀ g want, (opAt ops i).guard = some (g, want) → ∃ d, (ops[g]?).bind (·.dst) = some d := by
    intro p i hp
    have hk := key hp
    simp only [okIt, Bool.and_eq_true] at hk
    obtain ⟨⟨⟨⟨⟨⟨⟨k1, k2⟩, k3⟩, k4⟩, k5⟩, k6⟩, k7⟩, k8⟩ := hk
    refine ⟨Nat.le_of_ble_eq_true k1, fun j hj e => ?_, Nat.eq_of_beq_eq_true k3, fun e he hb => ?_, fun d hd j hj hd' => ?_, fun t ht => ⟨fun j hj hd => ?_, fun j hj hd => ?_⟩, fun j hj hr => ?_, fun g want hg => ?_⟩
    · have := List.all_eq_true.1 k2 j hj
      rw [e, Nat.beq_refl] at this
      cases this
    · have := List.all_eq_true.1 k4 e he
      rw [hb] at this
      exact Nat.le_of_ble_eq_true (show Nat.blt e.on i = true by simpa using this)
    · rw [hd] at k5
      have := List.all_eq_true.1 k5 j hj
      rw [hd'] at this
      simp at this
    · have h1 := List.all_eq_true.1 k6 t ht
      simp only [Bool.and_eq_true] at h1
      have := List.all_eq_true.1 h1.1 j hj
      rw [hd] at this
      simpa using this
    · have h1 := List.all_eq_true.1 k6 t ht
      simp only [Bool.and_eq_true] at h1
      have := List.all_eq_true.1 h1.2 j hj
      rw [hd] at this
      simpa using this
    · have := List.all_eq_true.1 k7 j hj
      rw [hr] at this
      simpa using this
    · rw [hg] at k8
      exact Option.isSome_iff_exists.1 k8
  refine ⟨fun hp => (ex hp).1, fun {p q i} hp hq => ?_, fun hp => (ex hp).2.2.1, fun hp => (ex hp).2.2.2.1, fun {p q i j d} hp hq hd hd' => ?_, fun hqp hp hq ht hd => ((ex hp).2.2.2.2.2.1 _ ht).2 _ (mem_take hqp hq) hd,
    fun hpq hp hq ht hd => ((ex hp).2.2.2.2.2.1 _ ht).1 _ (mem_drop hpq hq) hd, fun hqp hp hq hr => (ex hp).2.2.2.2.2.2.1 _ (mem_take hqp hq) hr, fun hp hg => (ex hp).2.2.2.2.2.2.2 _ _ hg⟩
  · rcases Nat.lt_trichotomy p q with hlt | rfl | hlt
    · exact absurd rfl ((ex hq).2.1 i (mem_take hlt hp))
    · rfl
    · exact absurd rfl ((ex hp).2.1 i (mem_take hlt hq))
  · rcases Nat.lt_trichotomy p q with hlt | rfl | hlt
    · exact absurd hd ((ex hq).2.2.2.2.1 d hd' i (mem_take hlt hp))
    · rfl
    · exact absurd hd' ((ex hp).2.2.2.2.1 d hd j (mem_take hlt hq))
theorem role_lt (o : Op) : role P o = 0 ∨ role P o = 1 ∨ role P o = 2 := by
  unfold role
  split
  all_goals first
    | exact .inr (.inl rfl)
    | exact .inr (.inr rfl)
    | exact .inl rfl
    | (split <;> first | exact .inr (.inr rfl) | exact .inl rfl)
end good

section slots
variable {P : Program} {B : Nat → Prop} {w0 : World} {L n : Nat} {ops : List Oper} {as ord : List Nat} {es : Nat → T4 W} {hs : Nat → Hp} {vs : Nat → W}
theorem slot_next (hL : L ≤ 4 ^ n) (T : TraceF P L n ops as [] ord es hs vs) {p i t : Nat} (hp : ord[p]? = some i) (ht : t < L) : slotV n (es (p + 1)) t = if (opAt ops i).dst = some t then (vs p).val else slotV n (es p) t := by
  rw [T.next p i hp]
  cases hd : (opAt ops i).dst with
  | none => simp [kd, KD.put]
  | some d =>
    show slotV n ((bif Nat.blt d L then KD.slot (path n d) else KD.no).put (es p) (vs p)) t = _
    by_cases hdL : d < L
    · rw [show Nat.blt d L = true from Nat.ble_eq_true_of_le hdL]
      show slotV n (T4.put (.leaf (vs p)) (path n d) (es p)) t = _
      rw [slot_put (Nat.lt_of_lt_of_le hdL hL) (Nat.lt_of_lt_of_le ht hL)]
      by_cases htd : t = d
      · subst htd; simp
      · have : ¬ (some d = some t) := fun e => htd (Option.some.inj e).symm
        rw [if_neg htd, if_neg this]
    · rw [show Nat.blt d L = false from Bool.eq_false_iff.2 fun h => hdL (Nat.le_of_ble_eq_true h)]
      have : ¬ (some d = some t) := fun e => hdL (by rw [Option.some.inj e]; exact ht)
      rw [if_neg this]
      rfl
theorem ord_at {ord : List Nat} {p : Nat} (hp : p < ord.length) : ∃ i, ord[p]? = some i := ⟨ord[p], List.getElem?_eq_getElem hp⟩
theorem es_none (hL : L ≤ 4 ^ n) (T : TraceF P L n ops as [] ord es hs vs) {t : Nat} (ht : t < L) : ∀ {p q : Nat}, q ≤ p → p ≤ ord.length → (∀ r j, q ≤ r → r < p → ord[r]? = some j → (opAt ops j).dst ≠ some t) → slotV n (es p) t = slotV n (es q) t := by
  intro p
  induction p with
  | zero => intro q hq _ _; obtain rfl : q = 0 := by omega
            rfl
  | succ p ih =>
    intro q hq hp h
    by_cases he : q = p + 1
    · rw [he]
    · obtain ⟨i, hi⟩ := ord_at (ord := ord) (p := p) (by omega)
      rw [slot_next hL T hi ht, if_neg (h p i (by omega) (by omega) hi)]
      exact ih (by omega) (by omega) fun r j h1 h2 h3 => h r j h1 (by omega) h3
theorem es_some (hL : L ≤ 4 ^ n) (G : Orderly P ops as ord) (T : TraceF P L n ops as [] ord es hs vs) {t p q j : Nat} (ht : t < L) (hq : q < p) (hp : p ≤ ord.length) (hj : ord[q]? = some j) (hd : (opAt ops j).dst = some t) : slotV n (es p) t = (vs q).val := by
  rw [es_none hL T ht (q := q + 1) (by omega) hp fun r i h1 h2 h3 hd' => ?_, slot_next hL T hj ht, if_pos hd]
  have := G.dst h3 hj hd' hd
  omega
/-- The slots that an operation looks at, along a stretch where none is written. -/
theorem ev_stay (hL : L ≤ 4 ^ n) (T : TraceF P L n ops as [] ord es hs vs) {o : Oper} {p m : Nat} (hpm : p ≤ m) (hm : m ≤ ord.length) (h : ∀ t ∈ temps ops o, ∀ r j, p ≤ r → r < m → ord[r]? = some j → (opAt ops j).dst ≠ some t) {t : Nat} (ht : t ∈ temps ops o) : evK L n (es m) (.tmp t) = evK L n (es p) (.tmp t) := by
  by_cases hL' : t < L
  · rw [evK_tmp hL', evK_tmp hL']
    exact es_none hL T hL' hpm hm (h t ht)
  · rw [evK_out hL', evK_out hL']
theorem op_temps {o : Oper} {t : Nat} (h : Operand.tmp t ∈ o.op.operands.toList) : t ∈ temps ops o := by
  unfold temps
  rw [List.mem_append]
  left
  exact List.mem_filterMap.2 ⟨_, h, rfl⟩
theorem guard_temps {o : Oper} {g : Nat} {want : Bool} {d : Nat} (hg : o.guard = some (g, want)) (hd : (ops[g]?).bind (·.dst) = some d) : d ∈ temps ops o := by
  unfold temps
  rw [List.mem_append]
  right
  rw [hg]
  dsimp only
  rw [hd]
  simp
theorem ev_ops {o : Oper} {e e' : T4 W} (h : ∀ t ∈ temps ops o, evK L n e (.tmp t) = evK L n e' (.tmp t)) : ∀ x ∈ o.op.operands.toList, evK L n e x = evK L n e' x := fun x hx => by
  cases x with
  | tmp t => exact h t (op_temps hx)
  | _ => rfl
theorem want_same {o : Oper} {e e' : T4 W} (h : ∀ t ∈ temps ops o, evK L n e (.tmp t) = evK L n e' (.tmp t)) : WantE L n ops o e ↔ WantE L n ops o e' := by
  unfold WantE
  cases hg : o.guard with
  | none => exact Iff.rfl
  | some p =>
    obtain ⟨g, want⟩ := p
    dsimp only
    constructor
    · rintro ⟨d, hd, hv⟩
      exact ⟨d, hd, by rw [← h d (guard_temps hg hd)]; exact hv⟩
    · rintro ⟨d, hd, hv⟩
      exact ⟨d, hd, by rw [h d (guard_temps hg hd)]; exact hv⟩
/-- The operands of one operation. -/
def opP (ops : List Oper) (o : Oper) : Operand → Bool
  | .tmp t => decide (t ∈ temps ops o)
  | x => opdB x
theorem opP_all {o : Oper} (h : o.op.operands.toList.all opdB = true) : o.op.operands.toList.all (opP ops o) = true := by
  rw [List.all_eq_true] at h ⊢
  intro x hx
  cases x with
  | tmp t => simpa [opP] using op_temps hx
  | const v => exact h _ hx
  | global g => exact h _ hx
  | func f => exact h _ hx
/-- The heap along a stretch where nothing is made or written. -/
theorem hs_same (T : TraceF P L n ops as [] ord es hs vs) {p : Nat} : ∀ {m : Nat}, p ≤ m → m ≤ ord.length → (∀ r j, p ≤ r → r < m → ord[r]? = some j → role P (opAt ops j).op = 0) → hs m = hs p := by
  intro m
  induction m with
  | zero => intro hp _ _; obtain rfl : p = 0 := by omega
            rfl
  | succ m ih =>
    intro hp hm h
    by_cases he : p = m + 1
    · rw [he]
    · obtain ⟨i, hi⟩ := ord_at (ord := ord) (p := m) (by omega)
      rw [← ih (by omega) (by omega) fun r j h1 h2 h3 => h r j h1 (by omega) h3]
      rcases (T.step m i hi).2 with ⟨_, hF⟩ | ⟨_, _, hh⟩
      · exact (role0_F (h m i (by omega) (by omega) hi) hF).2
      · exact hh
/-- One step that writes nothing. -/
theorem hs_step (T : TraceF P L n ops as [] ord es hs vs) {p i : Nat} (hp : ord[p]? = some i) (hr : role P (opAt ops i).op ≠ 2) :
    (hs (p + 1) = hs p ∧ ¬ (role P (opAt ops i).op = 1 ∧ WantE L n ops (opAt ops i) (es p))) ∨ ∃ blk nm, (hs p).alloc blk = some (nm, hs (p + 1)) ∧ nameOf (vs p).val = some nm := by
  rcases (T.step p i hp).2 with ⟨hw, hF⟩ | ⟨hw, _, hh⟩
  · rcases role_lt (P := P) (opAt ops i).op with h0 | h1 | h2
    · exact .inl ⟨(role0_F h0 hF).2, fun h => by rw [h0] at h; cases h.1⟩
    · obtain ⟨blk, f, nm, k1, k2, k3⟩ := role1_F h1 hF
      exact .inr ⟨blk, nm, k2, by rw [k3]; exact make_name k1 nm⟩
    · exact absurd h2 hr
  · exact .inl ⟨hh, fun h => hw h.2⟩
/-- A stretch that writes nothing: the world stays, names are added. -/
theorem floats (T : TraceF P L n ops as [] ord es hs vs) {E : Env} {w : World} {p : Nat} : ∀ {m : Nat}, p ≤ m → m ≤ ord.length → (∀ r j, p ≤ r → r < m → ord[r]? = some j → role P (opAt ops j).op ≠ 2) → WR E P B w0 w (hs p) →
    WR E P B w0 w (hs m) ∧ (hs p).next ≤ (hs m).next ∧ (∀ r j, p ≤ r → r < m → ord[r]? = some j → role P (opAt ops j).op = 1 → WantE L n ops (opAt ops j) (es r) → ∃ nm, nameOf (vs r).val = some nm ∧ (hs p).next ≤ nm ∧ nm < (hs m).next ∧ E.ρ nm = none) ∧
      ∀ r s i j nm, p ≤ r → r < s → s < m → ord[r]? = some i → ord[s]? = some j → role P (opAt ops i).op = 1 → role P (opAt ops j).op = 1 → WantE L n ops (opAt ops i) (es r) → WantE L n ops (opAt ops j) (es s) → nameOf (vs r).val = some nm → nameOf (vs s).val ≠ some nm := by
  intro m
  induction m with
  | zero => intro hp _ _ W; obtain rfl : p = 0 := by omega
            exact ⟨W, Nat.le_refl _, fun r j _ h => by omega, fun r s i j nm _ h1 h2 => by omega⟩
  | succ m ih =>
    intro hp hm h W
    by_cases he : p = m + 1
    · subst he
      exact ⟨W, Nat.le_refl _, fun r j _ h => by omega, fun r s i j nm _ h1 h2 => by omega⟩
    · obtain ⟨i, hi⟩ := ord_at (ord := ord) (p := m) (by omega)
      obtain ⟨W1, n1, a1, d1⟩ := ih (by omega) (by omega) (fun r j h1 h2 h3 => h r j h1 (by omega) h3) W
      rcases hs_step T hi (h m i (by omega) (by omega) hi) with ⟨hh, hno⟩ | ⟨blk, nm, hal, hnm⟩
      · rw [hh]
        refine ⟨W1, n1, fun r j h1 h2 h3 h4 h5 => ?_, fun r s x y nm h1 h2 h3 h4 h5 h6 h7 h8 h9 => ?_⟩
        · by_cases hrm : r = m
          · subst hrm
            obtain rfl : i = j := Option.some.inj (hi.symm.trans h3)
            exact absurd ⟨h4, h5⟩ hno
          · exact a1 r j h1 (by omega) h3 h4 h5
        · by_cases hsm : s = m
          · subst hsm
            obtain rfl : i = y := Option.some.inj (hi.symm.trans h5)
            exact absurd ⟨h7, h9⟩ hno
          · exact d1 r s x y nm h1 h2 (by omega) h4 h5 h6 h7 h8 h9
      · have hn := allocOb_next hal
        have hnme := (allocOb_some hal).1
        refine ⟨W1.float hal, by omega, fun r j h1 h2 h3 h4 h5 => ?_, fun r s x y nm' h1 h2 h3 h4 h5 h6 h7 h8 h9 h10 => ?_⟩
        · by_cases hrm : r = m
          · subst hrm
            exact ⟨nm, hnm, by omega, by omega, by rw [hnme]; exact W1.fresh _ (Nat.le_refl _)⟩
          · obtain ⟨nm', k1, k2, k3, k4⟩ := a1 r j h1 (by omega) h3 h4 h5
            exact ⟨nm', k1, k2, by omega, k4⟩
        · by_cases hsm : s = m
          · subst hsm
            obtain ⟨nm2, k1, k2, k3, k4⟩ := a1 r x h1 h2 h4 h6 h8
            intro e
            rw [hnm] at e
            have e1 := Option.some.inj e
            rw [h10] at k1
            have e2 := Option.some.inj k1
            omega
          · exact d1 r s x y nm' h1 h2 (by omega) h4 h5 h6 h7 h8 h9 h10
theorem next_stop : ∀ (k p : Nat), p + k = ord.length → ∃ m, p ≤ m ∧ m ≤ ord.length ∧ (m = ord.length ∨ ∃ i, ord[m]? = some i ∧ role P (opAt ops i).op = 2) ∧ ∀ r j, p ≤ r → r < m → ord[r]? = some j → role P (opAt ops j).op ≠ 2
  | 0, p, h => ⟨p, Nat.le_refl _, by omega, .inl (by omega), fun r j h1 h2 => by omega⟩
  | k + 1, p, h => by
    obtain ⟨i, hi⟩ := ord_at (ord := ord) (p := p) (by omega)
    by_cases hr : role P (opAt ops i).op = 2
    · exact ⟨p, Nat.le_refl _, by omega, .inr ⟨i, hi, hr⟩, fun r j h1 h2 => by omega⟩
    · obtain ⟨m, h1, h2, h3, h4⟩ := next_stop k (p + 1) (by omega)
      refine ⟨m, by omega, h2, h3, fun r j h5 h6 h7 => ?_⟩
      by_cases hrp : r = p
      · subst hrp
        obtain rfl : i = j := Option.some.inj (hi.symm.trans h7)
        exact hr
      · exact h4 r j (by omega) h6 h7
end slots
end Go.Proofs.YtlagmjdifilheaaGreat.Exe
