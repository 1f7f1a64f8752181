/- A region whose order is open: what a run in one order tells of each operation, and of the order. Condition: what is said of the calls. -/
import Derived.Test.YtlagmjdifilheaaGreatExS
namespace Go.Proofs.YtlagmjdifilheaaGreat.Exe
open Go Go.RowKit
section same
theorem eq1_eq {u v : Value} (h : eq1 u v = true) : u = v := by
  unfold eq1 at h
  split at h
  · simp only [Bool.and_eq_true, decide_eq_true_eq] at h
    rw [h.1, h.2]
  · rename_i a b
    have : a = b := by simpa using h
    rw [this]
  · rename_i a b
    have h1 : a.data.toList = b.data.toList := by simpa using h
    have h2 : a.data = b.data := Array.toList_inj.1 h1
    cases a; cases b
    simp only at h2
    rw [h2]
  · rfl
  · simp only [Bool.and_eq_true, Nat.beq_eq] at h
    rw [h.1, h.2]
  · simp only [Bool.and_eq_true, Nat.beq_eq] at h
    rw [h.1, h.2]
  · simp only [Bool.and_eq_true, Nat.beq_eq] at h
    rw [h.1.1, h.1.2, h.2.1, h.2.2]
  · rfl
  · rw [Nat.eq_of_beq_eq_true h]
  · rfl
  · rfl
  · simp only [Bool.and_eq_true, Nat.beq_eq, Array.isEmpty_iff] at h
    obtain ⟨h1, ⟨h2, h3⟩, h4, h5⟩ := h
    rw [h1, h2, h3, h4, h5]
  · cases h
theorem eqL_eq : ∀ {u v : List Value}, eqL u v = true → u = v
  | [], [], _ => rfl
  | a :: l, b :: m, h => by
    simp only [eqL, Bool.and_eq_true] at h
    rw [eq1_eq h.1, eqL_eq h.2]
  | [], _ :: _, h => by cases h
  | _ :: _, [], h => by cases h
theorem eqV_eq {u v : Value} (h : eqV u v = true) : u = v := by
  unfold eqV at h
  split at h
  · rw [Array.toList_inj.1 (eqL_eq h)]
  · rw [Array.toList_inj.1 (eqL_eq h)]
  · exact eq1_eq h
end same
section roles
variable {P : Program} {B : Nat → Prop} {w0 : World} {h h' : Hp} {η : Operand → Value} {v : Value}
theorem role0_opL {o : Op} (hr : role P o = 0) : opL P h η o = none := by
  cases o with
  | convert s t x =>
    unfold role at hr
    simp only [opL]
    split
    · rename_i h1 h2 h3
      dsimp only at hr
      rw [h1, h2] at hr
      cases hr
    · rfl
  | call c =>
    obtain ⟨callee, args, ats⟩ := c
    cases callee with
    | builtin b => cases b <;> first | rfl | cases hr
    | _ => cases hr
  | alloc | box | buildSlice | store | makeSlice | makeMap | mapUpdate | insert => cases hr
  | _ => rfl
theorem role1_maker {o : Op} (hr : role P o = 1) : makerB o = true := by
  cases o with
  | convert s t x =>
    unfold role at hr
    dsimp only at hr
    split at hr <;> cases hr
  | call c =>
    obtain ⟨callee, args, ats⟩ := c
    cases callee with
    | builtin b => cases b <;> cases hr
    | _ => cases hr
  | alloc | box | buildSlice => rfl
  | _ => cases hr
theorem maker_opQ {o : Op} (hr : makerB o = true) : opQ P h η o = none := by
  cases o <;> first | rfl | cases hr
theorem role0_F {o : Oper} (hr : role P o.op = 0) (hF : OpF P η o h v h') : opQ P h η o.op = some v ∧ h' = h := by
  rcases hF with h1 | h1 | ⟨⟨f, xs, ats, hop⟩, _⟩
  · exact h1
  · rw [role0_opL hr] at h1; cases h1
  · rw [hop] at hr; cases hr
theorem role1_F {o : Oper} (hr : role P o.op = 1) (hF : OpF P η o h v h') : ∃ blk f i, makeQ P η o.op = some (blk, f) ∧ h.alloc blk = some (i, h') ∧ v = f i := by
  rcases hF with ⟨h1, _⟩ | h1 | ⟨⟨f, xs, ats, hop⟩, _⟩
  · rw [maker_opQ (role1_maker hr)] at h1; cases h1
  · exact make_opL (role1_maker hr) h1
  · rw [hop] at hr; cases hr
theorem make_name {o : Op} {blk : Blk} {f : Nat → Value} (hq : makeQ P η o = some (blk, f)) (i : Nat) : nameOf (f i) = some i := by
  cases o with
  | alloc e =>
    simp only [makeQ] at hq
    cases hz : zeroQ P e with
    | none => simp [hz] at hq
    | some z =>
      simp only [hz, Option.map_some, Option.some.injEq, Prod.mk.injEq] at hq
      rw [← hq.2]; rfl
  | box e x =>
    simp only [makeQ, Option.some.injEq, Prod.mk.injEq] at hq
    rw [← hq.2]; rfl
  | buildSlice t len parts =>
    simp only [makeQ] at hq
    split at hq
    · rename_i e hu
      cases hS : szQ P e with
      | none => simp [hS] at hq
      | some n =>
      cases hz : zeroQ P e with
      | none => simp [hS, hz] at hq
      | some z =>
      simp only [hS, hz, Option.bind_some] at hq
      split at hq
      · cases hq
      · cases hf : Instr.fill (fun i => some (i * n, n)) (zerosL z.cells.toList len).toArray (parts.toList.map fun (i, x) => (i, η x)) with
        | none => simp [hf] at hq
        | some cs =>
          simp only [hf, Option.map_some, Option.some.injEq, Prod.mk.injEq] at hq
          rw [← hq.2]; rfl
    · cases hq
  | _ => cases hq
end roles

section trace
variable {P : Program} {B : Nat → Prop} {w0 : World} {F : CallC} {L n : Nat} {ops : List Oper} {as : List Nat}
/-- Whether an operation is wanted. -/
def WantE (L n : Nat) (ops : List Oper) (o : Oper) (e : T4 W) : Prop := match o.guard with
  | none => True
  | some (g, want) => ∃ d, (ops[g]?).bind (·.dst) = some d ∧ evK L n e (.tmp d) = .bool want
def StepF (P : Program) (L n : Nat) (ops : List Oper) (o : Oper) (e : T4 W) (h : Hp) (v : W) (h' : Hp) : Prop := o.op.operands.toList.all opdB = true ∧
  ((WantE L n ops o e ∧ OpF P (evK L n e) o h v.val h') ∨ (¬ WantE L n ops o e ∧ v = .o undef ∧ h' = h))
theorem oper_step (hF : CallSound P F) {o : Oper} {k : KC} {e : T4 W} {h : Hp} {q : T4 W → Hp → Bool} (hr : runK P F L n (operK P L n ops o k) e h q = true) :
    ∃ v h', StepF P L n ops o e h v h' ∧ runK P F L n k ((kd L n o.dst).put e v) h' q = true := by
  unfold operK at hr
  cases hx : o.op.operands.toList.all opdB with
  | false => rw [hx] at hr; cases hr
  | true =>
    rw [hx, cond_true] at hr
    cases hg : o.guard with
    | none =>
      rw [hg] at hr
      obtain ⟨v, h', h1, h2⟩ := op_one hF hr
      exact ⟨v, h', ⟨hx, .inl ⟨by unfold WantE; rw [hg]; trivial, h1⟩⟩, h2⟩
    | some p =>
      obtain ⟨g, want⟩ := p
      rw [hg] at hr
      dsimp only at hr
      cases hd : (ops[g]?).bind (·.dst) with
      | none => rw [hd] at hr; cases hr
      | some d =>
        rw [hd] at hr
        rcases guard_cases hr with ⟨h1, h2⟩ | ⟨h1, h2⟩
        · obtain ⟨v, h', h3, h4⟩ := op_one hF h2
          exact ⟨v, h', ⟨hx, .inl ⟨by unfold WantE; rw [hg]; exact ⟨d, hd, h1⟩, h3⟩⟩, h4⟩
        · refine ⟨.o undef, h, ⟨hx, .inr ⟨fun hw => ?_, rfl, rfl⟩⟩, h2⟩
          unfold WantE at hw
          rw [hg] at hw
          obtain ⟨d', hd', hw⟩ := hw
          obtain rfl : d = d' := Option.some.inj (hd.symm.trans hd')
          exact h1 want hw rfl
/-- What is seen when an operation that may not have come up yet is looked at again. -/
def ChkJ (P : Program) (L n : Nat) (ops : List Oper) (o : Oper) (e : T4 W) (h : Hp) : Prop := WantE L n ops o e → ∃ d, o.dst = some d ∧ d < L ∧ (role P o.op = 0 → opQ P h (evK L n e) o.op = some (evK L n e (.tmp d))) ∧
  (role P o.op ≠ 0 → ∃ blk f i b, makeQ P (evK L n e) o.op = some (blk, f) ∧ evK L n e (.tmp d) = f i ∧ nameOf (evK L n e (.tmp d)) = some i ∧ h.get i = some b ∧ b.cells = blk.cells ∧ b.elem = blk.elem ∧ b.grow = blk.grow)
theorem chkQ_cases {o : Op} {x : KV} {k : KC} {e : T4 W} {h : Hp} {q : T4 W → Hp → Bool} (hr : runK P F L n (.chkQ o x k) e h q = true) : opQ P h (evK L n e) o = some (x.at e).val ∧ runK P F L n k e h q = true := by
  have hr' : (match opQ P h (evK L n e) o with
    | some v => Bool.rec false (runK P F L n k e h q) (eqV v (x.at e).val)
    | none => false) = true := hr
  cases hq : opQ P h (evK L n e) o with
  | none => rw [hq] at hr'; cases hr'
  | some v =>
    rw [hq] at hr'
    dsimp only at hr'
    cases he : eqV v (x.at e).val with
    | false => rw [he] at hr'; cases hr'
    | true =>
      rw [he] at hr'
      exact ⟨by rw [eqV_eq he], hr'⟩
theorem chkM_cases {o : Op} {x : KV} {k : KC} {e : T4 W} {h : Hp} {q : T4 W → Hp → Bool} (hr : runK P F L n (.chkM o x k) e h q = true) :
    (∃ blk f i b, makeQ P (evK L n e) o = some (blk, f) ∧ (x.at e).val = f i ∧ nameOf (x.at e).val = some i ∧ h.get i = some b ∧ b.cells = blk.cells ∧ b.elem = blk.elem ∧ b.grow = blk.grow) ∧ runK P F L n k e h q = true := by
  have hr' : (match makeQ P (evK L n e) o with
    | some (blk, f) => match nameOf (x.at e).val with
      | some i => match h.get i with
        | some b => Bool.rec false (runK P F L n k e h q) (eqV (x.at e).val (f i) && eqL b.cells blk.cells && Nat.beq b.elem blk.elem && b.grow == blk.grow)
        | none => false
      | none => false
    | none => false) = true := hr
  cases hq : makeQ P (evK L n e) o with
  | none => rw [hq] at hr'; cases hr'
  | some bf =>
    obtain ⟨blk, f⟩ := bf
    rw [hq] at hr'
    dsimp only at hr'
    cases hn : nameOf (x.at e).val with
    | none => rw [hn] at hr'; cases hr'
    | some i =>
      rw [hn] at hr'
      dsimp only at hr'
      cases hg : h.get i with
      | none => rw [hg] at hr'; cases hr'
      | some b =>
        rw [hg] at hr'
        dsimp only at hr'
        cases he : (eqV (x.at e).val (f i) && eqL b.cells blk.cells && Nat.beq b.elem blk.elem && b.grow == blk.grow) with
        | false => rw [he] at hr'; cases hr'
        | true =>
          rw [he] at hr'
          simp only [Bool.and_eq_true, beq_iff_eq] at he
          exact ⟨⟨blk, f, i, b, rfl, eqV_eq he.1.1.1, rfl, hg, eqL_eq he.1.1.2, Nat.eq_of_beq_eq_true he.1.2, he.2⟩, hr'⟩
theorem chk_ok {j : Nat} {k : KC} {e : T4 W} {h : Hp} {q : T4 W → Hp → Bool} (hr : runK P F L n (chkC P L n ops j k) e h q = true) : ChkJ P L n ops (opAt ops j) e h ∧ runK P F L n k e h q = true := by
  have inner : ∀ {q : T4 W → Hp → Bool}, runK P F L n (match (opAt ops j).dst with
    | some d => bif Nat.blt d L then (match role P (opAt ops j).op with
      | 0 => .chkQ (opAt ops j).op (kv L n (.tmp d)) k
      | _ => .chkM (opAt ops j).op (kv L n (.tmp d)) k) else .bad
    | none => .bad) e h q = true → ChkJ P L n ops (opAt ops j) e h ∧ runK P F L n k e h q = true := by
    intro q hi
    cases hd : (opAt ops j).dst with
    | none => rw [hd] at hi; cases hi
    | some d =>
      rw [hd] at hi
      dsimp only at hi
      cases hl : Nat.blt d L with
      | false => rw [hl] at hi; cases hi
      | true =>
        rw [hl, cond_true] at hi
        have hlt : d < L := Nat.le_of_ble_eq_true hl
        split at hi
        · rename_i h0
          obtain ⟨h1, h2⟩ := chkQ_cases hi
          exact ⟨fun _ => ⟨d, hd, hlt, fun _ => h1, fun hne => absurd h0 hne⟩, h2⟩
        · rename_i h0
          obtain ⟨h1, h2⟩ := chkM_cases hi
          exact ⟨fun _ => ⟨d, hd, hlt, fun he => absurd he h0, fun _ => h1⟩, h2⟩
  unfold chkC at hr
  dsimp only at hr
  cases hg : (opAt ops j).guard with
  | none => rw [hg] at hr; exact inner hr
  | some p =>
    obtain ⟨g, want⟩ := p
    rw [hg] at hr
    dsimp only at hr
    cases hd : (ops[g]?).bind (·.dst) with
    | none => rw [hd] at hr; cases hr
    | some d =>
      rw [hd] at hr
      rcases guard_cases hr with ⟨h1, h2⟩ | ⟨h1, h2⟩
      · exact inner h2
      · refine ⟨fun hw => ?_, h2⟩
        unfold WantE at hw
        rw [hg] at hw
        obtain ⟨d', hd', hw⟩ := hw
        obtain rfl : d = d' := Option.some.inj (hd.symm.trans hd')
        exact absurd rfl (h1 want hw)
def ChkF (P : Program) (L n : Nat) (ops : List Oper) (as : List Nat) (done : List Nat) (e : T4 W) (h : Hp) : Prop := ∀ pre j post, done = pre ++ j :: post → pendB P ops as j post = true → stayB ops j post = true ∧ ChkJ P L n ops (opAt ops j) e h
theorem chks_ok {e : T4 W} {h : Hp} {q : T4 W → Hp → Bool} : ∀ {done : List Nat} {k : KC}, runK P F L n (chksC P L n ops as done k) e h q = true → ChkF P L n ops as done e h ∧ runK P F L n k e h q = true
  | [], k, hr => ⟨fun pre j post hs => by simp at hs, hr⟩
  | i :: done, k, hr => by
    have cons : ∀ {Q : Prop}, ChkF P L n ops as done e h → (pendB P ops as i done = true → stayB ops i done = true ∧ ChkJ P L n ops (opAt ops i) e h) → Q → ChkF P L n ops as (i :: done) e h ∧ Q := by
      intro Q h1 h2 h3
      refine ⟨fun pre j post hs hp => ?_, h3⟩
      cases pre with
      | nil =>
        simp only [List.nil_append, List.cons.injEq] at hs
        obtain ⟨rfl, rfl⟩ := hs
        exact h2 hp
      | cons a pre =>
        simp only [List.cons_append, List.cons.injEq] at hs
        exact h1 pre j post hs.2 hp
    unfold chksC at hr
    cases hp : pendB P ops as i done with
    | false =>
      rw [hp, cond_false] at hr
      obtain ⟨h1, h2⟩ := chks_ok hr
      exact cons h1 (fun h => by rw [hp] at h; cases h) h2
    | true =>
      rw [hp, cond_true] at hr
      cases hs : stayB ops i done with
      | false => rw [hs] at hr; cases hr
      | true =>
        rw [hs, cond_true] at hr
        obtain ⟨h1, h2⟩ := chk_ok hr
        obtain ⟨h3, h4⟩ := chks_ok h2
        exact cons h3 (fun _ => ⟨hs, h1⟩) h4
/-- What a run in this order tells. -/
structure TraceF (P : Program) (L n : Nat) (ops : List Oper) (as : List Nat) (done todo : List Nat) (es : Nat → T4 W) (hs : Nat → Hp) (vs : Nat → W) : Prop where
  step : ∀ p i, todo[p]? = some i → StepF P L n ops (opAt ops i) (es p) (hs p) (vs p) (hs (p + 1))
  next : ∀ p i, todo[p]? = some i → es (p + 1) = (kd L n (opAt ops i).dst).put (es p) (vs p)
  look : ∀ p i, todo[p]? = some i → role P (opAt ops i).op = 2 → ChkF P L n ops as (done ++ todo.take p) (es p) (hs p)
  last : ChkF P L n ops as (done ++ todo) (es todo.length) (hs todo.length)
theorem draw_trace (hF : CallSound P F) : ∀ (todo done : List Nat) (e : T4 W) (h : Hp) (q : T4 W → Hp → Bool), runK P F L n (drawC P L n ops as done todo) e h q = true →
    ∃ (es : Nat → T4 W) (hs : Nat → Hp) (vs : Nat → W), es 0 = e ∧ hs 0 = h ∧ TraceF P L n ops as done todo es hs vs ∧ q (es todo.length) (hs todo.length) = true
  | [], done, e, h, q, hr => by
    have hr' : runK P F L n (chksC P L n ops as done .done) e h q = true := hr
    obtain ⟨h1, h2⟩ := chks_ok hr'
    exact ⟨fun _ => e, fun _ => h, fun _ => .o undef, rfl, rfl, ⟨fun p i hp => by simp at hp, fun p i hp => by simp at hp, fun p i hp => by simp at hp, by simpa using h1⟩, h2⟩
  | i :: todo, done, e, h, q, hr => by
    have key : (role P (opAt ops i).op = 2 → ChkF P L n ops as done e h) ∧ runK P F L n (operK P L n ops (opAt ops i) (drawC P L n ops as (done ++ [i]) todo)) e h q = true := by
      unfold drawC at hr
      cases hb : Nat.beq (role P (opAt ops i).op) 2 with
      | false =>
        rw [hb, cond_false] at hr
        exact ⟨fun h2 => (by rw [h2] at hb; cases hb), hr⟩
      | true =>
        rw [hb, cond_true] at hr
        obtain ⟨h1, h2⟩ := chks_ok hr
        exact ⟨fun _ => h1, h2⟩
    obtain ⟨hc, hr1⟩ := key
    obtain ⟨v, h', hs1, hr2⟩ := oper_step hF hr1
    obtain ⟨es, hs, vs, he, hh, T, hq⟩ := draw_trace hF todo (done ++ [i]) _ h' q hr2
    refine ⟨fun p => (match p with | 0 => e | p + 1 => es p), fun p => (match p with | 0 => h | p + 1 => hs p), fun p => (match p with | 0 => v | p + 1 => vs p), rfl, rfl, ⟨?_, ?_, ?_, ?_⟩, hq⟩
    · intro p j hp
      cases p with
      | zero =>
        simp only [List.getElem?_cons_zero, Option.some.injEq] at hp
        subst hp
        show StepF P L n ops (opAt ops i) e h v (hs 0)
        rw [hh]
        exact hs1
      | succ p => exact T.step p j (by simpa using hp)
    · intro p j hp
      cases p with
      | zero =>
        simp only [List.getElem?_cons_zero, Option.some.injEq] at hp
        subst hp
        exact he
      | succ p => exact T.next p j (by simpa using hp)
    · intro p j hp h2
      cases p with
      | zero =>
        simp only [List.getElem?_cons_zero, Option.some.injEq] at hp
        subst hp
        show ChkF P L n ops as (done ++ List.take 0 (i :: todo)) e h
        rw [List.take_zero, List.append_nil]
        exact hc h2
      | succ p =>
        have := T.look p j (by simpa using hp) h2
        simpa using this
    · have := T.last
      simpa using this
end trace
end Go.Proofs.YtlagmjdifilheaaGreat.Exe
