/- A region whose order is open, of whose operations one makes memory and some hang on what it made; all others only read, or call what changes nothing that was there: whatever the order, the tail finds one frame. Conditions: those that are named. -/
import Derived.Test.YthkibccfdpbojaaMad
namespace Go.Proofs.Ythkibccfdpbojaa.Dep
open Go Go.RowKit
open Any (puts upd headB)
open Mad (looks selects puts_eval_congr head_op)
variable {P : Program} {ops : Array Oper} {Q : Exit → Act → World → Prop}
/-- These operations of a list. -/
def sel (l : List Oper) : List Nat → List Oper
  | [] => []
  | i :: is => match l[i]? with
    | some o => o :: sel l is
    | none => sel l is
theorem sel_append (l : List Oper) : ∀ is js, sel l (is ++ js) = sel l is ++ sel l js
  | [], _ => rfl
  | i :: is, js => by
    simp only [List.cons_append, sel]
    cases l[i]? with
    | none => exact sel_append l is js
    | some o => simp only [List.cons_append, sel_append l is js]
theorem mem_sel {l : List Oper} {o : Oper} : ∀ {is : List Nat}, o ∈ sel l is → ∃ j ∈ is, l[j]? = some o
  | [], h => by cases h
  | i :: is, h => by
    simp only [sel] at h
    cases hi : l[i]? with
    | none =>
      rw [hi] at h
      obtain ⟨j, h1, h2⟩ := mem_sel h
      exact ⟨j, List.mem_cons_of_mem _ h1, h2⟩
    | some o' =>
      rw [hi] at h
      rcases List.mem_cons.1 h with rfl | h
      · exact ⟨i, List.mem_cons_self, hi⟩
      · obtain ⟨j, h1, h2⟩ := mem_sel h
        exact ⟨j, List.mem_cons_of_mem _ h1, h2⟩
/-- Who reads a slot of the head waits for the one that writes it; who does not hang on the one that makes memory reads nothing that does. -/
def depB (ops : Array Oper) (n m : Nat) (Bs : List Nat) : Bool := !Bs.contains m && (List.range n).all fun i => match ops[i]? with
  | some o => !selects o.op && o.dst.isSome && (!Bs.contains i || o.after.toList.any fun e => Region.binds .any e && (decide (e.on = m) || Bs.contains e.on)) && (List.range n).all fun j => match ops[j]? with
    | some oj => (match oj.dst with
      | some d => !(looks o d) || (decide (j < i) && (Bs.contains i || (decide (j ≠ m) && !Bs.contains j)) && o.after.toList.any fun e => decide (e.on = j) && Region.binds .any e)
      | none => false)
    | none => false
  | none => false
/-- The slots of the head lie in the frame. -/
def slotsB (ops : Array Oper) (n N : Nat) : Bool := (List.range n).all fun i => match ops[i]? with
  | some o => (match o.dst with | some d => decide (d < N) | none => false)
  | none => false
theorem of_dep {n m i : Nat} {Bs : List Nat} (h : depB ops n m Bs = true) {o : Oper} (hi : i < n) (ho : ops[i]? = some o) : (∀ cs b, o.op ≠ .select cs b) ∧ (∃ d, o.dst = some d) ∧
    (Bs.contains i = true → ∃ e ∈ o.after, Region.binds .any e = true ∧ (e.on = m ∨ Bs.contains e.on = true)) ∧
    ∀ j oj d, j < n → ops[j]? = some oj → oj.dst = some d → looks o d = true → j < i ∧ (Bs.contains i = true ∨ (j ≠ m ∧ Bs.contains j = false)) ∧ ∃ e ∈ o.after, e.on = j ∧ Region.binds .any e = true := by
  simp only [depB, Bool.and_eq_true] at h
  have h1 := List.all_eq_true.1 h.2 i (List.mem_range.2 hi)
  simp only [ho, Bool.and_eq_true] at h1
  obtain ⟨⟨⟨hs, hd⟩, hb⟩, ha⟩ := h1
  refine ⟨fun cs b e => ?_, Option.isSome_iff_exists.1 hd, fun hc => ?_, fun j oj d hj hoj hdj hl => ?_⟩
  · rw [e] at hs
    simp [selects] at hs
  · simp only [hc, Bool.not_true, Bool.false_or] at hb
    obtain ⟨e, he, h3⟩ := List.any_eq_true.1 hb
    simp only [Bool.and_eq_true, Bool.or_eq_true, decide_eq_true_eq] at h3
    exact ⟨e, by simpa using he, h3.1, h3.2⟩
  · have h2 := List.all_eq_true.1 ha j (List.mem_range.2 hj)
    simp only [hoj, hdj, hl, Bool.not_true, Bool.false_or, Bool.and_eq_true, decide_eq_true_eq] at h2
    obtain ⟨⟨h3, h4⟩, h5⟩ := h2
    obtain ⟨e, he, h6⟩ := List.any_eq_true.1 h5
    simp only [Bool.and_eq_true, decide_eq_true_eq] at h6
    refine ⟨h3, ?_, e, by simpa using he, h6.1, h6.2⟩
    simp only [Bool.or_eq_true, Bool.and_eq_true, decide_eq_true_eq, Bool.not_eq_true'] at h4
    exact h4
theorem put_defers (a : Act) (d : Option Tmp) (v : Value) : (a.put d v).defers = a.defers := by cases d <;> rfl
/-- What the frame at the end has of the one at the begin. -/
theorem ends {C : World → Prop} {Fend : Act} : ∀ (os : List Oper) (a0 : Act), (∀ o ∈ os, o.guard = none) → wpQuiet P ops C (fun F => F = Fend) os a0 →
    Fend.tmps.size = a0.tmps.size ∧ Fend.defers = a0.defers ∧ ∀ d, (∀ o ∈ os, o.dst ≠ some d) → Fend.eval (.tmp d) = a0.eval (.tmp d)
  | [], a0, _, h => by
    have e : a0 = Fend := h
    subst e
    exact ⟨rfl, rfl, fun _ _ => rfl⟩
  | o :: os, a0, hg, h => by
    unfold wpQuiet at h
    rw [if_pos (by simp [Region.wanted, hg o List.mem_cons_self])] at h
    obtain ⟨v, _, hr⟩ := h
    obtain ⟨h1, h2, h3⟩ := ends os _ (fun o' h' => hg o' (List.mem_cons_of_mem _ h')) hr
    refine ⟨by rw [h1, Any.put_size], by rw [h2, put_defers], fun d hd => ?_⟩
    rw [h3 d (fun o' h' => hd o' (List.mem_cons_of_mem _ h')), Any.put_eval_other _ _ _ _ (hd o List.mem_cons_self)]
/-- What each operation of a quiet walk yields: what the frame at the end has. -/
theorem each {C : World → Prop} {Fend : Act} : ∀ (os : List Oper) (a0 : Act), (∀ o ∈ os, o.guard = none) → os.Pairwise (fun o o' => ∀ d, o.dst = some d → o'.dst ≠ some d) → (∀ o ∈ os, ∀ d, o.dst = some d → d < a0.tmps.size) →
    wpQuiet P ops C (fun F => F = Fend) os a0 → ∀ pre o post d, os = pre ++ o :: post → o.dst = some d →
    ∃ ρ : Act, (∀ w, C w → o.quietAt P ρ C w (Fend.eval (.tmp d))) ∧ ∀ d', (∀ o' ∈ o :: post, o'.dst ≠ some d') → ρ.eval (.tmp d') = Fend.eval (.tmp d')
  | [], _, _, _, _, _, pre, o, post, d, he, _ => by cases pre <;> cases he
  | o0 :: os, a0, hg, hp, hs, h, pre, o, post, d, he, hd => by
    have h0 := h
    unfold wpQuiet at h
    rw [if_pos (by simp [Region.wanted, hg o0 List.mem_cons_self])] at h
    obtain ⟨v, hq, hr⟩ := h
    have hg' : ∀ o ∈ os, o.guard = none := fun o' h' => hg o' (List.mem_cons_of_mem _ h')
    have hp' := List.pairwise_cons.1 hp
    cases pre with
    | nil =>
      simp only [List.nil_append, List.cons.injEq] at he
      obtain ⟨rfl, rfl⟩ := he
      have hv : Fend.eval (.tmp d) = v := by
        rw [(ends os _ hg' hr).2.2 d (fun o' h' => hp'.1 o' h' d hd), hd]
        exact Any.put_eval_same _ d v (hs o0 List.mem_cons_self d hd)
      refine ⟨a0, fun w hw => by rw [hv]; exact hq w hw, fun d' hd' => ((ends _ _ hg h0).2.2 d' hd').symm⟩
    | cons p pre =>
      simp only [List.cons_append, List.cons.injEq] at he
      exact each os _ hg' hp'.2 (fun o' h' d' hd' => by rw [Any.put_size]; exact hs o' (List.mem_cons_of_mem _ h') d' hd') hr pre o post d he.2 hd
theorem quietAt_congr {C : World → Prop} {o : Oper} {ρ ρ' : Act} {w : World} {v : Value} (hs : ∀ cs b, o.op ≠ .select cs b) (h : ∀ d, looks o d = true → ρ.eval (.tmp d) = ρ'.eval (.tmp d)) (hq : o.quietAt P ρ C w v) : o.quietAt P ρ' C w v := by
  have e : execOp ρ.eval o = execOp ρ'.eval o := execOp_congr o hs fun x hx => by
    cases x with
    | tmp d => exact h d (List.any_eq_true.2 ⟨.tmp d, by simpa using hx, by simp⟩)
    | const v => rfl
    | global g => rfl
    | func f => rfl
  unfold Oper.quietAt at hq ⊢
  rwa [← e]
theorem sorted_split {is : List Nat} (hs : is.Pairwise (· < ·)) {i : Nat} (hi : i ∈ is) : ∃ pre post, is = pre ++ i :: post ∧ ∀ j ∈ post, i < j := by
  obtain ⟨pre, post, rfl⟩ := List.append_of_mem hi
  refine ⟨pre, post, rfl, fun j hj => ?_⟩
  exact (List.pairwise_cons.1 (List.pairwise_append.1 hs).2.1).1 j hj
theorem act_ext {a b : Act} (h1 : a.tmps.size = b.tmps.size) (h2 : a.defers = b.defers) (h : ∀ d, a.eval (.tmp d) = b.eval (.tmp d)) : a = b := by
  obtain ⟨t, ds⟩ := a
  obtain ⟨t', ds'⟩ := b
  simp only at h1 h2
  subst h2
  congr 1
  apply Array.ext h1
  intro i hi hi'
  have := h i
  simp only [Act.eval] at this
  simpa [hi, hi'] using this
theorem puts_defers (σ : Nat → Option Value) : ∀ n (a : Act), (puts ops σ n a).defers = a.defers
  | 0, _ => rfl
  | n + 1, a => by
    unfold puts
    split
    · rw [put_defers, puts_defers σ n a]
    · exact puts_defers σ n a
/-- The region. -/
theorem region_dep {ι : Type} {id : Nat} {a : Act} {w : World} {l : List Oper} (n m : Nat) (As Bs : List Nat) (N : Nat) (om : Oper) (hom : l[m]? = some om) (hm : P.follows .mixedOrders = true) (hB : headB .any l.toArray n = true) (hD : depB l.toArray n m Bs = true) (hmn : m < n)
    (hAs : ((List.range n).filter fun i => decide (i ≠ m) && !Bs.contains i) = As) (hBs : ((List.range n).filter fun i => Bs.contains i) = Bs) (hN : a.tmps.size = N) (hsz : slotsB l.toArray n N = true)
    (mk : ι → Value) (Made : World → ι → Prop) (F0 : Act) (F1 : ι → Act)
    (hA : ∀ w1, Below w.drew.heap.size w.drew w1 → wpQuiet P l.toArray (Cls.In (Cls.Kept w1)) (fun F => F = F0) (sel l As) a)
    (hM : ∀ w1, Below w.drew.heap.size w.drew w1 → ∃ x w2, (execOp F0.eval om).run P w1 = .ok (.value (mk x)) w2 ∧ Below w1.heap.size w1 w2 ∧ Made w2 x)
    (mono : ∀ x w1 w2, Made w1 x → Below w1.heap.size w1 w2 → Made w2 x)
    (hQ : ∀ x w1, Below w.drew.heap.size w.drew w1 → Made w1 x → wpQuiet P l.toArray (Cls.In (Cls.Kept w1)) (fun F => F = F1 x) (sel l Bs) (F0.put om.dst (mk x)))
    (last : ∀ x w1, Below w.drew.heap.size w.drew w1 → Made w1 x → wpList P l.toArray Q (l.drop n) (F1 x) w1) : (Code.region id l.toArray true).wp P Q a w := by
  have hn : n < l.length := by
    simp only [headB, Bool.and_eq_true, decide_eq_true_eq] at hB
    simpa using hB.1.1.1.1
  have hget : ∀ i, i < n → ∃ o, l[i]? = some o := fun i hi => ⟨_, List.getElem?_eq_getElem (by omega)⟩
  have hdst : ∀ i o, i < n → l[i]? = some o → ∃ d, o.dst = some d ∧ d < N := fun i o hi ho => by
    have h1 := List.all_eq_true.1 hsz i (List.mem_range.2 hi)
    have ho' : l.toArray[i]? = some o := by simpa using ho
    simp only [ho'] at h1
    cases hd : o.dst with
    | none => simp [hd] at h1
    | some d => simp only [hd, decide_eq_true_eq] at h1; exact ⟨d, rfl, h1⟩
  have hdiff : ∀ i j o oj, i < n → j < n → i ≠ j → l[i]? = some o → l[j]? = some oj → ∀ d, o.dst = some d → oj.dst ≠ some d := fun i j o oj hi hj hne ho hoj d hd => by
    obtain ⟨o', ho', _, hx⟩ := head_op hB hi
    have ho2 : l[i]? = some o' := by simpa using ho'
    obtain rfl := Option.some.inj (ho.symm.trans ho2)
    exact hx j oj hj (fun e => hne e.symm) (by simpa using hoj) d hd
  have hguard : ∀ i o, i < n → l[i]? = some o → o.guard = none := fun i o hi ho => by
    obtain ⟨o', ho', hg, _⟩ := head_op hB hi
    have ho2 : l[i]? = some o' := by simpa using ho'
    obtain rfl := Option.some.inj (ho.symm.trans ho2)
    exact hg
  have hmB : Bs.contains m = false := by
    simp only [depB, Bool.and_eq_true, Bool.not_eq_true'] at hD
    exact hD.1
  have memA : ∀ i, i ∈ As ↔ i < n ∧ i ≠ m ∧ Bs.contains i = false := fun i => by
    rw [← hAs, List.mem_filter, List.mem_range]
    simp only [Bool.and_eq_true, decide_eq_true_eq, Bool.not_eq_true']
  have memB : ∀ i, i ∈ Bs ↔ i < n ∧ Bs.contains i = true := fun i => by
    conv => lhs; rw [← hBs]
    rw [List.mem_filter, List.mem_range]
  have hcon : ∀ i, i ∈ Bs → Bs.contains i = true := fun i hi => ((memB i).1 hi).2
  have sA : As.Pairwise (· < ·) := by rw [← hAs]; exact List.pairwise_lt_range.filter _
  have sB : Bs.Pairwise (· < ·) := by rw [← hBs]; exact List.pairwise_lt_range.filter _
  have pw : ∀ is : List Nat, is.Pairwise (· < ·) → (∀ i ∈ is, i < n) → (sel l is).Pairwise (fun o o' => ∀ d, o.dst = some d → o'.dst ≠ some d) := by
    intro is
    induction is with
    | nil => intro _ _; exact List.Pairwise.nil
    | cons i is ih =>
      intro hs hin
      have hs' := List.pairwise_cons.1 hs
      obtain ⟨o, ho⟩ := hget i (hin i List.mem_cons_self)
      simp only [sel, ho]
      refine List.pairwise_cons.2 ⟨fun o' h' d hd => ?_, ih hs'.2 (fun j hj => hin j (List.mem_cons_of_mem _ hj))⟩
      obtain ⟨j, hj, hoj⟩ := mem_sel h'
      exact hdiff i j o o' (hin i List.mem_cons_self) (hin j (List.mem_cons_of_mem _ hj)) (by have := hs'.1 j hj; omega) ho hoj d hd
  have gd : ∀ is : List Nat, (∀ i ∈ is, i < n) → ∀ o ∈ sel l is, o.guard = none := fun is hin o ho => by
    obtain ⟨j, hj, hoj⟩ := mem_sel ho
    exact hguard j o (hin j hj) hoj
  have sz : ∀ is : List Nat, (∀ i ∈ is, i < n) → ∀ o ∈ sel l is, ∀ d, o.dst = some d → d < N := fun is hin o ho d hd => by
    obtain ⟨j, hj, hoj⟩ := mem_sel ho
    obtain ⟨d', h1, h2⟩ := hdst j o (hin j hj) hoj
    rw [hd] at h1
    rw [Option.some.inj h1]
    exact h2
  have hAn : ∀ i ∈ As, i < n := fun i hi => ((memA i).1 hi).1
  have hBn : ∀ i ∈ Bs, i < n := fun i hi => ((memB i).1 hi).1
  have e0 := ends (sel l As) a (gd As hAn) (hA _ (Below.refl _ _))
  -- operations that do not hang on what is made
  have qA : ∀ i o d, i ∈ As → l[i]? = some o → o.dst = some d → ∀ w1, Below w.drew.heap.size w.drew w1 → o.quietAt P F0 (Cls.In (Cls.Kept w1)) w1 (F0.eval (.tmp d)) := by
    intro i o d hi ho hd w1 hb
    obtain ⟨pre, post, hsp, hpost⟩ := sorted_split sA hi
    have hin := hAn i hi
    have hos : sel l As = sel l pre ++ o :: sel l post := by
      rw [hsp, sel_append]
      simp only [sel, ho]
    obtain ⟨ρ, h1, h2⟩ := each (sel l As) a (gd As hAn) (pw As sA hAn) (by rw [hN]; exact sz As hAn) (hA w1 hb) _ _ _ d hos hd
    have hdp := of_dep hD hin (by simpa using ho)
    refine quietAt_congr hdp.1 (fun d' hl => h2 d' (fun o' ho' => ?_)) (h1 w1 ⟨⟨w1, Below.refl _ _⟩, rfl⟩)
    rcases List.mem_cons.1 ho' with rfl | ho'
    · intro e
      have := (hdp.2.2.2 i o' d' hin (by simpa using ho) e hl).1
      omega
    · obtain ⟨j, hj, hoj⟩ := mem_sel ho'
      have hjn : j < n := hAn j (by rw [hsp]; exact List.mem_append_right _ (List.mem_cons_of_mem _ hj))
      intro e
      have h3 := (hdp.2.2.2 j o' d' hjn (by simpa using hoj) e hl).1
      have := hpost j hj
      omega
  obtain ⟨dm, hdm, hdmN⟩ := hdst m om hmn hom
  -- those that do
  have e1 : ∀ x w1, Below w.drew.heap.size w.drew w1 → Made w1 x → (F1 x).tmps.size = N ∧ (F1 x).defers = a.defers ∧ (F1 x).eval (.tmp dm) = mk x ∧ ∀ d, d ≠ dm → (∀ o ∈ sel l Bs, o.dst ≠ some d) → (F1 x).eval (.tmp d) = F0.eval (.tmp d) := by
    intro x w1 hb hmd
    obtain ⟨h1, h2, h3⟩ := ends (sel l Bs) _ (gd Bs hBn) (hQ x w1 hb hmd)
    have hnot : ∀ o ∈ sel l Bs, o.dst ≠ some dm := fun o ho e => by
      obtain ⟨j, hj, hoj⟩ := mem_sel ho
      exact hdiff m j om o hmn (hBn j hj) (fun e => by rw [← e] at hj; have := hcon m hj; rw [hmB] at this; cases this) hom hoj dm hdm e
    refine ⟨by rw [h1, Any.put_size, e0.1, hN], by rw [h2, put_defers, e0.2.1], ?_, fun d hne hd => ?_⟩
    · rw [h3 dm hnot, hdm]
      exact Any.put_eval_same _ dm _ (by rw [e0.1, hN]; exact hdmN)
    · rw [h3 d hd, hdm, Any.put_eval_other _ _ _ _ (fun e => hne (Option.some.inj e).symm)]
  have qB : ∀ x i o d, i ∈ Bs → l[i]? = some o → o.dst = some d → ∀ w1, Below w.drew.heap.size w.drew w1 → Made w1 x → o.quietAt P (F1 x) (Cls.In (Cls.Kept w1)) w1 ((F1 x).eval (.tmp d)) := by
    intro x i o d hi ho hd w1 hb hmd
    obtain ⟨pre, post, hsp, hpost⟩ := sorted_split sB hi
    have hin := hBn i hi
    have hos : sel l Bs = sel l pre ++ o :: sel l post := by
      conv => lhs; rw [hsp]
      rw [sel_append]
      simp only [sel, ho]
    obtain ⟨ρ, h1, h2⟩ := each (sel l Bs) _ (gd Bs hBn) (pw Bs sB hBn) (by rw [Any.put_size, e0.1, hN]; exact sz Bs hBn) (hQ x w1 hb hmd) _ _ _ d hos hd
    have hdp := of_dep hD hin (by simpa using ho)
    refine quietAt_congr hdp.1 (fun d' hl => h2 d' (fun o' ho' => ?_)) (h1 w1 ⟨⟨w1, Below.refl _ _⟩, rfl⟩)
    rcases List.mem_cons.1 ho' with rfl | ho'
    · intro e
      have := (hdp.2.2.2 i o' d' hin (by simpa using ho) e hl).1
      omega
    · obtain ⟨j, hj, hoj⟩ := mem_sel ho'
      have hjn : j < n := hBn j (by rw [hsp]; exact List.mem_append_right _ (List.mem_cons_of_mem _ hj))
      intro e
      have h3 := (hdp.2.2.2 j o' d' hjn (by simpa using hoj) e hl).1
      have := hpost j hj
      omega
  -- a frame on the way, where it is read
  have frame : ∀ (σ : Nat → Option Value) (G : Act), (∀ d, (∀ j oj, j < n → l[j]? = some oj → oj.dst ≠ some d) → G.eval (.tmp d) = a.eval (.tmp d)) → ∀ d, (∀ j oj, j < n → l[j]? = some oj → oj.dst = some d → σ j = some (G.eval (.tmp d))) → (puts l.toArray σ n a).eval (.tmp d) = G.eval (.tmp d) := by
    intro σ G hG d hd
    by_cases hw : ∃ j oj, j < n ∧ l[j]? = some oj ∧ oj.dst = some d
    · obtain ⟨j, oj, hj, hoj, hdj⟩ := hw
      obtain ⟨d', h1, h2⟩ := hdst j oj hj hoj
      have hdd : d < a.tmps.size := by rw [hN]; rw [hdj] at h1; rw [Option.some.inj h1]; exact h2
      exact Any.puts_eval (by simpa using hoj) hdj (hd j oj hj hoj hdj) a hdd n hj (fun k ok hk hne hok e => hdiff j k oj ok hj hk (fun e => hne e.symm) hoj (by simpa using hok) d hdj e)
    · have hw' : ∀ j oj, j < n → l[j]? = some oj → oj.dst ≠ some d := fun j oj hj hoj e => hw ⟨j, oj, hj, hoj, e⟩
      rw [Any.puts_eval_other σ a n (fun j oj hj hoj => hw' j oj hj (by simpa using hoj)), hG d hw']
  have G0 : ∀ d, (∀ j oj, j < n → l[j]? = some oj → oj.dst ≠ some d) → F0.eval (.tmp d) = a.eval (.tmp d) := fun d hd => e0.2.2 d (fun o ho => by
    obtain ⟨j, hj, hoj⟩ := mem_sel ho
    exact hd j o (hAn j hj) hoj)
  have G1 : ∀ x w1, Below w.drew.heap.size w.drew w1 → Made w1 x → ∀ d, (∀ j oj, j < n → l[j]? = some oj → oj.dst ≠ some d) → (F1 x).eval (.tmp d) = a.eval (.tmp d) := fun x w1 hb hmd d hd => by
    rw [(e1 x w1 hb hmd).2.2.2 d (fun e => hd m om hmn hom (by rw [hdm, e])) (fun o ho => by
      obtain ⟨j, hj, hoj⟩ := mem_sel ho
      exact hd j o (hBn j hj) hoj), G0 d hd]
  have sameA : ∀ x w1, Below w.drew.heap.size w.drew w1 → Made w1 x → ∀ j oj d, j ∈ As → l[j]? = some oj → oj.dst = some d → (F1 x).eval (.tmp d) = F0.eval (.tmp d) := fun x w1 hb hmd j oj d hj hoj hd => by
    have hja := (memA j).1 hj
    refine (e1 x w1 hb hmd).2.2.2 d (fun e => ?_) (fun o ho e => ?_)
    · exact hdiff j m oj om hja.1 hmn hja.2.1 hoj hom d hd (by rw [hdm, e])
    · obtain ⟨k, hk, hok⟩ := mem_sel ho
      exact hdiff j k oj o hja.1 (hBn k hk) (fun e => by rw [← e] at hk; have := hcon j hk; rw [hja.2.2] at this; cases this) hoj hok d hd e
  refine Any.region_any n hm hB (fun σ w1 => Below w.drew.heap.size w.drew w1 ∧ (∀ j oj d u, j ∈ As → l[j]? = some oj → oj.dst = some d → σ j = some u → u = F0.eval (.tmp d)) ∧
    (∀ u, σ m = some u → ∃ x, u = mk x ∧ Made w1 x ∧ ∀ j oj d u, j ∈ Bs → l[j]? = some oj → oj.dst = some d → σ j = some u → u = (F1 x).eval (.tmp d)) ∧ (σ m = none → ∀ j, j ∈ Bs → σ j = none)) ⟨Below.refl _ _, by simp, by simp, by simp⟩ ?_ ?_
  · intro i o σ w1 hi ho hs hdep ⟨hb, hVA, hVM, hVB⟩
    have hol : l[i]? = some o := by simpa using ho
    obtain ⟨d, hd, _⟩ := hdst i o hi hol
    have hdp := of_dep hD hi ho
    have step : ∀ (G : Act) (v : Value), o.quietAt P G (Cls.In (Cls.Kept w1)) w1 v → (∀ d', looks o d' = true → (puts l.toArray σ n a).eval (.tmp d') = G.eval (.tmp d')) →
        ∀ K' : Act → World → Prop, (∀ w2, Below w1.heap.size w1 w2 → K' ((puts l.toArray σ n a).put o.dst v) w2) → o.wp P (puts l.toArray σ n a) w1 K' Q := by
      intro G v hq hl K' hK
      have hq' := quietAt_congr hdp.1 (fun d' h' => (hl d' h').symm) hq
      unfold Oper.quietAt at hq'
      unfold Oper.wp
      cases hr : (execOp (puts l.toArray σ n a).eval o).run P w1 with
      | halt x w' => rw [hr] at hq'; exact hq'.elim
      | ok x w' =>
        rw [hr] at hq'
        cases x <;> simp only [Oper.quietUpon] at hq' <;> simp only [Oper.upon]
        case value u =>
          obtain ⟨h1, h2⟩ := hq'
          rw [h1, h2]
          exact hK _ (Below.refl _ _)
        case skip =>
          obtain ⟨h1, h2⟩ := hq'
          rw [h1, ← h2]
          exact hK _ (Below.refl _ _)
        case enter f args =>
          obtain ⟨h1, h2⟩ := hq'
          rw [h1]
          refine h2.mono fun e w'' hh => ?_
          obtain ⟨rfl, y, hy⟩ := hh
          rw [hy]
          exact hK _ y.ok
    by_cases him : i = m
    · subst him
      obtain rfl := Option.some.inj (hom.symm.trans hol)
      obtain ⟨x, w2, hrun, hb2, hmd⟩ := hM w1 hb
      have hag : ∀ d', looks om d' = true → (puts l.toArray σ n a).eval (.tmp d') = F0.eval (.tmp d') := fun d' hl => frame σ F0 G0 d' (fun j oj hj hoj hdj => by
        obtain ⟨h1, h2, e, he, hej, hbd⟩ := hdp.2.2.2 j oj d' hj (by simpa using hoj) hdj hl
        rcases h2 with h2 | h2
        · rw [hmB] at h2; cases h2
        · obtain ⟨u, hu⟩ := Option.isSome_iff_exists.1 (hdep e he hbd)
          rw [hej] at hu
          rw [hu, hVA j oj d' u ((memA j).2 ⟨hj, h2.1, h2.2⟩) hoj hdj hu])
      have hrun' : (execOp (puts l.toArray σ n a).eval om).run P w1 = .ok (.value (mk x)) w2 := by
        have e : execOp (puts l.toArray σ n a).eval om = execOp F0.eval om := execOp_congr om hdp.1 fun y hy => by
          cases y with
          | tmp d => exact hag d (List.any_eq_true.2 ⟨.tmp d, by simpa using hy, by simp⟩)
          | const v => rfl
          | global g => rfl
          | func f => rfl
        rw [e]
        exact hrun
      refine Any.value_wp (v := mk x) (w1 := w2) hrun' ⟨mk x, rfl, hb.trans (hb2.mono hb.size), fun j oj d u hj hoj hd hu => ?_, fun u hu => ?_, fun h => ?_⟩
      · have hja := (memA j).1 hj
        rw [Any.upd_other σ _ hja.2.1] at hu
        exact hVA j oj d u hj hoj hd hu
      · rw [Any.upd_same] at hu
        obtain rfl := Option.some.inj hu
        refine ⟨x, rfl, hmd, fun j oj d u hj _ _ hu => ?_⟩
        rw [Any.upd_other σ _ (fun e => by rw [e] at hj; have := hcon i hj; rw [hmB] at this; cases this), hVB hs j hj] at hu
        cases hu
      · rw [Any.upd_same] at h; cases h
    · by_cases hiB : Bs.contains i = true
      · have hiBs : i ∈ Bs := (memB i).2 ⟨hi, hiB⟩
        obtain ⟨e, he, hbd, hem⟩ := hdp.2.2.1 hiB
        have hms : (σ m).isSome = true := by
          rcases hem with hem | hem
          · rw [← hem]; exact hdep e he hbd
          · have h1 := hdep e he hbd
            cases hq : σ m with
            | some _ => rfl
            | none =>
              have hen : e.on ∈ Bs := by
                simpa using hem
              rw [hVB hq e.on hen] at h1
              cases h1
        obtain ⟨um, hum⟩ := Option.isSome_iff_exists.1 hms
        obtain ⟨x, rfl, hmd, hVX⟩ := hVM um hum
        have hE := e1 x w1 hb hmd
        refine step (F1 x) _ (qB x i o d hiBs hol hd w1 hb hmd) (fun d' hl => frame σ (F1 x) (G1 x w1 hb hmd) d' (fun j oj hj hoj hdj => ?_)) _ (fun w2 hb2 => ⟨_, rfl, hb.trans (hb2.mono hb.size), fun j oj d' u hj hoj hdj hu => ?_, fun u hu => ?_, fun h => ?_⟩)
        · obtain ⟨h1, _, e', he', hej, hbd'⟩ := hdp.2.2.2 j oj d' hj (by simpa using hoj) hdj hl
          obtain ⟨u, hu⟩ := Option.isSome_iff_exists.1 (hdep e' he' hbd')
          rw [hej] at hu
          by_cases hjm : j = m
          · rw [hjm] at hu hoj ⊢
            obtain rfl := Option.some.inj (hom.symm.trans hoj)
            rw [hdm] at hdj
            obtain rfl := Option.some.inj hdj
            rw [hum, hE.2.2.1]
          · by_cases hjB : Bs.contains j = true
            · rw [hu, hVX j oj d' u ((memB j).2 ⟨hj, hjB⟩) hoj hdj hu]
            · have hjA : j ∈ As := (memA j).2 ⟨hj, hjm, by simpa using hjB⟩
              rw [hu, hVA j oj d' u hjA hoj hdj hu, sameA x w1 hb hmd j oj d' hjA hoj hdj]
        · have hja := (memA j).1 hj
          rw [Any.upd_other σ _ (fun e => by rw [e, hiB] at hja; exact absurd hja.2.2 (by decide))] at hu
          exact hVA j oj d' u hj hoj hdj hu
        · rw [Any.upd_other σ _ (fun e => him e.symm), hum] at hu
          obtain rfl := Option.some.inj hu
          refine ⟨x, rfl, mono x w1 w2 hmd hb2, fun j oj d' u hj hoj hdj hu => ?_⟩
          by_cases hji : j = i
          · rw [hji] at hu hoj
            rw [Any.upd_same] at hu
            obtain rfl := Option.some.inj (hol.symm.trans hoj)
            rw [hd] at hdj
            obtain rfl := Option.some.inj hdj
            exact (Option.some.inj hu).symm
          · rw [Any.upd_other σ _ hji] at hu
            exact hVX j oj d' u hj hoj hdj hu
        · rw [Any.upd_other σ _ (fun e => him e.symm), hum] at h
          cases h
      · have hiBf : Bs.contains i = false := by simpa using hiB
        have hiA : i ∈ As := (memA i).2 ⟨hi, him, hiBf⟩
        refine step F0 _ (qA i o d hiA hol hd w1 hb) (fun d' hl => frame σ F0 G0 d' (fun j oj hj hoj hdj => ?_)) _ (fun w2 hb2 => ⟨_, rfl, hb.trans (hb2.mono hb.size), fun j oj d' u hj hoj hdj hu => ?_, fun u hu => ?_, fun h j hj => ?_⟩)
        · obtain ⟨h1, h2, e', he', hej, hbd'⟩ := hdp.2.2.2 j oj d' hj (by simpa using hoj) hdj hl
          obtain ⟨u, hu⟩ := Option.isSome_iff_exists.1 (hdep e' he' hbd')
          rw [hej] at hu
          rcases h2 with h2 | h2
          · rw [hiBf] at h2; cases h2
          · rw [hu, hVA j oj d' u ((memA j).2 ⟨hj, h2.1, h2.2⟩) hoj hdj hu]
        · by_cases hji : j = i
          · rw [hji] at hu hoj
            rw [Any.upd_same] at hu
            obtain rfl := Option.some.inj (hol.symm.trans hoj)
            rw [hd] at hdj
            obtain rfl := Option.some.inj hdj
            exact (Option.some.inj hu).symm
          · rw [Any.upd_other σ _ hji] at hu
            exact hVA j oj d' u hj hoj hdj hu
        · rw [Any.upd_other σ _ (fun e => him e.symm)] at hu
          obtain ⟨x, rfl, hmd, hVX⟩ := hVM u hu
          refine ⟨x, rfl, mono x w1 w2 hmd hb2, fun j oj d' u hj hoj hdj hu => ?_⟩
          rw [Any.upd_other σ _ (fun e => by rw [e] at hj; have := hcon i hj; rw [hiBf] at this; cases this)] at hu
          exact hVX j oj d' u hj hoj hdj hu
        · rw [Any.upd_other σ _ (fun e => him e.symm)] at h
          rw [Any.upd_other σ _ (fun e => by rw [e] at hj; have := hcon i hj; rw [hiBf] at this; cases this)]
          exact hVB h j hj
  · intro σ w1 hall ⟨hb, hVA, hVM, hVB⟩
    obtain ⟨um, hum⟩ := Option.isSome_iff_exists.1 (hall m hmn)
    obtain ⟨x, rfl, hmd, hVX⟩ := hVM um hum
    have hE := e1 x w1 hb hmd
    have e : puts l.toArray σ n a = F1 x := by
      refine act_ext (by rw [Any.puts_size, hN, hE.1]) (by rw [puts_defers, hE.2.1]) (fun d => frame σ (F1 x) (G1 x w1 hb hmd) d (fun j oj hj hoj hdj => ?_))
      obtain ⟨u, hu⟩ := Option.isSome_iff_exists.1 (hall j hj)
      by_cases hjm : j = m
      · rw [hjm] at hu hoj ⊢
        obtain rfl := Option.some.inj (hom.symm.trans hoj)
        rw [hdm] at hdj
        obtain rfl := Option.some.inj hdj
        rw [hum, hE.2.2.1]
      · by_cases hjB : Bs.contains j = true
        · rw [hu, hVX j oj d u ((memB j).2 ⟨hj, hjB⟩) hoj hdj hu]
        · have hjA : j ∈ As := (memA j).2 ⟨hj, hjm, by simpa using hjB⟩
          rw [hu, hVA j oj d u hjA hoj hdj hu, sameA x w1 hb hmd j oj d hjA hoj hdj]
    rw [e]
    exact last x w1 hb hmd
/-- The same, the frames found on the way. -/
theorem region_hang {ι : Type} {id : Nat} {a : Act} {w : World} {l : List Oper} (n m : Nat) (As Bs : List Nat) (N : Nat) (om : Oper) (hom : l[m]? = some om) (hm : P.follows .mixedOrders = true) (hB : headB .any l.toArray n = true) (hD : depB l.toArray n m Bs = true) (hmn : m < n)
    (hAs : ((List.range n).filter fun i => decide (i ≠ m) && !Bs.contains i) = As) (hBs : ((List.range n).filter fun i => Bs.contains i) = Bs) (hN : a.tmps.size = N) (hsz : slotsB l.toArray n N = true)
    (mk : ι → Value) (Made : World → ι → Prop) (mono : ∀ x w1 w2, Made w1 x → Below w1.heap.size w1 w2 → Made w2 x)
    (h : ∃ F0 : Act, (∀ w1, Below w.drew.heap.size w.drew w1 → wpQuiet P l.toArray (Cls.In (Cls.Kept w1)) (fun F => F = F0) (sel l As) a) ∧
      (∀ w1, Below w.drew.heap.size w.drew w1 → ∃ x w2, (execOp F0.eval om).run P w1 = .ok (.value (mk x)) w2 ∧ Below w1.heap.size w1 w2 ∧ Made w2 x) ∧
      ∃ F1 : ι → Act, (∀ x w1, Below w.drew.heap.size w.drew w1 → Made w1 x → wpQuiet P l.toArray (Cls.In (Cls.Kept w1)) (fun F => F = F1 x) (sel l Bs) (F0.put om.dst (mk x))) ∧
        ∀ x w1, Below w.drew.heap.size w.drew w1 → Made w1 x → wpList P l.toArray Q (l.drop n) (F1 x) w1) : (Code.region id l.toArray true).wp P Q a w :=
  let ⟨F0, hA, hM, F1, hQ, last⟩ := h
  region_dep n m As Bs N om hom hm hB hD hmn hAs hBs hN hsz mk Made F0 F1 hA hM mono hQ last
end Go.Proofs.Ythkibccfdpbojaa.Dep
