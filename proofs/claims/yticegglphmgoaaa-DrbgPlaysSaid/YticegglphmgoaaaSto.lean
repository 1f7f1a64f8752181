/- A region whose order is open: one operation of the head (number m) makes memory, another (number k, a store) writes it; the others do not look at it. Conditions: those that are named. -/
import Derived.Test.YticegglphmgoaaaDep
namespace Go.Proofs.Yticegglphmgoaaa.Sto
open Go Go.RowKit
open Any (puts upd headB)
open Mad (looks selects head_op)
open Dep
/-- What each operation of the head reads. -/
def depK (ops : Array Oper) (n m k : Nat) : Bool := (List.range n).all fun i => match ops[i]? with
  | some o => !selects o.op && (List.range n).all fun j => match ops[j]? with
    | some oj => (match oj.dst with
      | some d => !(looks o d) || (decide (j < i) && (decide (i = k) || decide (j ≠ m)) && o.after.toList.any fun e => decide (e.on = j) && Region.binds .any e)
      | none => true)
    | none => false
  | none => false
/-- The slots of the head lie in the frame, but for the store. -/
def slotsK (ops : Array Oper) (n k N : Nat) : Bool := (List.range n).all fun i => decide (i = k) || match ops[i]? with
  | some o => (match o.dst with | some d => decide (d < N) | none => false)
  | none => false
/-- The store comes behind what is made. -/
def edgeK (o : Oper) (m : Nat) : Bool := o.after.toList.any fun e => decide (e.on = m) && Region.binds .any e
theorem of_depK {ops : Array Oper} {n m k i : Nat} (h : depK ops n m k = true) {o : Oper} (hi : i < n) (ho : ops[i]? = some o) : (∀ cs b, o.op ≠ .select cs b) ∧
    ∀ j oj d, j < n → ops[j]? = some oj → oj.dst = some d → looks o d = true → j < i ∧ (i = k ∨ j ≠ m) ∧ ∃ e ∈ o.after, e.on = j ∧ Region.binds .any e = true := by
  have h1 := List.all_eq_true.1 h i (List.mem_range.2 hi)
  simp only [ho, Bool.and_eq_true] at h1
  obtain ⟨hs, ha⟩ := h1
  refine ⟨fun cs b e => ?_, fun j oj d hj hoj hdj hl => ?_⟩
  · rw [e] at hs
    simp [selects] at hs
  · have h2 := List.all_eq_true.1 ha j (List.mem_range.2 hj)
    simp only [hoj, hdj, hl, Bool.not_true, Bool.false_or, Bool.and_eq_true, Bool.or_eq_true, decide_eq_true_eq] at h2
    obtain ⟨⟨h3, h4⟩, h5⟩ := h2
    obtain ⟨e, he, h6⟩ := List.any_eq_true.1 h5
    simp only [Bool.and_eq_true, decide_eq_true_eq] at h6
    exact ⟨h3, h4, e, by simpa using he, h6⟩
variable {P : Program} {Q : Exit → Act → World → Prop}
theorem region_sto {ι : Type} {id : Nat} {a : Act} {w : World} {l : List Oper} (n m k : Nat) (As : List Nat) (N : Nat) (om ok : Oper) (hom : l[m]? = some om) (hok : l[k]? = some ok) (hkd : ok.dst = none) (hm : P.follows .mixedOrders = true) (hB : headB .any l.toArray n = true) (hD : depK l.toArray n m k = true) (hE : edgeK ok m = true) (hmn : m < n) (hkn : k < n) (hmk : m ≠ k)
    (hAs : ((List.range n).filter fun i => decide (i ≠ m) && decide (i ≠ k)) = As) (hN : a.tmps.size = N) (hsz : slotsK l.toArray n k N = true)
    (mk : ι → Value) (Made Done : World → ι → Prop) (mono : ∀ x w1 w2, Made w1 x → Below w1.heap.size w1 w2 → Made w2 x) (monoD : ∀ x w1 w2, Done w1 x → Below w1.heap.size w1 w2 → Done w2 x)
    (h : ∃ F0 : Act, (∀ w1, Below w.drew.heap.size w.drew w1 → wpQuiet P l.toArray (Cls.In (Cls.Kept w1)) (fun F => F = F0) (sel l As) a) ∧
      (∀ w1, Below w.drew.heap.size w.drew w1 → ∃ x w2, (execOp F0.eval om).run P w1 = .ok (.value (mk x)) w2 ∧ Below w1.heap.size w1 w2 ∧ Made w2 x) ∧
      (∀ x w1, Below w.drew.heap.size w.drew w1 → Made w1 x → ∃ w2, (execOp (F0.put om.dst (mk x)).eval ok).run P w1 = .ok .skip w2 ∧ Below w.drew.heap.size w.drew w2 ∧ Done w2 x) ∧
      ∀ x w1, Below w.drew.heap.size w.drew w1 → Done w1 x → wpList P l.toArray Q (l.drop n) (F0.put om.dst (mk x)) w1) : (Code.region id l.toArray true).wp P Q a w := by
  obtain ⟨F0, hA, hM, hK, last⟩ := h
  have hn : n < l.length := by
    simp only [headB, Bool.and_eq_true, decide_eq_true_eq] at hB
    simpa using hB.1.1.1.1
  have hget : ∀ i, i < n → ∃ o, l[i]? = some o := fun i hi => ⟨_, List.getElem?_eq_getElem (by omega)⟩
  have hdst : ∀ i o, i < n → i ≠ k → l[i]? = some o → ∃ d, o.dst = some d ∧ d < N := fun i o hi hik ho => by
    have h1 := List.all_eq_true.1 hsz i (List.mem_range.2 hi)
    have ho' : l.toArray[i]? = some o := by simpa using ho
    simp only [hik, decide_false, Bool.false_or, ho'] at h1
    cases hd : o.dst with
    | none => simp [hd] at h1
    | some d => simp only [hd, decide_eq_true_eq] at h1; exact ⟨d, rfl, h1⟩
  have notk : ∀ j oj d, l[j]? = some oj → oj.dst = some d → j ≠ k := fun j oj d hoj hdj e => by
    rw [e] at hoj
    obtain rfl := Option.some.inj (hok.symm.trans hoj)
    rw [hkd] at hdj
    cases hdj
  have hdiff : ∀ i j o oj, i < n → j < n → i ≠ j → l[i]? = some o → l[j]? = some oj → ∀ d, o.dst = some d → oj.dst ≠ some d := fun i j o oj hi hj hne ho hoj d hd => by
    obtain ⟨o', ho', _, hx⟩ := head_op hB hi
    have ho2 : l[i]? = some o' := by simpa using ho'
    obtain rfl := Option.some.inj (ho.symm.trans ho2)
    exact hx j oj hj (fun e => hne e.symm) (by simpa using hoj) d hd
  have hguard : ∀ i o, i < n → l[i]? = some o → o.guard = none := fun i o hi ho => by
    obtain ⟨o', ho', hg, _⟩ := head_op hB hi
    have ho2 : l[i]? = some o' := by simpa using ho'
    obtain rfl := Option.some.inj (ho.symm.trans ho2)
    exact hg
  have memA : ∀ i, i ∈ As ↔ i < n ∧ i ≠ m ∧ i ≠ k := fun i => by
    rw [← hAs, List.mem_filter, List.mem_range]
    simp only [Bool.and_eq_true, decide_eq_true_eq]
  have sA : As.Pairwise (· < ·) := by rw [← hAs]; exact List.pairwise_lt_range.filter _
  have pw : ∀ is : List Nat, is.Pairwise (· < ·) → (∀ i ∈ is, i < n) → (sel l is).Pairwise (fun o o' => ∀ d, o.dst = some d → o'.dst ≠ some d) := by
    intro is
    induction is with
    | nil => intro _ _; exact List.Pairwise.nil
    | cons i is ih =>
      intro hs hin
      have hs' := List.pairwise_cons.1 hs
      obtain ⟨o, ho⟩ := hget i (hin i List.mem_cons_self)
      simp only [sel, ho]
      refine List.pairwise_cons.2 ⟨fun o' h' d hd => ?_, ih hs'.2 (fun j hj => hin j (List.mem_cons_of_mem _ hj))⟩
      obtain ⟨j, hj, hoj⟩ := mem_sel h'
      exact hdiff i j o o' (hin i List.mem_cons_self) (hin j (List.mem_cons_of_mem _ hj)) (by have := hs'.1 j hj; omega) ho hoj d hd
  have gd : ∀ is : List Nat, (∀ i ∈ is, i < n) → ∀ o ∈ sel l is, o.guard = none := fun is hin o ho => by
    obtain ⟨j, hj, hoj⟩ := mem_sel ho
    exact hguard j o (hin j hj) hoj
  have hAn : ∀ i ∈ As, i < n := fun i hi => ((memA i).1 hi).1
  have sz : ∀ o ∈ sel l As, ∀ d, o.dst = some d → d < N := fun o ho d hd => by
    obtain ⟨j, hj, hoj⟩ := mem_sel ho
    obtain ⟨d', h1, h2⟩ := hdst j o (hAn j hj) ((memA j).1 hj).2.2 hoj
    rw [hd] at h1
    rw [Option.some.inj h1]
    exact h2
  have e0 := ends (sel l As) a (gd As hAn) (hA _ (Below.refl _ _))
  have qA : ∀ i o d, i ∈ As → l[i]? = some o → o.dst = some d → ∀ w1, Below w.drew.heap.size w.drew w1 → o.quietAt P F0 (Cls.In (Cls.Kept w1)) w1 (F0.eval (.tmp d)) := by
    intro i o d hi ho hd w1 hb
    obtain ⟨pre, post, hsp, hpost⟩ := sorted_split sA hi
    have hin := hAn i hi
    have hos : sel l As = sel l pre ++ o :: sel l post := by
      rw [hsp, sel_append]
      simp only [sel, ho]
    obtain ⟨ρ, h1, h2⟩ := each (sel l As) a (gd As hAn) (pw As sA hAn) (by rw [hN]; exact sz) (hA w1 hb) _ _ _ d hos hd
    have hdp := of_depK hD hin (by simpa using ho)
    refine quietAt_congr hdp.1 (fun d' hl => h2 d' (fun o' ho' => ?_)) (h1 w1 ⟨⟨w1, Below.refl _ _⟩, rfl⟩)
    rcases List.mem_cons.1 ho' with rfl | ho'
    · intro e
      have := (hdp.2 i o' d' hin (by simpa using ho) e hl).1
      omega
    · obtain ⟨j, hj, hoj⟩ := mem_sel ho'
      have hjn : j < n := hAn j (by rw [hsp]; exact List.mem_append_right _ (List.mem_cons_of_mem _ hj))
      intro e
      have h3 := (hdp.2 j o' d' hjn (by simpa using hoj) e hl).1
      have := hpost j hj
      omega
  obtain ⟨dm, hdm, hdmN⟩ := hdst m om hmn hmk hom
  obtain ⟨F1, hF1⟩ : ∃ F1 : ι → Act, ∀ x, F1 x = F0.put om.dst (mk x) := ⟨_, fun _ => rfl⟩
  have e1 : ∀ x, (F1 x).tmps.size = N ∧ (F1 x).defers = a.defers ∧ (F1 x).eval (.tmp dm) = mk x ∧ ∀ d, d ≠ dm → (F1 x).eval (.tmp d) = F0.eval (.tmp d) := by
    intro x
    rw [hF1]
    refine ⟨by rw [Any.put_size, e0.1, hN], by rw [put_defers, e0.2.1], ?_, fun d hne => ?_⟩
    · rw [hdm]
      exact Any.put_eval_same _ dm _ (by rw [e0.1, hN]; exact hdmN)
    · rw [hdm, Any.put_eval_other _ _ _ _ (fun e => hne (Option.some.inj e).symm)]
  have frame : ∀ (σ : Nat → Option Value) (G : Act), (∀ d, (∀ j oj, j < n → l[j]? = some oj → oj.dst ≠ some d) → G.eval (.tmp d) = a.eval (.tmp d)) → ∀ d, (∀ j oj, j < n → l[j]? = some oj → oj.dst = some d → σ j = some (G.eval (.tmp d))) → (puts l.toArray σ n a).eval (.tmp d) = G.eval (.tmp d) := by
    intro σ G hG d hd
    by_cases hw : ∃ j oj, j < n ∧ l[j]? = some oj ∧ oj.dst = some d
    · obtain ⟨j, oj, hj, hoj, hdj⟩ := hw
      obtain ⟨d', h1, h2⟩ := hdst j oj hj (notk j oj d hoj hdj) hoj
      have hdd : d < a.tmps.size := by rw [hN]; rw [hdj] at h1; rw [Option.some.inj h1]; exact h2
      exact Any.puts_eval (by simpa using hoj) hdj (hd j oj hj hoj hdj) a hdd n hj (fun k ok hk hne hok e => hdiff j k oj ok hj hk (fun e => hne e.symm) hoj (by simpa using hok) d hdj e)
    · have hw' : ∀ j oj, j < n → l[j]? = some oj → oj.dst ≠ some d := fun j oj hj hoj e => hw ⟨j, oj, hj, hoj, e⟩
      rw [Any.puts_eval_other σ a n (fun j oj hj hoj => hw' j oj hj (by simpa using hoj)), hG d hw']
  have G0 : ∀ d, (∀ j oj, j < n → l[j]? = some oj → oj.dst ≠ some d) → F0.eval (.tmp d) = a.eval (.tmp d) := fun d hd => e0.2.2 d (fun o ho => by
    obtain ⟨j, hj, hoj⟩ := mem_sel ho
    exact hd j o (hAn j hj) hoj)
  have G1 : ∀ x, ∀ d, (∀ j oj, j < n → l[j]? = some oj → oj.dst ≠ some d) → (F1 x).eval (.tmp d) = a.eval (.tmp d) := fun x d hd => by
    rw [(e1 x).2.2.2 d (fun e => hd m om hmn hom (by rw [hdm, e])), G0 d hd]
  have sameA : ∀ x, ∀ j oj d, j ∈ As → l[j]? = some oj → oj.dst = some d → (F1 x).eval (.tmp d) = F0.eval (.tmp d) := fun x j oj d hj hoj hd => by
    have hja := (memA j).1 hj
    exact (e1 x).2.2.2 d (fun e => hdiff j m oj om hja.1 hmn hja.2.1 hoj hom d hd (by rw [hdm, e]))
  refine Any.region_any n hm hB (fun σ w1 => Below w.drew.heap.size w.drew w1 ∧ (∀ j oj d u, j ∈ As → l[j]? = some oj → oj.dst = some d → σ j = some u → u = F0.eval (.tmp d)) ∧
    (∀ u, σ m = some u → ∃ x, u = mk x ∧ (σ k = none → Made w1 x) ∧ ((σ k).isSome = true → Done w1 x)) ∧ (σ m = none → σ k = none)) ⟨Below.refl _ _, by simp, by simp, by simp⟩ ?_ ?_
  · intro i o σ w1 hi ho hs hdep ⟨hb, hVA, hVM, hVB⟩
    have hol : l[i]? = some o := by simpa using ho
    have hdp := of_depK hD hi ho
    have step : ∀ (G : Act) (v : Value), o.quietAt P G (Cls.In (Cls.Kept w1)) w1 v → (∀ d', looks o d' = true → (puts l.toArray σ n a).eval (.tmp d') = G.eval (.tmp d')) →
        ∀ K' : Act → World → Prop, (∀ w2, Below w1.heap.size w1 w2 → K' ((puts l.toArray σ n a).put o.dst v) w2) → o.wp P (puts l.toArray σ n a) w1 K' Q := by
      intro G v hq hl K' hK
      have hq' := quietAt_congr hdp.1 (fun d' h' => (hl d' h').symm) hq
      unfold Oper.quietAt at hq'
      unfold Oper.wp
      cases hr : (execOp (puts l.toArray σ n a).eval o).run P w1 with
      | halt x w' => rw [hr] at hq'; exact hq'.elim
      | ok x w' =>
        rw [hr] at hq'
        cases x <;> simp only [Oper.quietUpon] at hq' <;> simp only [Oper.upon]
        case value u =>
          obtain ⟨h1, h2⟩ := hq'
          rw [h1, h2]
          exact hK _ (Below.refl _ _)
        case skip =>
          obtain ⟨h1, h2⟩ := hq'
          rw [h1, ← h2]
          exact hK _ (Below.refl _ _)
        case enter f args =>
          obtain ⟨h1, h2⟩ := hq'
          rw [h1]
          refine h2.mono fun e w'' hh => ?_
          obtain ⟨rfl, y, hy⟩ := hh
          rw [hy]
          exact hK _ y.ok
    by_cases him : i = m
    · subst him
      obtain rfl := Option.some.inj (hom.symm.trans hol)
      obtain ⟨x, w2, hrun, hb2, hmd⟩ := hM w1 hb
      have hag : ∀ d', looks om d' = true → (puts l.toArray σ n a).eval (.tmp d') = F0.eval (.tmp d') := fun d' hl => frame σ F0 G0 d' (fun j oj hj hoj hdj => by
        obtain ⟨h1, h2, e, he, hej, hbd⟩ := hdp.2 j oj d' hj (by simpa using hoj) hdj hl
        rcases h2 with h2 | h2
        · exact absurd h2 hmk
        · obtain ⟨u, hu⟩ := Option.isSome_iff_exists.1 (hdep e he hbd)
          rw [hej] at hu
          rw [hu, hVA j oj d' u ((memA j).2 ⟨hj, h2, notk j oj d' hoj hdj⟩) hoj hdj hu])
      have hrun' : (execOp (puts l.toArray σ n a).eval om).run P w1 = .ok (.value (mk x)) w2 := by
        have e : execOp (puts l.toArray σ n a).eval om = execOp F0.eval om := execOp_congr om hdp.1 fun y hy => by
          cases y with
          | tmp d => exact hag d (List.any_eq_true.2 ⟨.tmp d, by simpa using hy, by simp⟩)
          | const v => rfl
          | global g => rfl
          | func f => rfl
        rw [e]
        exact hrun
      have hkn0 := hVB hs
      refine Any.value_wp (v := mk x) (w1 := w2) hrun' ⟨mk x, rfl, hb.trans (hb2.mono hb.size), fun j oj d u hj hoj hd hu => ?_, fun u hu => ?_, fun h => ?_⟩
      · have hja := (memA j).1 hj
        rw [Any.upd_other σ _ hja.2.1] at hu
        exact hVA j oj d u hj hoj hd hu
      · rw [Any.upd_same] at hu
        obtain rfl := Option.some.inj hu
        refine ⟨x, rfl, fun _ => hmd, fun h => ?_⟩
        rw [Any.upd_other σ _ (fun e => hmk e.symm), hkn0] at h
        cases h
      · rw [Any.upd_same] at h; cases h
    · by_cases hik : i = k
      · subst hik
        obtain rfl := Option.some.inj (hok.symm.trans hol)
        have hms : (σ m).isSome = true := by
          obtain ⟨e, he, h6⟩ := List.any_eq_true.1 hE
          simp only [Bool.and_eq_true, decide_eq_true_eq] at h6
          have h7 := hdep e (by simpa using he) h6.2
          rw [h6.1] at h7
          exact h7
        obtain ⟨um, hum⟩ := Option.isSome_iff_exists.1 hms
        obtain ⟨x, rfl, hmd, _⟩ := hVM um hum
        obtain ⟨w2, hrun, hb2, hd2⟩ := hK x w1 hb (hmd hs)
        rw [← hF1] at hrun
        have hag : ∀ d', looks ok d' = true → (puts l.toArray σ n a).eval (.tmp d') = (F1 x).eval (.tmp d') := fun d' hl => frame σ (F1 x) (G1 x) d' (fun j oj hj hoj hdj => by
          obtain ⟨_, _, e, he, hej, hbd⟩ := hdp.2 j oj d' hj (by simpa using hoj) hdj hl
          obtain ⟨u, hu⟩ := Option.isSome_iff_exists.1 (hdep e he hbd)
          rw [hej] at hu
          by_cases hjm : j = m
          · rw [hjm] at hu hoj ⊢
            obtain rfl := Option.some.inj (hom.symm.trans hoj)
            rw [hdm] at hdj
            obtain rfl := Option.some.inj hdj
            rw [hum, (e1 x).2.2.1]
          · have hjA : j ∈ As := (memA j).2 ⟨hj, hjm, notk j oj d' hoj hdj⟩
            rw [hu, hVA j oj d' u hjA hoj hdj hu, sameA x j oj d' hjA hoj hdj])
        have hrun' : (execOp (puts l.toArray σ n a).eval ok).run P w1 = .ok .skip w2 := by
          have e : execOp (puts l.toArray σ n a).eval ok = execOp (F1 x).eval ok := execOp_congr ok hdp.1 fun y hy => by
            cases y with
            | tmp d => exact hag d (List.any_eq_true.2 ⟨.tmp d, by simpa using hy, by simp⟩)
            | const v => rfl
            | global g => rfl
            | func f => rfl
          rw [e]
          exact hrun
        unfold Oper.wp
        rw [hrun']
        refine ⟨undef, rfl, hb2, fun j oj d u hj hoj hd hu => ?_, fun u hu => ?_, fun h => ?_⟩
        · have hja := (memA j).1 hj
          rw [Any.upd_other σ _ hja.2.2] at hu
          exact hVA j oj d u hj hoj hd hu
        · rw [Any.upd_other σ _ hmk, hum] at hu
          obtain rfl := Option.some.inj hu
          refine ⟨x, rfl, fun h => ?_, fun _ => hd2⟩
          rw [Any.upd_same] at h
          cases h
        · rw [Any.upd_other σ _ hmk, hum] at h
          cases h
      · have hiA : i ∈ As := (memA i).2 ⟨hi, him, hik⟩
        obtain ⟨d, hd, _⟩ := hdst i o hi hik hol
        refine step F0 _ (qA i o d hiA hol hd w1 hb) (fun d' hl => frame σ F0 G0 d' (fun j oj hj hoj hdj => ?_)) _ (fun w2 hb2 => ⟨_, rfl, hb.trans (hb2.mono hb.size), fun j oj d' u hj hoj hdj hu => ?_, fun u hu => ?_, fun h => ?_⟩)
        · obtain ⟨h1, h2, e', he', hej, hbd'⟩ := hdp.2 j oj d' hj (by simpa using hoj) hdj hl
          obtain ⟨u, hu⟩ := Option.isSome_iff_exists.1 (hdep e' he' hbd')
          rw [hej] at hu
          rcases h2 with h2 | h2
          · exact absurd h2 hik
          · rw [hu, hVA j oj d' u ((memA j).2 ⟨hj, h2, notk j oj d' hoj hdj⟩) hoj hdj hu]
        · by_cases hji : j = i
          · rw [hji] at hu hoj
            rw [Any.upd_same] at hu
            obtain rfl := Option.some.inj (hol.symm.trans hoj)
            rw [hd] at hdj
            obtain rfl := Option.some.inj hdj
            exact (Option.some.inj hu).symm
          · rw [Any.upd_other σ _ hji] at hu
            exact hVA j oj d' u hj hoj hdj hu
        · rw [Any.upd_other σ _ (fun e => him e.symm)] at hu
          obtain ⟨x, rfl, hmd, hdd⟩ := hVM u hu
          refine ⟨x, rfl, fun h => ?_, fun h => ?_⟩
          · rw [Any.upd_other σ _ (fun e => hik e.symm)] at h
            exact mono x w1 w2 (hmd h) hb2
          · rw [Any.upd_other σ _ (fun e => hik e.symm)] at h
            exact monoD x w1 w2 (hdd h) hb2
        · rw [Any.upd_other σ _ (fun e => him e.symm)] at h
          rw [Any.upd_other σ _ (fun e => hik e.symm)]
          exact hVB h
  · intro σ w1 hall ⟨hb, hVA, hVM, hVB⟩
    obtain ⟨um, hum⟩ := Option.isSome_iff_exists.1 (hall m hmn)
    obtain ⟨x, rfl, _, hdd⟩ := hVM um hum
    have e : puts l.toArray σ n a = F1 x := by
      refine act_ext (by rw [Any.puts_size, hN, (e1 x).1]) (by rw [puts_defers, (e1 x).2.1]) (fun d => frame σ (F1 x) (G1 x) d (fun j oj hj hoj hdj => ?_))
      obtain ⟨u, hu⟩ := Option.isSome_iff_exists.1 (hall j hj)
      by_cases hjm : j = m
      · rw [hjm] at hu hoj ⊢
        obtain rfl := Option.some.inj (hom.symm.trans hoj)
        rw [hdm] at hdj
        obtain rfl := Option.some.inj hdj
        rw [hum, (e1 x).2.2.1]
      · have hjA : j ∈ As := (memA j).2 ⟨hj, hjm, notk j oj d hoj hdj⟩
        rw [hu, hVA j oj d u hjA hoj hdj hu, sameA x j oj d hjA hoj hdj]
    rw [e, hF1]
    exact last x w1 hb (hdd (hall k hkn))
end Go.Proofs.Yticegglphmgoaaa.Sto
