/- A region whose order is open: one operation of the head (number m) is a call that may write; all that lies ahead of it in the text comes up ahead of it; others hang on it; none besides. Conditions: those that are named. -/
import Derived.Test.YticegglphmgoaaaDep
namespace Go.Proofs.Yticegglphmgoaaa.Run
open Go Go.RowKit
open Any (puts upd headB)
open Mad (looks selects head_op)
open Dep
/-- Each of these comes up ahead of operation m. -/
def ancB (ops : Array Oper) (m : Nat) (As : List Nat) : Bool := As.all fun j => (m :: As).any fun i => decide (j < i) && match ops[i]? with
  | some o => o.after.toList.any fun e => decide (e.on = j) && Region.binds .any e
  | none => false
/-- What has come up is closed under 'ahead of'. -/
def Closed (ops : Array Oper) (n : Nat) (σ : Nat → Option Value) : Prop := ∀ i o, i < n → ops[i]? = some o → (σ i).isSome = true → ∀ e ∈ o.after, Region.binds .any e = true → (σ e.on).isSome = true
theorem anc {ops : Array Oper} {n m : Nat} {As : List Nat} (h : ancB ops m As = true) (hmn : m < n) (hAn : ∀ i ∈ As, i < n) {σ : Nat → Option Value} (hc : Closed ops n σ) (hm : (σ m).isSome = true) : ∀ d j, n - j = d → j ∈ As → (σ j).isSome = true := by
  intro d
  induction d using Nat.strongRecOn with
  | _ d ih =>
    intro j hd hj
    obtain ⟨i, hi, h2⟩ := List.any_eq_true.1 (List.all_eq_true.1 h j hj)
    simp only [Bool.and_eq_true, decide_eq_true_eq] at h2
    obtain ⟨hji, h3⟩ := h2
    cases ho : ops[i]? with
    | none => rw [ho] at h3; cases h3
    | some o =>
      rw [ho] at h3
      obtain ⟨e, he, h4⟩ := List.any_eq_true.1 h3
      simp only [Bool.and_eq_true, decide_eq_true_eq] at h4
      have hs : i < n ∧ (σ i).isSome = true := by
        rcases List.mem_cons.1 hi with rfl | hi
        · exact ⟨hmn, hm⟩
        · have hin := hAn i hi
          exact ⟨hin, ih (n - i) (by omega) i rfl hi⟩
      have := hc i o hs.1 ho hs.2 e (by simpa using he) h4.2
      rwa [h4.1] at this
theorem Closed.upd {ops : Array Oper} {n i : Nat} {σ : Nat → Option Value} (h : Closed ops n σ) {o : Oper} (ho : ops[i]? = some o) (hd : ∀ e ∈ o.after, Region.binds .any e = true → (σ e.on).isSome = true) (v : Value) : Closed ops n (Any.upd σ i v) := by
  have up : ∀ j, (σ j).isSome = true → (Any.upd σ i v j).isSome = true := fun j hj => by
    by_cases e : j = i
    · rw [e, Any.upd_same]; rfl
    · rw [Any.upd_other σ _ e]; exact hj
  intro j oj hj hoj hs e he hb
  by_cases hji : j = i
  · rw [hji] at hoj
    obtain rfl := Option.some.inj (ho.symm.trans hoj)
    exact up _ (hd e he hb)
  · rw [Any.upd_other σ _ hji] at hs
    exact up _ (h j oj hj hoj hs e he hb)
variable {P : Program} {Q : Exit → Act → World → Prop}
theorem region_run {ι : Type} {id : Nat} {a : Act} {w : World} {l : List Oper} (n m : Nat) (As Bs : List Nat) (N : Nat) (om : Oper) (hom : l[m]? = some om) (hm : P.follows .mixedOrders = true) (hB : headB .any l.toArray n = true) (hD : depB l.toArray n m Bs = true) (hR : ancB l.toArray m As = true) (hmn : m < n)
    (hAs : ((List.range n).filter fun i => decide (i ≠ m) && !Bs.contains i) = As) (hBs : ((List.range n).filter fun i => Bs.contains i) = Bs) (hN : a.tmps.size = N) (hsz : slotsB l.toArray n N = true)
    (mk : ι → Value) (Made : World → ι → Prop) (F0 : Act) (F1 : ι → Act)
    (hA : ∀ w1, Below w.drew.heap.size w.drew w1 → wpQuiet P l.toArray (Cls.In (Cls.Kept w1)) (fun F => F = F0) (sel l As) a)
    (hM : ∀ w1, Below w.drew.heap.size w.drew w1 → ∃ f args, (execOp F0.eval om).run P w1 = .ok (.enter f args) w1 ∧ Calls P f args w1 fun e w2 => ∃ x, e = .returned (mk x) ∧ Made w2 x)
    (mono : ∀ x w1 w2, Made w1 x → Below w1.heap.size w1 w2 → Made w2 x)
    (hQ : ∀ x w1, Made w1 x → wpQuiet P l.toArray (Cls.In (Cls.Kept w1)) (fun F => F = F1 x) (sel l Bs) (F0.put om.dst (mk x)))
    (last : ∀ x w1, Made w1 x → wpList P l.toArray Q (l.drop n) (F1 x) w1) : (Code.region id l.toArray true).wp P Q a w := by
  have hn : n < l.length := by
    simp only [headB, Bool.and_eq_true, decide_eq_true_eq] at hB
    simpa using hB.1.1.1.1
  have hget : ∀ i, i < n → ∃ o, l[i]? = some o := fun i hi => ⟨_, List.getElem?_eq_getElem (by omega)⟩
  have hdst : ∀ i o, i < n → l[i]? = some o → ∃ d, o.dst = some d ∧ d < N := fun i o hi ho => by
    have h1 := List.all_eq_true.1 hsz i (List.mem_range.2 hi)
    have ho' : l.toArray[i]? = some o := by simpa using ho
    simp only [ho'] at h1
    cases hd : o.dst with
    | none => simp [hd] at h1
    | some d => simp only [hd, decide_eq_true_eq] at h1; exact ⟨d, rfl, h1⟩
  have hdiff : ∀ i j o oj, i < n → j < n → i ≠ j → l[i]? = some o → l[j]? = some oj → ∀ d, o.dst = some d → oj.dst ≠ some d := fun i j o oj hi hj hne ho hoj d hd => by
    obtain ⟨o', ho', _, hx⟩ := head_op hB hi
    have ho2 : l[i]? = some o' := by simpa using ho'
    obtain rfl := Option.some.inj (ho.symm.trans ho2)
    exact hx j oj hj (fun e => hne e.symm) (by simpa using hoj) d hd
  have hguard : ∀ i o, i < n → l[i]? = some o → o.guard = none := fun i o hi ho => by
    obtain ⟨o', ho', hg, _⟩ := head_op hB hi
    have ho2 : l[i]? = some o' := by simpa using ho'
    obtain rfl := Option.some.inj (ho.symm.trans ho2)
    exact hg
  have hmB : Bs.contains m = false := by
    simp only [depB, Bool.and_eq_true, Bool.not_eq_true'] at hD
    exact hD.1
  have memA : ∀ i, i ∈ As ↔ i < n ∧ i ≠ m ∧ Bs.contains i = false := fun i => by
    rw [← hAs, List.mem_filter, List.mem_range]
    simp only [Bool.and_eq_true, decide_eq_true_eq, Bool.not_eq_true']
  have memB : ∀ i, i ∈ Bs ↔ i < n ∧ Bs.contains i = true := fun i => by
    conv => lhs; rw [← hBs]
    rw [List.mem_filter, List.mem_range]
  have hcon : ∀ i, i ∈ Bs → Bs.contains i = true := fun i hi => ((memB i).1 hi).2
  have sA : As.Pairwise (· < ·) := by rw [← hAs]; exact List.pairwise_lt_range.filter _
  have sB : Bs.Pairwise (· < ·) := by rw [← hBs]; exact List.pairwise_lt_range.filter _
  have pw : ∀ is : List Nat, is.Pairwise (· < ·) → (∀ i ∈ is, i < n) → (sel l is).Pairwise (fun o o' => ∀ d, o.dst = some d → o'.dst ≠ some d) := by
    intro is
    induction is with
    | nil => intro _ _; exact List.Pairwise.nil
    | cons i is ih =>
      intro hs hin
      have hs' := List.pairwise_cons.1 hs
      obtain ⟨o, ho⟩ := hget i (hin i List.mem_cons_self)
      simp only [sel, ho]
      refine List.pairwise_cons.2 ⟨fun o' h' d hd => ?_, ih hs'.2 (fun j hj => hin j (List.mem_cons_of_mem _ hj))⟩
      obtain ⟨j, hj, hoj⟩ := mem_sel h'
      exact hdiff i j o o' (hin i List.mem_cons_self) (hin j (List.mem_cons_of_mem _ hj)) (by have := hs'.1 j hj; omega) ho hoj d hd
  have gd : ∀ is : List Nat, (∀ i ∈ is, i < n) → ∀ o ∈ sel l is, o.guard = none := fun is hin o ho => by
    obtain ⟨j, hj, hoj⟩ := mem_sel ho
    exact hguard j o (hin j hj) hoj
  have sz : ∀ is : List Nat, (∀ i ∈ is, i < n) → ∀ o ∈ sel l is, ∀ d, o.dst = some d → d < N := fun is hin o ho d hd => by
    obtain ⟨j, hj, hoj⟩ := mem_sel ho
    obtain ⟨d', h1, h2⟩ := hdst j o (hin j hj) hoj
    rw [hd] at h1
    rw [Option.some.inj h1]
    exact h2
  have hAn : ∀ i ∈ As, i < n := fun i hi => ((memA i).1 hi).1
  have hBn : ∀ i ∈ Bs, i < n := fun i hi => ((memB i).1 hi).1
  have e0 := ends (sel l As) a (gd As hAn) (hA _ (Below.refl _ _))
  -- operations that do not hang on what is made
  have qA : ∀ i o d, i ∈ As → l[i]? = some o → o.dst = some d → ∀ w1, Below w.drew.heap.size w.drew w1 → o.quietAt P F0 (Cls.In (Cls.Kept w1)) w1 (F0.eval (.tmp d)) := by
    intro i o d hi ho hd w1 hb
    obtain ⟨pre, post, hsp, hpost⟩ := sorted_split sA hi
    have hin := hAn i hi
    have hos : sel l As = sel l pre ++ o :: sel l post := by
      rw [hsp, sel_append]
      simp only [sel, ho]
    obtain ⟨ρ, h1, h2⟩ := each (sel l As) a (gd As hAn) (pw As sA hAn) (by rw [hN]; exact sz As hAn) (hA w1 hb) _ _ _ d hos hd
    have hdp := of_dep hD hin (by simpa using ho)
    refine quietAt_congr hdp.1 (fun d' hl => h2 d' (fun o' ho' => ?_)) (h1 w1 ⟨⟨w1, Below.refl _ _⟩, rfl⟩)
    rcases List.mem_cons.1 ho' with rfl | ho'
    · intro e
      have := (hdp.2.2.2 i o' d' hin (by simpa using ho) e hl).1
      omega
    · obtain ⟨j, hj, hoj⟩ := mem_sel ho'
      have hjn : j < n := hAn j (by rw [hsp]; exact List.mem_append_right _ (List.mem_cons_of_mem _ hj))
      intro e
      have h3 := (hdp.2.2.2 j o' d' hjn (by simpa using hoj) e hl).1
      have := hpost j hj
      omega
  obtain ⟨dm, hdm, hdmN⟩ := hdst m om hmn hom
  -- those that do
  have e1 : ∀ x w1, Made w1 x → (F1 x).tmps.size = N ∧ (F1 x).defers = a.defers ∧ (F1 x).eval (.tmp dm) = mk x ∧ ∀ d, d ≠ dm → (∀ o ∈ sel l Bs, o.dst ≠ some d) → (F1 x).eval (.tmp d) = F0.eval (.tmp d) := by
    intro x w1 hmd
    obtain ⟨h1, h2, h3⟩ := ends (sel l Bs) _ (gd Bs hBn) (hQ x w1 hmd)
    have hnot : ∀ o ∈ sel l Bs, o.dst ≠ some dm := fun o ho e => by
      obtain ⟨j, hj, hoj⟩ := mem_sel ho
      exact hdiff m j om o hmn (hBn j hj) (fun e => by rw [← e] at hj; have := hcon m hj; rw [hmB] at this; cases this) hom hoj dm hdm e
    refine ⟨by rw [h1, Any.put_size, e0.1, hN], by rw [h2, put_defers, e0.2.1], ?_, fun d hne hd => ?_⟩
    · rw [h3 dm hnot, hdm]
      exact Any.put_eval_same _ dm _ (by rw [e0.1, hN]; exact hdmN)
    · rw [h3 d hd, hdm, Any.put_eval_other _ _ _ _ (fun e => hne (Option.some.inj e).symm)]
  have qB : ∀ x i o d, i ∈ Bs → l[i]? = some o → o.dst = some d → ∀ w1, Made w1 x → o.quietAt P (F1 x) (Cls.In (Cls.Kept w1)) w1 ((F1 x).eval (.tmp d)) := by
    intro x i o d hi ho hd w1 hmd
    obtain ⟨pre, post, hsp, hpost⟩ := sorted_split sB hi
    have hin := hBn i hi
    have hos : sel l Bs = sel l pre ++ o :: sel l post := by
      conv => lhs; rw [hsp]
      rw [sel_append]
      simp only [sel, ho]
    obtain ⟨ρ, h1, h2⟩ := each (sel l Bs) _ (gd Bs hBn) (pw Bs sB hBn) (by rw [Any.put_size, e0.1, hN]; exact sz Bs hBn) (hQ x w1 hmd) _ _ _ d hos hd
    have hdp := of_dep hD hin (by simpa using ho)
    refine quietAt_congr hdp.1 (fun d' hl => h2 d' (fun o' ho' => ?_)) (h1 w1 ⟨⟨w1, Below.refl _ _⟩, rfl⟩)
    rcases List.mem_cons.1 ho' with rfl | ho'
    · intro e
      have := (hdp.2.2.2 i o' d' hin (by simpa using ho) e hl).1
      omega
    · obtain ⟨j, hj, hoj⟩ := mem_sel ho'
      have hjn : j < n := hBn j (by rw [hsp]; exact List.mem_append_right _ (List.mem_cons_of_mem _ hj))
      intro e
      have h3 := (hdp.2.2.2 j o' d' hjn (by simpa using hoj) e hl).1
      have := hpost j hj
      omega
  -- a frame on the way, where it is read
  have frame : ∀ (σ : Nat → Option Value) (G : Act), (∀ d, (∀ j oj, j < n → l[j]? = some oj → oj.dst ≠ some d) → G.eval (.tmp d) = a.eval (.tmp d)) → ∀ d, (∀ j oj, j < n → l[j]? = some oj → oj.dst = some d → σ j = some (G.eval (.tmp d))) → (puts l.toArray σ n a).eval (.tmp d) = G.eval (.tmp d) := by
    intro σ G hG d hd
    by_cases hw : ∃ j oj, j < n ∧ l[j]? = some oj ∧ oj.dst = some d
    · obtain ⟨j, oj, hj, hoj, hdj⟩ := hw
      obtain ⟨d', h1, h2⟩ := hdst j oj hj hoj
      have hdd : d < a.tmps.size := by rw [hN]; rw [hdj] at h1; rw [Option.some.inj h1]; exact h2
      exact Any.puts_eval (by simpa using hoj) hdj (hd j oj hj hoj hdj) a hdd n hj (fun k ok hk hne hok e => hdiff j k oj ok hj hk (fun e => hne e.symm) hoj (by simpa using hok) d hdj e)
    · have hw' : ∀ j oj, j < n → l[j]? = some oj → oj.dst ≠ some d := fun j oj hj hoj e => hw ⟨j, oj, hj, hoj, e⟩
      rw [Any.puts_eval_other σ a n (fun j oj hj hoj => hw' j oj hj (by simpa using hoj)), hG d hw']
  have G0 : ∀ d, (∀ j oj, j < n → l[j]? = some oj → oj.dst ≠ some d) → F0.eval (.tmp d) = a.eval (.tmp d) := fun d hd => e0.2.2 d (fun o ho => by
    obtain ⟨j, hj, hoj⟩ := mem_sel ho
    exact hd j o (hAn j hj) hoj)
  have G1 : ∀ x w1, Made w1 x → ∀ d, (∀ j oj, j < n → l[j]? = some oj → oj.dst ≠ some d) → (F1 x).eval (.tmp d) = a.eval (.tmp d) := fun x w1 hmd d hd => by
    rw [(e1 x w1 hmd).2.2.2 d (fun e => hd m om hmn hom (by rw [hdm, e])) (fun o ho => by
      obtain ⟨j, hj, hoj⟩ := mem_sel ho
      exact hd j o (hBn j hj) hoj), G0 d hd]
  have sameA : ∀ x w1, Made w1 x → ∀ j oj d, j ∈ As → l[j]? = some oj → oj.dst = some d → (F1 x).eval (.tmp d) = F0.eval (.tmp d) := fun x w1 hmd j oj d hj hoj hd => by
    have hja := (memA j).1 hj
    refine (e1 x w1 hmd).2.2.2 d (fun e => ?_) (fun o ho e => ?_)
    · exact hdiff j m oj om hja.1 hmn hja.2.1 hoj hom d hd (by rw [hdm, e])
    · obtain ⟨k, hk, hok⟩ := mem_sel ho
      exact hdiff j k oj o hja.1 (hBn k hk) (fun e => by rw [← e] at hk; have := hcon j hk; rw [hja.2.2] at this; cases this) hoj hok d hd e
  refine Any.region_any n hm hB (fun σ w1 => (Closed l.toArray n σ ∧ (σ m = none → Below w.drew.heap.size w.drew w1)) ∧ (∀ j oj d u, j ∈ As → l[j]? = some oj → oj.dst = some d → σ j = some u → u = F0.eval (.tmp d)) ∧
    (∀ u, σ m = some u → ∃ x, u = mk x ∧ Made w1 x ∧ ∀ j oj d u, j ∈ Bs → l[j]? = some oj → oj.dst = some d → σ j = some u → u = (F1 x).eval (.tmp d)) ∧ (σ m = none → ∀ j, j ∈ Bs → σ j = none)) ⟨⟨fun i o _ _ h => by simp at h, fun _ => Below.refl _ _⟩, by simp, by simp, by simp⟩ ?_ ?_
  · intro i o σ w1 hi ho hs hdep ⟨⟨hcl, hb⟩, hVA, hVM, hVB⟩
    have hol : l[i]? = some o := by simpa using ho
    obtain ⟨d, hd, _⟩ := hdst i o hi hol
    have hdp := of_dep hD hi ho
    have step : ∀ (G : Act) (v : Value), o.quietAt P G (Cls.In (Cls.Kept w1)) w1 v → (∀ d', looks o d' = true → (puts l.toArray σ n a).eval (.tmp d') = G.eval (.tmp d')) →
        ∀ K' : Act → World → Prop, (∀ w2, Below w1.heap.size w1 w2 → K' ((puts l.toArray σ n a).put o.dst v) w2) → o.wp P (puts l.toArray σ n a) w1 K' Q := by
      intro G v hq hl K' hK
      have hq' := quietAt_congr hdp.1 (fun d' h' => (hl d' h').symm) hq
      unfold Oper.quietAt at hq'
      unfold Oper.wp
      cases hr : (execOp (puts l.toArray σ n a).eval o).run P w1 with
      | halt x w' => rw [hr] at hq'; exact hq'.elim
      | ok x w' =>
        rw [hr] at hq'
        cases x <;> simp only [Oper.quietUpon] at hq' <;> simp only [Oper.upon]
        case value u =>
          obtain ⟨h1, h2⟩ := hq'
          rw [h1, h2]
          exact hK _ (Below.refl _ _)
        case skip =>
          obtain ⟨h1, h2⟩ := hq'
          rw [h1, ← h2]
          exact hK _ (Below.refl _ _)
        case enter f args =>
          obtain ⟨h1, h2⟩ := hq'
          rw [h1]
          refine h2.mono fun e w'' hh => ?_
          obtain ⟨rfl, y, hy⟩ := hh
          rw [hy]
          exact hK _ y.ok
    by_cases him : i = m
    · subst him
      obtain rfl := Option.some.inj (hom.symm.trans hol)
      obtain ⟨f, args, hrun, hcall⟩ := hM w1 (hb hs)
      have hag : ∀ d', looks om d' = true → (puts l.toArray σ n a).eval (.tmp d') = F0.eval (.tmp d') := fun d' hl => frame σ F0 G0 d' (fun j oj hj hoj hdj => by
        obtain ⟨h1, h2, e, he, hej, hbd⟩ := hdp.2.2.2 j oj d' hj (by simpa using hoj) hdj hl
        rcases h2 with h2 | h2
        · rw [hmB] at h2; cases h2
        · obtain ⟨u, hu⟩ := Option.isSome_iff_exists.1 (hdep e he hbd)
          rw [hej] at hu
          rw [hu, hVA j oj d' u ((memA j).2 ⟨hj, h2.1, h2.2⟩) hoj hdj hu])
      have hrun' : (execOp (puts l.toArray σ n a).eval om).run P w1 = .ok (.enter f args) w1 := by
        have e : execOp (puts l.toArray σ n a).eval om = execOp F0.eval om := execOp_congr om hdp.1 fun y hy => by
          cases y with
          | tmp d => exact hag d (List.any_eq_true.2 ⟨.tmp d, by simpa using hy, by simp⟩)
          | const v => rfl
          | global g => rfl
          | func f => rfl
        rw [e]
        exact hrun
      unfold Oper.wp
      rw [hrun']
      refine hcall.mono fun e w2 hh => ?_
      obtain ⟨x, rfl, hmd⟩ := hh
      refine ⟨mk x, rfl, ⟨hcl.upd ho hdep _, fun h => by rw [Any.upd_same] at h; cases h⟩, fun j oj d u hj hoj hd hu => ?_, fun u hu => ?_, fun h => ?_⟩
      · have hja := (memA j).1 hj
        rw [Any.upd_other σ _ hja.2.1] at hu
        exact hVA j oj d u hj hoj hd hu
      · rw [Any.upd_same] at hu
        obtain rfl := Option.some.inj hu
        refine ⟨x, rfl, hmd, fun j oj d u hj _ _ hu => ?_⟩
        rw [Any.upd_other σ _ (fun e => by rw [e] at hj; have := hcon i hj; rw [hmB] at this; cases this), hVB hs j hj] at hu
        cases hu
      · rw [Any.upd_same] at h; cases h
    · by_cases hiB : Bs.contains i = true
      · have hiBs : i ∈ Bs := (memB i).2 ⟨hi, hiB⟩
        obtain ⟨e, he, hbd, hem⟩ := hdp.2.2.1 hiB
        have hms : (σ m).isSome = true := by
          rcases hem with hem | hem
          · rw [← hem]; exact hdep e he hbd
          · have h1 := hdep e he hbd
            cases hq : σ m with
            | some _ => rfl
            | none =>
              have hen : e.on ∈ Bs := by
                simpa using hem
              rw [hVB hq e.on hen] at h1
              cases h1
        obtain ⟨um, hum⟩ := Option.isSome_iff_exists.1 hms
        obtain ⟨x, rfl, hmd, hVX⟩ := hVM um hum
        have hE := e1 x w1 hmd
        refine step (F1 x) _ (qB x i o d hiBs hol hd w1 hmd) (fun d' hl => frame σ (F1 x) (G1 x w1 hmd) d' (fun j oj hj hoj hdj => ?_)) _ (fun w2 hb2 => ⟨_, rfl, ⟨hcl.upd ho hdep _, fun h => by rw [Any.upd_other σ _ (fun e => him e.symm), hum] at h; cases h⟩, fun j oj d' u hj hoj hdj hu => ?_, fun u hu => ?_, fun h => ?_⟩)
        · obtain ⟨h1, _, e', he', hej, hbd'⟩ := hdp.2.2.2 j oj d' hj (by simpa using hoj) hdj hl
          obtain ⟨u, hu⟩ := Option.isSome_iff_exists.1 (hdep e' he' hbd')
          rw [hej] at hu
          by_cases hjm : j = m
          · rw [hjm] at hu hoj ⊢
            obtain rfl := Option.some.inj (hom.symm.trans hoj)
            rw [hdm] at hdj
            obtain rfl := Option.some.inj hdj
            rw [hum, hE.2.2.1]
          · by_cases hjB : Bs.contains j = true
            · rw [hu, hVX j oj d' u ((memB j).2 ⟨hj, hjB⟩) hoj hdj hu]
            · have hjA : j ∈ As := (memA j).2 ⟨hj, hjm, by simpa using hjB⟩
              rw [hu, hVA j oj d' u hjA hoj hdj hu, sameA x w1 hmd j oj d' hjA hoj hdj]
        · have hja := (memA j).1 hj
          rw [Any.upd_other σ _ (fun e => by rw [e, hiB] at hja; exact absurd hja.2.2 (by decide))] at hu
          exact hVA j oj d' u hj hoj hdj hu
        · rw [Any.upd_other σ _ (fun e => him e.symm), hum] at hu
          obtain rfl := Option.some.inj hu
          refine ⟨x, rfl, mono x w1 w2 hmd hb2, fun j oj d' u hj hoj hdj hu => ?_⟩
          by_cases hji : j = i
          · rw [hji] at hu hoj
            rw [Any.upd_same] at hu
            obtain rfl := Option.some.inj (hol.symm.trans hoj)
            rw [hd] at hdj
            obtain rfl := Option.some.inj hdj
            exact (Option.some.inj hu).symm
          · rw [Any.upd_other σ _ hji] at hu
            exact hVX j oj d' u hj hoj hdj hu
        · rw [Any.upd_other σ _ (fun e => him e.symm), hum] at h
          cases h
      · have hiBf : Bs.contains i = false := by simpa using hiB
        have hiA : i ∈ As := (memA i).2 ⟨hi, him, hiBf⟩
        have hmnone : σ m = none := by
          cases hq : σ m with
          | none => rfl
          | some u =>
            have h9 := anc hR hmn hAn hcl (by rw [hq]; rfl) _ i rfl hiA
            rw [hs] at h9
            cases h9
        have hb := hb hmnone
        refine step F0 _ (qA i o d hiA hol hd w1 hb) (fun d' hl => frame σ F0 G0 d' (fun j oj hj hoj hdj => ?_)) _ (fun w2 hb2 => ⟨_, rfl, ⟨hcl.upd ho hdep _, fun _ => hb.trans (hb2.mono hb.size)⟩, fun j oj d' u hj hoj hdj hu => ?_, fun u hu => ?_, fun h j hj => ?_⟩)
        · obtain ⟨h1, h2, e', he', hej, hbd'⟩ := hdp.2.2.2 j oj d' hj (by simpa using hoj) hdj hl
          obtain ⟨u, hu⟩ := Option.isSome_iff_exists.1 (hdep e' he' hbd')
          rw [hej] at hu
          rcases h2 with h2 | h2
          · rw [hiBf] at h2; cases h2
          · rw [hu, hVA j oj d' u ((memA j).2 ⟨hj, h2.1, h2.2⟩) hoj hdj hu]
        · by_cases hji : j = i
          · rw [hji] at hu hoj
            rw [Any.upd_same] at hu
            obtain rfl := Option.some.inj (hol.symm.trans hoj)
            rw [hd] at hdj
            obtain rfl := Option.some.inj hdj
            exact (Option.some.inj hu).symm
          · rw [Any.upd_other σ _ hji] at hu
            exact hVA j oj d' u hj hoj hdj hu
        · rw [Any.upd_other σ _ (fun e => him e.symm)] at hu
          obtain ⟨x, rfl, hmd, hVX⟩ := hVM u hu
          refine ⟨x, rfl, mono x w1 w2 hmd hb2, fun j oj d' u hj hoj hdj hu => ?_⟩
          rw [Any.upd_other σ _ (fun e => by rw [e] at hj; have := hcon i hj; rw [hiBf] at this; cases this)] at hu
          exact hVX j oj d' u hj hoj hdj hu
        · rw [Any.upd_other σ _ (fun e => him e.symm)] at h
          rw [Any.upd_other σ _ (fun e => by rw [e] at hj; have := hcon i hj; rw [hiBf] at this; cases this)]
          exact hVB h j hj
  · intro σ w1 hall ⟨_, hVA, hVM, hVB⟩
    obtain ⟨um, hum⟩ := Option.isSome_iff_exists.1 (hall m hmn)
    obtain ⟨x, rfl, hmd, hVX⟩ := hVM um hum
    have hE := e1 x w1 hmd
    have e : puts l.toArray σ n a = F1 x := by
      refine act_ext (by rw [Any.puts_size, hN, hE.1]) (by rw [puts_defers, hE.2.1]) (fun d => frame σ (F1 x) (G1 x w1 hmd) d (fun j oj hj hoj hdj => ?_))
      obtain ⟨u, hu⟩ := Option.isSome_iff_exists.1 (hall j hj)
      by_cases hjm : j = m
      · rw [hjm] at hu hoj ⊢
        obtain rfl := Option.some.inj (hom.symm.trans hoj)
        rw [hdm] at hdj
        obtain rfl := Option.some.inj hdj
        rw [hum, hE.2.2.1]
      · by_cases hjB : Bs.contains j = true
        · rw [hu, hVX j oj d u ((memB j).2 ⟨hj, hjB⟩) hoj hdj hu]
        · have hjA : j ∈ As := (memA j).2 ⟨hj, hjm, by simpa using hjB⟩
          rw [hu, hVA j oj d u hjA hoj hdj hu, sameA x w1 hmd j oj d hjA hoj hdj]
    rw [e]
    exact last x w1 hmd
/-- The same, the frames found on the way. -/
theorem region_call {ι : Type} {id : Nat} {a : Act} {w : World} {l : List Oper} (n m : Nat) (As Bs : List Nat) (N : Nat) (om : Oper) (hom : l[m]? = some om) (hm : P.follows .mixedOrders = true) (hB : headB .any l.toArray n = true) (hD : depB l.toArray n m Bs = true) (hR : ancB l.toArray m As = true) (hmn : m < n)
    (hAs : ((List.range n).filter fun i => decide (i ≠ m) && !Bs.contains i) = As) (hBs : ((List.range n).filter fun i => Bs.contains i) = Bs) (hN : a.tmps.size = N) (hsz : slotsB l.toArray n N = true)
    (mk : ι → Value) (Made : World → ι → Prop) (mono : ∀ x w1 w2, Made w1 x → Below w1.heap.size w1 w2 → Made w2 x)
    (h : ∃ F0 : Act, (∀ w1, Below w.drew.heap.size w.drew w1 → wpQuiet P l.toArray (Cls.In (Cls.Kept w1)) (fun F => F = F0) (sel l As) a) ∧
      (∀ w1, Below w.drew.heap.size w.drew w1 → ∃ f args, (execOp F0.eval om).run P w1 = .ok (.enter f args) w1 ∧ Calls P f args w1 fun e w2 => ∃ x, e = .returned (mk x) ∧ Made w2 x) ∧
      ∃ F1 : ι → Act, (∀ x w1, Made w1 x → wpQuiet P l.toArray (Cls.In (Cls.Kept w1)) (fun F => F = F1 x) (sel l Bs) (F0.put om.dst (mk x))) ∧
        ∀ x w1, Made w1 x → wpList P l.toArray Q (l.drop n) (F1 x) w1) : (Code.region id l.toArray true).wp P Q a w :=
  let ⟨F0, hA, hM, F1, hQ, last⟩ := h
  region_run n m As Bs N om hom hm hB hD hR hmn hAs hBs hN hsz mk Made F0 F1 hA hM mono hQ last
end Go.Proofs.Yticegglphmgoaaa.Run
