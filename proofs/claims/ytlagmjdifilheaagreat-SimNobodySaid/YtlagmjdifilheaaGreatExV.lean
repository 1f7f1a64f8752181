/- A region whose order is open: in whatever order its operations come up, it ends as the run in one order tells. Condition: what is said of the calls. -/
import Derived.Test.YtlagmjdifilheaaGreatExU
import Derived.Test.YtlagmjdifilheaaGreatExR
namespace Go.Proofs.YtlagmjdifilheaaGreat.Exe
open Go Go.RowKit
section any
variable {P : Program} {ops : Array Oper} {Q : Exit → Act → World → Prop}
def unl (n : Nat) (l : Array Bool) : Nat := (List.range n).countP fun i => !(l.getD i true)
theorem countP_lt {p q : Nat → Bool} : ∀ {l : List Nat} {i : Nat}, (∀ x, q x = true → p x = true) → i ∈ l → p i = true → q i = false → l.countP q < l.countP p
  | [], i, _, h, _, _ => by cases h
  | a :: l, i, hpq, h, hp, hq => by
    have hle : l.countP q ≤ l.countP p := List.countP_mono_left fun x _ hx => hpq x hx
    by_cases ha : a = i
    · subst ha
      rw [List.countP_cons_of_pos hp, List.countP_cons_of_neg (by simp [hq])]
      omega
    · have hm : i ∈ l := by
        rcases List.mem_cons.1 h with e | e
        · exact absurd e.symm ha
        · exact e
      have := countP_lt hpq hm hp hq
      rw [List.countP_cons, List.countP_cons]
      have h1 := hpq a
      cases hqa : q a with
      | false => simp; omega
      | true => simp [h1 hqa]; omega
theorem getD_set (l : Array Bool) (i j : Nat) (d : Bool) : (l.setIfInBounds i true).getD j d = if i = j ∧ i < l.size then true else l.getD j d := by
  rw [Array.getD_eq_getD_getElem?, Array.getD_eq_getD_getElem?, Array.getElem?_setIfInBounds]
  by_cases h : i = j
  · subst h
    by_cases hl : i < l.size
    · simp [hl]
    · simp [hl]
  · simp [h]
/-- An invariant that each operation keeps, whenever it comes up. -/
theorem wpAny_inv (I : Array Bool → Act → World → Prop) (size : ∀ l a w, I l a w → l.size = ops.size) (edge : ∀ i o, ops[i]? = some o → ∀ e ∈ o.after, Region.binds .any e = true → e.on < i)
    (step : ∀ l a w i o, I l a w → l.getD i true = false → ops[i]? = some o → (∀ e ∈ o.after, Region.binds .any e = true → l.getD e.on false = true) → wpOp P ops Q i (fun a' w' => I (l.setIfInBounds i true) a' w') a w)
    (fin : ∀ l a w, I l a w → (∀ i, i < ops.size → l.getD i false = true) → Q .normal a w) :
    ∀ (u : Nat) (l : Array Bool) (a : Act) (w : World), unl ops.size l ≤ u → I l a w → wpAny P .any ops Q u l a w := by
  have both : ∀ (l : Array Bool) (i : Nat), l.size = ops.size → i < ops.size → l.getD i true = l.getD i false := by
    intro l i hs hi
    rw [Array.getD_eq_getD_getElem?, Array.getD_eq_getD_getElem?]
    have : i < l.size := by rw [hs]; exact hi
    simp [this]
  have prog : ∀ (l : Array Bool), l.size = ops.size → Region.ready .any ops l = [] → ∀ i, i < ops.size → l.getD i false = true := by
    intro l hs h0 i
    induction i using Nat.strongRecOn with
    | _ i ih =>
      intro hi
      cases hb : l.getD i false with
      | true => rfl
      | false =>
        have : i ∈ Region.ready .any ops l := mem_ready.2 ⟨by rw [both l i hs hi]; exact hb, ops[i], Array.getElem?_eq_getElem hi, fun e he hbd => by
          have hlt := edge i _ (Array.getElem?_eq_getElem hi) e he hbd
          exact ih e.on hlt (by omega)⟩
        rw [h0] at this
        cases this
  intro u
  induction u with
  | zero =>
    intro l a w hu hI
    have hs := size l a w hI
    have all : ∀ i, i < ops.size → l.getD i true = true := by
      intro i hi
      cases hb : l.getD i true with
      | true => rfl
      | false =>
        have h0 : (List.range ops.size).countP (fun i => !(l.getD i true)) = 0 := by unfold unl at hu; omega
        have := List.countP_eq_zero.1 h0 i (List.mem_range.2 hi)
        rw [hb] at this
        simp at this
    have hr : Region.ready .any ops l = [] := by
      cases hr : Region.ready .any ops l with
      | nil => rfl
      | cons j r =>
        have hj : j ∈ Region.ready .any ops l := by rw [hr]; exact List.mem_cons_self
        obtain ⟨h1, o, ho, _⟩ := mem_ready.1 hj
        have hlt := (Array.getElem?_eq_some_iff.1 ho).1
        rw [all j hlt] at h1
        cases h1
    exact ⟨hr, fin l a w hI fun i hi => by rw [← both l i hs hi]; exact all i hi⟩
  | succ u ih =>
    intro l a w hu hI
    have hs := size l a w hI
    refine ⟨fun h0 => fin l a w hI (prog l hs h0), fun i hi => ?_⟩
    obtain ⟨h1, o, ho, h2⟩ := mem_ready.1 hi
    have hlt := (Array.getElem?_eq_some_iff.1 ho).1
    refine wpOp_mono (fun a' w' hI' => ih _ a' w' ?_ hI') (step l a w i o hI h1 ho h2)
    have hlt' : unl ops.size (l.setIfInBounds i true) < unl ops.size l := by
      unfold unl
      refine countP_lt (i := i) (fun x hx => ?_) (List.mem_range.2 hlt) (by rw [h1]; rfl) (by rw [getD_set, if_pos ⟨rfl, by rw [hs]; exact hlt⟩]; rfl)
      rw [getD_set] at hx
      split at hx
      · cases hx
      · exact hx
    omega
end any

section inv
variable {P : Program} {B : Nat → Prop} {w0 : World} {L n : Nat} {ops : List Oper} {as ord : List Nat} {es : Nat → T4 W} {hs : Nat → Hp} {vs : Nat → W}
/-- What is true while a region's operations come up: D tells which have; the heap by names is the one behind the first m of the order. -/
structure InvS (P : Program) (B : Nat → Prop) (w0 : World) (L n : Nat) (ops : List Oper) (as ord : List Nat) (es : Nat → T4 W) (hs : Nat → Hp) (vs : Nat → W) (E0 E : Env) (m : Nat) (D : Nat → Prop) (a : Act) (w : World) : Prop where
  le : m ≤ ord.length
  wr : WR E P B w0 w (hs m)
  grow : Grow E0 (hs 0) E (hs m)
  size : a.tmps.size = L
  defers : a.defers = []
  stop : m = ord.length ∨ ∃ i, ord[m]? = some i ∧ role P (opAt ops i).op = 2
  below : ∀ p i : Nat, p < m → ord[p]? = some i → role P (opAt ops i).op = 2 → D i
  above : ∀ p i : Nat, m ≤ p → ord[p]? = some i → ¬ D i
  clos : ∀ p i j : Nat, ord[p]? = some i → D i → (ancOf as i).testBit j = true → D j
  slotD : ∀ p i d : Nat, ord[p]? = some i → D i → (opAt ops i).dst = some d → d < L → Rel E (vs p).val (a.tmps.getD d undef)
  slotN : ∀ t : Nat, t < L → (∀ p i : Nat, ord[p]? = some i → D i → (opAt ops i).dst ≠ some t) → Rel E (slotV n (es 0) t) (a.tmps.getD t undef)
  pend : ∀ p i : Nat, p < m → ord[p]? = some i → ¬ D i → role P (opAt ops i).op = 1 → WantE L n ops (opAt ops i) (es p) → ∃ nm, nameOf (vs p).val = some nm ∧ E.ρ nm = none ∧ nm < (hs m).next ∧ (hs 0).next ≤ nm
  apart : ∀ p q i j nm : Nat, p < m → q < m → p ≠ q → ord[p]? = some i → ord[q]? = some j → ¬ D i → ¬ D j → role P (opAt ops i).op = 1 → role P (opAt ops j).op = 1 → WantE L n ops (opAt ops i) (es p) → WantE L n ops (opAt ops j) (es q) → nameOf (vs p).val = some nm → nameOf (vs q).val ≠ some nm
theorem put_same {a : Act} {d : Nat} {x : Value} (h : d < a.tmps.size) : (a.put (some d) x).tmps.getD d undef = x := by
  show (a.tmps.setIfInBounds d x).getD d undef = x
  simp [Array.getD_eq_getD_getElem?, h]
theorem put_other {a : Act} {o : Option Tmp} {t : Nat} {x : Value} (h : o ≠ some t) : (a.put o x).tmps.getD t undef = a.tmps.getD t undef := by
  cases o with
  | none => rfl
  | some d =>
    show (a.tmps.setIfInBounds d x).getD t undef = _
    have hne : ¬ d = t := fun e => h (by rw [e])
    simp [Array.getD_eq_getD_getElem?, hne]
theorem put_size {a : Act} {o : Option Tmp} {x : Value} : (a.put o x).tmps.size = a.tmps.size := by
  cases o <;> simp [Act.put]
theorem put_def {a : Act} {o : Option Tmp} {x : Value} : (a.put o x).defers = a.defers := by cases o <;> rfl
/-- The slots behind one operation more. -/
theorem slots_put {E0 E E' : Env} {m p i : Nat} {D : Nat → Prop} {a : Act} {w : World} {x : Value} (G : Orderly P ops as ord) (I : InvS P B w0 L n ops as ord es hs vs E0 E m D a w) (hp : ord[p]? = some i) (hD : ¬ D i) (hle : E.le E') (hx : Rel E' (vs p).val x) :
    (∀ q j d : Nat, ord[q]? = some j → (D j ∨ j = i) → (opAt ops j).dst = some d → d < L → Rel E' (vs q).val ((a.put (opAt ops i).dst x).tmps.getD d undef)) ∧
    (∀ t : Nat, t < L → (∀ q j : Nat, ord[q]? = some j → (D j ∨ j = i) → (opAt ops j).dst ≠ some t) → Rel E' (slotV n (es 0) t) ((a.put (opAt ops i).dst x).tmps.getD t undef)) := by
  refine ⟨fun q j d hq hj hd hdL => ?_, fun t ht h => ?_⟩
  · by_cases hji : j = i
    · subst hji
      obtain rfl : q = p := G.inj hq hp
      rw [hd, put_same (by rw [I.size]; exact hdL)]
      exact hx
    · have hDj : D j := hj.resolve_right hji
      rw [put_other (fun e => ?_)]
      · exact (I.slotD q j d hq hDj hd hdL).mono hle
      · have := G.dst hq hp hd e
        subst this
        exact hji (Option.some.inj (hq.symm.trans hp))
  · rw [put_other (h p i hp (.inr rfl))]
    exact (I.slotN t ht fun q j hq hj => h q j hq (.inl hj)).mono hle
theorem clos_put {D : Nat → Prop} {i : Nat} (hc : ∀ p i j : Nat, ord[p]? = some i → D i → (ancOf as i).testBit j = true → D j) (ha : ∀ j : Nat, (ancOf as i).testBit j = true → D j) : ∀ p k j : Nat, ord[p]? = some k → (D k ∨ k = i) → (ancOf as k).testBit j = true → D j ∨ j = i := by
  intro p k j hp hk hb
  rcases hk with hk | rfl
  · exact .inl (hc p k j hp hk hb)
  · exact .inl (ha j hb)
/-- One operation more of those ahead of the stop. -/
theorem inv_low {E0 E E' : Env} {m p i : Nat} {D : Nat → Prop} {a : Act} {w w' : World} {x : Value} (G : Orderly P ops as ord) (I : InvS P B w0 L n ops as ord es hs vs E0 E m D a w) (hp : ord[p]? = some i) (hpm : p < m) (hD : ¬ D i) (ha : ∀ j : Nat, (ancOf as i).testBit j = true → D j)
    (hle : E.le E') (hx : Rel E' (vs p).val x) (hW : WR E' P B w0 w' (hs m)) (hg : Grow E0 (hs 0) E' (hs m))
    (hpend : ∀ q j nm : Nat, q < m → q ≠ p → ord[q]? = some j → ¬ D j → role P (opAt ops j).op = 1 → WantE L n ops (opAt ops j) (es q) → nameOf (vs q).val = some nm → E.ρ nm = none → nm < (hs m).next → E'.ρ nm = none) :
    InvS P B w0 L n ops as ord es hs vs E0 E' m (fun j => D j ∨ j = i) (a.put (opAt ops i).dst x) w' := by
  obtain ⟨s1, s2⟩ := slots_put G I hp hD hle hx
  refine ⟨I.le, hW, hg, by rw [put_size]; exact I.size, by rw [put_def]; exact I.defers, I.stop, fun q j hq hj hr => .inl (I.below q j hq hj hr), fun q j hq hj hn => ?_, clos_put I.clos ha, s1, s2, fun q j hq hj hn hr hw => ?_,
    fun q r j k nm hq hr hqr hj hk hnj hnk => I.apart q r j k nm hq hr hqr hj hk (fun h => hnj (.inl h)) (fun h => hnk (.inl h))⟩
  · rcases hn with hn | rfl
    · exact I.above q j hq hj hn
    · have := G.inj hj hp
      omega
  · have hqp : q ≠ p := fun e => by
      subst e
      exact hn (.inr (Option.some.inj (hj.symm.trans hp)))
    obtain ⟨nm, k1, k2, k3, k4⟩ := I.pend q j hq hj (fun h => hn (.inl h)) hr hw
    exact ⟨nm, k1, hpend q j nm hq hqp hj (fun h => hn (.inl h)) hr hw k1 k2 k3, k3, k4⟩
/-- The operation at the stop. -/
theorem inv_high {E0 E E' : Env} {m i : Nat} {D : Nat → Prop} {a : Act} {w w' : World} {x : Value} (G : Orderly P ops as ord) (T : TraceF P L n ops as [] ord es hs vs) (I : InvS P B w0 L n ops as ord es hs vs E0 E m D a w) (hp : ord[m]? = some i) (hr2 : role P (opAt ops i).op = 2) (ha : ∀ j : Nat, (ancOf as i).testBit j = true → D j)
    (hx : Rel E' (vs m).val x) (hW : WR E' P B w0 w' (hs (m + 1))) (hg : Grow E (hs m) E' (hs (m + 1))) : ∃ m', InvS P B w0 L n ops as ord es hs vs E0 E' m' (fun j => D j ∨ j = i) (a.put (opAt ops i).dst x) w' := by
  have hmN : m < ord.length := (List.getElem?_eq_some_iff.1 hp).1
  have hD : ¬ D i := I.above m i (Nat.le_refl _) hp
  obtain ⟨s1, s2⟩ := slots_put G I hp hD hg.1 hx
  obtain ⟨m', h1, h2, h3, h4⟩ := next_stop (P := P) (ops := ops) (ord := ord) (ord.length - (m + 1)) (m + 1) (by omega)
  obtain ⟨W2, n2, a2, d2⟩ := floats T (p := m + 1) h1 h2 h4 hW
  have hno : ∀ q j, m < q → ord[q]? = some j → ¬ (D j ∨ j = i) := fun q j hq hj hn => by
    rcases hn with hn | rfl
    · exact I.above q j (by omega) hj hn
    · have := G.inj hj hp
      omega
  have hgr : Grow E0 (hs 0) E' (hs m') := ⟨Env.le_trans I.grow.1 hg.1, Nat.le_trans I.grow.2.1 (Nat.le_trans hg.2.1 n2), fun k hk h0 => hg.2.2 k (Nat.lt_of_lt_of_le hk I.grow.2.1) (I.grow.2.2 k hk h0)⟩
  refine ⟨m', h2, W2, hgr, by rw [put_size]; exact I.size, by rw [put_def]; exact I.defers, h3, fun q j hq hj hr => ?_, fun q j hq hj => hno q j (by omega) hj, clos_put I.clos ha, s1, s2, fun q j hq hj hn hr hw => ?_, fun q r j k nm hq hr hqr hj hk hnj hnk hrj hrk hwj hwk hnm => ?_⟩
  · rcases Nat.lt_trichotomy q m with hlt | rfl | hlt
    · exact .inl (I.below q j hlt hj hr)
    · exact .inr (Option.some.inj (hj.symm.trans hp))
    · exact absurd hr (h4 q j (by omega) hq hj)
  · rcases Nat.lt_trichotomy q m with hlt | rfl | hlt
    · obtain ⟨nm, k1, k2, k3, k4⟩ := I.pend q j hlt hj (fun h => hn (.inl h)) hr hw
      exact ⟨nm, k1, hg.2.2 nm k3 k2, by have := hg.2.1; omega, k4⟩
    · obtain rfl : j = i := Option.some.inj (hj.symm.trans hp)
      rw [hr2] at hr
      cases hr
    · obtain ⟨nm, k1, k2, k3, k4⟩ := a2 q j (by omega) hq hj hr hw
      exact ⟨nm, k1, k4, k3, by have := I.grow.2.1; have := hg.2.1; omega⟩
  · have notm : ∀ {q j : Nat}, ord[q]? = some j → role P (opAt ops j).op = 1 → q ≠ m := fun {q j} hj hr e => by
      subst e
      obtain rfl : j = i := Option.some.inj (hj.symm.trans hp)
      rw [hr2] at hr
      cases hr
    have hqm := notm hj hrj
    have hrm := notm hk hrk
    have low : ∀ {q j : Nat} {nm : Nat}, q < m → ord[q]? = some j → ¬ (D j ∨ j = i) → role P (opAt ops j).op = 1 → WantE L n ops (opAt ops j) (es q) → nameOf (vs q).val = some nm → nm < (hs m).next := fun {q j nm} hq hj hn hr hw hnm => by
      obtain ⟨nm', k1, _, k3, _⟩ := I.pend q j hq hj (fun h => hn (.inl h)) hr hw
      rw [hnm] at k1
      rw [Option.some.inj k1]
      exact k3
    have high : ∀ {q j : Nat} {nm : Nat}, m < q → q < m' → ord[q]? = some j → role P (opAt ops j).op = 1 → WantE L n ops (opAt ops j) (es q) → nameOf (vs q).val = some nm → (hs m).next ≤ nm := fun {q j nm} hq hqm hj hr hw hnm => by
      obtain ⟨nm', k1, k2, _, _⟩ := a2 q j (by omega) hqm hj hr hw
      rw [hnm] at k1
      rw [Option.some.inj k1]
      exact Nat.le_trans hg.2.1 k2
    by_cases hq1 : q < m <;> by_cases hr1 : r < m
    · exact I.apart q r j k nm hq1 hr1 hqr hj hk (fun h => hnj (.inl h)) (fun h => hnk (.inl h)) hrj hrk hwj hwk hnm
    · intro e
      have e1 := low hq1 hj hnj hrj hwj hnm
      have e2 := high (by omega) hr hk hrk hwk e
      omega
    · intro e
      have e1 := low hr1 hk hnk hrk hwk e
      have e2 := high (by omega) hq hj hrj hwj hnm
      omega
    · rcases Nat.lt_or_ge q r with hlt | hge
      · exact d2 q r j k nm (by omega) hlt hr hj hk hrj hrk hwj hwk hnm
      · intro e
        exact d2 r q k j nm (by omega) (by omega) hq hk hj hrk hrj hwk hwj e hnm
/-- Where an operation stands that may come up now. -/
theorem ready_at {E0 E : Env} {m p i : Nat} {D : Nat → Prop} {a : Act} {w : World} (G : Orderly P ops as ord) (I : InvS P B w0 L n ops as ord es hs vs E0 E m D a w) (hp : ord[p]? = some i) (hD : ¬ D i) (ha : ∀ j : Nat, (ancOf as i).testBit j = true → D j) :
    (p = m ∧ role P (opAt ops i).op = 2) ∨ (p < m ∧ role P (opAt ops i).op ≠ 2) := by
  have hN : p < ord.length := (List.getElem?_eq_some_iff.1 hp).1
  have hle : p ≤ m := by
    rcases Nat.lt_or_ge m p with hlt | hge
    · rcases I.stop with hs | ⟨x, hx, hr⟩
      · omega
      · exact absurd (ha x (G.wr hlt hp hx hr)) (I.above m x (Nat.le_refl _) hx)
    · exact hge
  rcases Nat.lt_or_ge p m with hlt | hge
  · exact .inr ⟨hlt, fun hr => hD (I.below p i hlt hp hr)⟩
  · obtain rfl : p = m := by omega
    rcases I.stop with hs | ⟨x, hx, hr⟩
    · omega
    · obtain rfl : i = x := Option.some.inj (hp.symm.trans hx)
      exact .inl ⟨rfl, hr⟩
/-- What it looks at. -/
theorem ready_tmp (hL : L ≤ 4 ^ n) {E0 E : Env} {m p i : Nat} {D : Nat → Prop} {a : Act} {w : World} (G : Orderly P ops as ord) (T : TraceF P L n ops as [] ord es hs vs) (I : InvS P B w0 L n ops as ord es hs vs E0 E m D a w) (hp : ord[p]? = some i) (hD : ¬ D i) (ha : ∀ j : Nat, (ancOf as i).testBit j = true → D j) {t : Nat} (ht : t ∈ temps ops (opAt ops i)) :
    Rel E (evK L n (es p) (.tmp t)) (a.eval (.tmp t)) := by
  have hN : p < ord.length := (List.getElem?_eq_some_iff.1 hp).1
  show Rel E _ (a.tmps.getD t undef)
  by_cases htL : t < L
  · rw [evK_tmp htL]
    have none_case : (∀ q j : Nat, q < p → ord[q]? = some j → (opAt ops j).dst ≠ some t) → (∀ q j : Nat, ord[q]? = some j → D j → (opAt ops j).dst ≠ some t) → Rel E (slotV n (es p) t) (a.tmps.getD t undef) := by
      intro h1 h2
      rw [es_none hL T htL (Nat.zero_le p) (by omega) fun r j _ hr hj => h1 r j hr hj]
      exact I.slotN t htL h2
    by_cases hw : ∃ q j : Nat, ord[q]? = some j ∧ (opAt ops j).dst = some t
    · obtain ⟨q, j, hq, hd⟩ := hw
      have uniq : ∀ {r k : Nat}, ord[r]? = some k → (opAt ops k).dst = some t → r = q := fun hr hk => G.dst hr hq hk hd
      rcases Nat.lt_or_ge q p with hlt | hge
      · rw [es_some hL G T htL hlt (by omega) hq hd]
        exact I.slotD q j t hq (ha j (G.before hlt hp hq ht hd)) hd htL
      · refine none_case (fun r k hr hk hdk => ?_) (fun r k hk hDk hdk => ?_)
        · have := uniq hk hdk
          omega
        · obtain rfl := uniq hk hdk
          obtain rfl : k = j := Option.some.inj (hk.symm.trans hq)
          rcases Nat.lt_or_ge p r with hlt | hge'
          · exact hD (I.clos r k i hk hDk (G.behind hlt hp hk ht hd))
          · obtain rfl : r = p := by omega
            obtain rfl : k = i := Option.some.inj (hk.symm.trans hp)
            exact hD hDk
    · exact none_case (fun r k _ hk hdk => hw ⟨r, k, hk, hdk⟩) (fun r k hk _ hdk => hw ⟨r, k, hk, hdk⟩)
  · rw [evK_out htL]
    have h2 : a.tmps[t]? = none := Array.getElem?_eq_none (by rw [I.size]; exact Nat.le_of_not_lt htL)
    have h3 : a.tmps.getD t undef = undef := by
      rw [Array.getD_eq_getD_getElem?, h2]; rfl
    rw [h3]
    exact Rel.undef
theorem ready_rel (hL : L ≤ 4 ^ n) {E0 E : Env} {m p i : Nat} {D : Nat → Prop} {a : Act} {w : World} (G : Orderly P ops as ord) (T : TraceF P L n ops as [] ord es hs vs) (I : InvS P B w0 L n ops as ord es hs vs E0 E m D a w) (hp : ord[p]? = some i) (hD : ¬ D i) (ha : ∀ j : Nat, (ancOf as i).testBit j = true → D j) :
    RelE (opP ops (opAt ops i)) E (evK L n (es p)) a := fun x hx => by
  cases x with
  | tmp t => exact ready_tmp hL G T I hp hD ha (by simpa [opP] using hx)
  | const v =>
    show Rel E (toW v).val v
    rw [toW_val]
    exact Rel.refl_flat hx
  | global g => simp [opP, opdB] at hx
  | func f => exact relL_func (E := E) (xs := #[]) (xs' := #[]) (ys := #[]) (ys' := #[]) trivial trivial
theorem ready_want (hL : L ≤ 4 ^ n) {E0 E : Env} {m p i : Nat} {D : Nat → Prop} {a : Act} {w : World} (G : Orderly P ops as ord) (T : TraceF P L n ops as [] ord es hs vs) (I : InvS P B w0 L n ops as ord es hs vs E0 E m D a w) (hp : ord[p]? = some i) (hD : ¬ D i) (ha : ∀ j : Nat, (ancOf as i).testBit j = true → D j) :
    Region.wanted (opAt ops i) (yielded ops.toArray a.tmps) = true ↔ WantE L n ops (opAt ops i) (es p) := by
  unfold WantE
  cases hg : (opAt ops i).guard with
  | none =>
    simp only [iff_true]
    unfold Region.wanted
    rw [hg]
  | some gw =>
    obtain ⟨g, want⟩ := gw
    obtain ⟨d, hd⟩ := G.guard hp hg
    have h1 := wanted_iff (L := L) (n := n) (ready_tmp hL G T I hp hD ha (guard_temps hg hd)) hg hd
    rw [h1]
    dsimp only
    constructor
    · intro h; exact ⟨d, hd, h⟩
    · rintro ⟨d', hd', h⟩
      obtain rfl : d = d' := Option.some.inj (hd.symm.trans hd')
      exact h
/-- What the checks at the stop say of an operation that has not come up. -/
theorem at_stop {E0 E : Env} {m p i : Nat} {D : Nat → Prop} {a : Act} {w : World} (T : TraceF P L n ops as [] ord es hs vs) (I : InvS P B w0 L n ops as ord es hs vs E0 E m D a w) (hp : ord[p]? = some i) (hpm : p < m) (hD : ¬ D i)
    (hr : role P (opAt ops i).op = 1 ∨ (role P (opAt ops i).op = 0 ∧ readB (opAt ops i).op = true ∧ ∃ q j : Nat, p < q ∧ q < m ∧ ord[q]? = some j ∧ role P (opAt ops j).op ≠ 0)) :
    ChkJ P L n ops (opAt ops i) (es m) (hs m) ∧ ∀ t ∈ temps ops (opAt ops i), ∀ r j : Nat, p ≤ r → r < m → ord[r]? = some j → (opAt ops j).dst ≠ some t := by
  have hF : ChkF P L n ops as (ord.take m) (es m) (hs m) := by
    rcases I.stop with h | ⟨x, hx, hr2⟩
    · have := T.last
      rw [← h] at this
      rw [show ord.take m = ord by rw [h]; exact List.take_length]
      simpa using this
    · simpa using T.look m x hx hr2
  obtain ⟨post, hpost⟩ : ∃ post, post = (ord.take m).drop (p + 1) := ⟨_, rfl⟩
  have hget : (ord.take m)[p]? = some i := by rw [List.getElem?_take, if_pos hpm]; exact hp
  have hlt : p < (ord.take m).length := (List.getElem?_eq_some_iff.1 hget).1
  have hsplit : ord.take m = (ord.take m).take p ++ i :: post := by
    have h1 := List.take_append_drop p (ord.take m)
    have h2 : (ord.take m).drop p = i :: post := by
      rw [hpost, List.drop_eq_getElem_cons hlt]
      congr 1
      exact Option.some.inj ((List.getElem?_eq_getElem hlt).symm.trans hget)
    rw [h2] at h1
    exact h1.symm
  have inpost : ∀ {j : Nat}, j ∈ post → ∃ q : Nat, p < q ∧ q < m ∧ ord[q]? = some j := by
    intro j hj
    rw [hpost] at hj
    obtain ⟨k, hk⟩ := List.mem_iff_getElem?.1 hj
    rw [List.getElem?_drop, List.getElem?_take] at hk
    split at hk
    · exact ⟨p + 1 + k, by omega, by omega, hk⟩
    · cases hk
  have topost : ∀ {q j : Nat}, p < q → q < m → ord[q]? = some j → j ∈ post := by
    intro q j h1 h2 h3
    rw [hpost]
    exact List.mem_of_getElem? (i := q - (p + 1)) (by rw [List.getElem?_drop, show p + 1 + (q - (p + 1)) = q by omega, List.getElem?_take, if_pos h2]; exact h3)
  have hB : pendB P ops as i post = true := by
    unfold pendB
    rw [Bool.and_eq_true, Bool.or_eq_true]
    refine ⟨?_, List.all_eq_true.2 fun j hj => ?_⟩
    · rcases hr with h1 | ⟨h0, hrd, q, j, h1, h2, h3, h4⟩
      · left; rw [h1]; rfl
      · right
        rw [Bool.and_eq_true, Bool.and_eq_true]
        refine ⟨⟨by rw [h0]; rfl, hrd⟩, List.any_eq_true.2 ⟨j, topost h1 h2 h3, ?_⟩⟩
        cases hb : Nat.beq (role P (opAt ops j).op) 0 with
        | false => rfl
        | true => exact absurd (Nat.eq_of_beq_eq_true hb) h4
    · obtain ⟨q, h1, h2, h3⟩ := inpost hj
      cases hb : Nat.beq (role P (opAt ops j).op) 2 with
      | false => rfl
      | true =>
        have hDj := I.below q j h2 h3 (Nat.eq_of_beq_eq_true hb)
        cases ht : (ancOf as j).testBit i with
        | false => rfl
        | true => exact absurd (I.clos q j i h3 hDj ht) hD
  obtain ⟨h1, h2⟩ := hF _ i post hsplit hB
  refine ⟨h2, fun t ht r j hr1 hr2 hj hd => ?_⟩
  have h3 := List.all_eq_true.1 h1 t ht
  have hmem : j ∈ i :: post := by
    by_cases hrp : r = p
    · subst hrp
      rw [Option.some.inj (hj.symm.trans hp)]
      exact List.mem_cons_self
    · exact List.mem_cons_of_mem _ (topost (by omega) hr2 hj)
  have h4 := List.all_eq_true.1 h3 j hmem
  rw [hd] at h4
  simp at h4
/-- One operation that may come up now. -/
theorem inv_step (hL : L ≤ 4 ^ n) {Q : Exit → Act → World → Prop} {E0 E : Env} {m p i : Nat} {D : Nat → Prop} {a : Act} {w : World} (G : Orderly P ops as ord) (T : TraceF P L n ops as [] ord es hs vs) (I : InvS P B w0 L n ops as ord es hs vs E0 E m D a w) (hp : ord[p]? = some i) (hD : ¬ D i) (ha : ∀ j : Nat, (ancOf as i).testBit j = true → D j) :
    if Region.wanted (opAt ops i) (yielded ops.toArray a.tmps) then (opAt ops i).wp P a w (fun a' w' => ∃ E' m', InvS P B w0 L n ops as ord es hs vs E0 E' m' (fun j => D j ∨ j = i) a' w') Q
    else ∃ E' m', InvS P B w0 L n ops as ord es hs vs E0 E' m' (fun j => D j ∨ j = i) (a.put (opAt ops i).dst undef) w := by
  have hw := ready_want hL G T I hp hD ha
  obtain ⟨hall, hstep⟩ := T.step p i hp
  have hR := ready_rel hL G T I hp hD ha
  have hpl := opP_all (ops := ops) hall
  have pendkeep : ∀ {E' : Env}, Grow E (hs m) E' (hs m) → ∀ q j nm : Nat, q < m → q ≠ p → ord[q]? = some j → ¬ D j → role P (opAt ops j).op = 1 → WantE L n ops (opAt ops j) (es q) → nameOf (vs q).val = some nm → E.ρ nm = none → nm < (hs m).next → E'.ρ nm = none :=
    fun g q j nm _ _ _ _ _ _ _ h1 h2 => g.2.2 nm h2 h1
  by_cases hwant : WantE L n ops (opAt ops i) (es p)
  · rw [if_pos (hw.2 hwant)]
    have hF : OpF P (evK L n (es p)) (opAt ops i) (hs p) (vs p).val (hs (p + 1)) := by
      rcases hstep with ⟨_, h⟩ | ⟨h, _⟩
      · exact h
      · exact absurd hwant h
    rcases ready_at G I hp hD ha with ⟨rfl, hr2⟩ | ⟨hpm, hr2⟩
    · -- the operation at the stop
      refine hF.opT (opP ops (opAt ops i)) E w a _ Q hpl I.wr hR fun x w' hA => ?_
      obtain ⟨E', g1, g2, g3⟩ := hA
      obtain ⟨m', h⟩ := inv_high G T I hp hr2 ha g2 g3 g1
      exact ⟨E', m', h⟩
    · have hmN : m ≤ ord.length := I.le
      rcases role_lt (P := P) (opAt ops i).op with h0 | h1 | h2
      · -- one that changes nothing
        have hq := (role0_F h0 hF).1
        have hqm : opQ P (hs m) (evK L n (es p)) (opAt ops i).op = some (vs p).val := by
          cases hrd : readB (opAt ops i).op with
          | false => rw [opQ_heap (h' := hs p) hrd]; exact hq
          | true =>
            by_cases hex : ∃ q j : Nat, p < q ∧ q < m ∧ ord[q]? = some j ∧ role P (opAt ops j).op ≠ 0
            · obtain ⟨hC, hst⟩ := at_stop T I hp hpm hD (.inr ⟨h0, hrd, hex⟩)
              have hev : ∀ t ∈ temps ops (opAt ops i), evK L n (es m) (.tmp t) = evK L n (es p) (.tmp t) := fun t ht => ev_stay hL T (by omega) hmN hst ht
              obtain ⟨d, hd, hdL, k1, _⟩ := hC ((want_same hev).2 hwant)
              have k2 := k1 h0
              rw [opQ_congr (ev_ops hev), evK_tmp hdL, es_some hL G T hdL hpm hmN hp hd] at k2
              exact k2
            · rw [hs_same T (p := p) (by omega) hmN fun r j hr1 hr2' hj => ?_]
              · exact hq
              · by_cases hrp : r = p
                · subst hrp
                  rw [Option.some.inj (hj.symm.trans hp)]
                  exact h0
                · exact Classical.byContradiction fun hne => hex ⟨r, j, by omega, hr2', hj, hne⟩
        refine quietT (B := B) (w0 := w0) hqm (opP ops (opAt ops i)) E w a _ Q hpl I.wr hR fun x w' hA => ?_
        obtain ⟨E', g1, g2, g3⟩ := hA
        exact ⟨E', m, inv_low G I hp hpm hD ha g1.1 g2 g3 (I.grow.trans g1) (pendkeep g1)⟩
      · -- one that makes memory
        obtain ⟨hC, hst⟩ := at_stop T I hp hpm hD (.inl h1)
        have hev : ∀ t ∈ temps ops (opAt ops i), evK L n (es m) (.tmp t) = evK L n (es p) (.tmp t) := fun t ht => ev_stay hL T (by omega) hmN hst ht
        obtain ⟨d, hd, hdL, _, k1⟩ := hC ((want_same hev).2 hwant)
        obtain ⟨blk, f, nm, b, k2, k3, k4, k5, k6⟩ := k1 (by rw [h1]; decide)
        rw [makeQ_congr (ev_ops hev)] at k2
        rw [evK_tmp hdL, es_some hL G T hdL hpm hmN hp hd] at k3 k4
        obtain ⟨nm', n1, n2, n3, n4⟩ := I.pend p i hpm hp hD h1 hwant
        obtain rfl : nm = nm' := Option.some.inj (k4.symm.trans n1)
        obtain ⟨x, w', q1, q2, q3⟩ := make_ok I.wr hR hpl k2 k5 k6 n2 n3
        unfold Oper.wp
        rw [q3]
        have hle : E.le (E.upd nm w.heap.size 0) := Env.le_upd n2
        refine ⟨E.upd nm w.heap.size 0, m, inv_low G I hp hpm hD ha hle (by rw [k3]; exact q1) q2 ⟨Env.le_trans I.grow.1 hle, I.grow.2.1, fun k hk h0 => ?_⟩ fun q j nq hqm hqp hj hDj hrj hwj hnq h0 _ => ?_⟩
        · have : k ≠ nm := by omega
          have h3 := I.grow.2.2 k hk h0
          simp [Env.upd, this, h3]
        · have : nq ≠ nm := fun e => by
            subst e
            exact I.apart p q i j nq hpm hqm (fun e => hqp e.symm) hp hj hD hDj h1 hrj hwant hwj n1 hnq
          simp [Env.upd, this, h0]
      · exact absurd h2 hr2
  · rw [if_neg (fun h => hwant (hw.1 h))]
    obtain ⟨hv, hh⟩ : vs p = .o undef ∧ hs (p + 1) = hs p := by
      rcases hstep with ⟨h, _⟩ | ⟨_, h⟩
      · exact absurd h hwant
      · exact h
    have hx : Rel E (vs p).val undef := by rw [hv]; exact Rel.undef
    rcases ready_at G I hp hD ha with ⟨rfl, hr2⟩ | ⟨hpm, hr2⟩
    · obtain ⟨m', h⟩ := inv_high G T I hp hr2 ha hx (by rw [hh]; exact I.wr) (by rw [hh]; exact Grow.refl _ _)
      exact ⟨E, m', h⟩
    · exact ⟨E, m, inv_low G I hp hpm hD ha E.le_refl hx I.wr I.grow fun _ _ _ _ _ _ _ _ _ _ h _ => h⟩
end inv
section draw
variable {P : Program} {B : Nat → Prop} {w0 : World}
theorem opAt_get {ops : List Oper} {i : Nat} {o : Oper} (h : ops[i]? = some o) : opAt ops i = o := by unfold opAt; rw [h]; rfl
theorem InvS.congr {L n : Nat} {ops : List Oper} {as ord : List Nat} {es : Nat → T4 W} {hs : Nat → Hp} {vs : Nat → W} {E0 E : Env} {m : Nat} {D D' : Nat → Prop} {a : Act} {w : World} (I : InvS P B w0 L n ops as ord es hs vs E0 E m D a w) (h : ∀ j, D j ↔ D' j) : InvS P B w0 L n ops as ord es hs vs E0 E m D' a w := by
  have : D = D' := funext fun j => propext (h j)
  rw [← this]
  exact I
/-- Regions whose order is open. -/
theorem draw_ok (hm : P.follows .mixedOrders = true) : DrawSound P := by
  intro F L n id ops c e h kn hF hL hk hr
  unfold drawK at hk
  dsimp only at hk
  obtain ⟨as, has⟩ : ∃ as, as = ancs ops.toList [] := ⟨_, rfl⟩
  rw [← has] at hk
  generalize hord : sortK P ops.toList as _ (ops.toList.length + 1) (List.range ops.toList.length) 0 = ord at hk
  cases hb : (Nat.beq ord.length ops.toList.length && ((List.range ops.toList.length).all fun x => ord.any fun y => Nat.beq y x) && okIts P ops.toList as [] ord) with
  | false => rw [hb] at hk; cases hk
  | true =>
    rw [hb, cond_true] at hk
    cases hk
    simp only [Bool.and_eq_true] at hb
    obtain ⟨⟨_, hsur⟩, hok⟩ := hb
    have G := good_of hok
    have sur : ∀ x : Nat, x < ops.size → ∃ p : Nat, ord[p]? = some x := by
      intro x hx
      have h1 := List.all_eq_true.1 hsur x (List.mem_range.2 (by simpa using hx))
      obtain ⟨y, hy, h2⟩ := List.any_eq_true.1 h1
      rw [← Nat.eq_of_beq_eq_true h2]
      exact List.mem_iff_getElem?.1 hy
    obtain ⟨es, hs, vs, he, hh, T, hq⟩ := draw_trace hF ord [] e h kn hr
    refine ⟨es ord.length, hs ord.length, hq, fun {B w0} E0 w a Q W K hQ => wp_region_any hm ?_⟩
    have W' : WR E0 P B w0 { w with drawn := w.drawn + 1 } (hs 0) := by rw [hh]; exact W.drew
    obtain ⟨m0, _, hm1, hm2, hm3⟩ := next_stop (P := P) (ops := ops.toList) (ord := ord) ord.length 0 (by omega)
    obtain ⟨W2, n2, a2, d2⟩ := floats T (p := 0) (Nat.zero_le m0) hm1 hm3 W'
    have get : ∀ {x : Nat} {o : Oper}, ops[x]? = some o → opAt ops.toList x = o := fun {x o} hx => opAt_get (by simpa using hx)
    have I0 : InvS P B w0 L n ops.toList as ord es hs vs E0 E0 m0 (fun _ => False) a { w with drawn := w.drawn + 1 } :=
      ⟨hm1, W2, ⟨E0.le_refl, n2, fun _ _ h => h⟩, K.size, K.defers, hm2, fun q j _ hj hr => absurd hr (hm3 q j (Nat.zero_le _) (by omega) hj), fun _ _ _ _ h => h, fun _ _ _ _ h => h.elim, fun _ _ _ _ h => h.elim,
        fun t ht _ => by rw [he]; exact K.slot t ht, fun q j hq hj _ hr hw => (by
          obtain ⟨nm, k1, k2, k3, k4⟩ := a2 q j (Nat.zero_le _) hq hj hr hw
          exact ⟨nm, k1, k4, k3, k2⟩), fun q r j k nm hq hr hqr hj hk _ _ hrj hrk hwj hwk hnm => (by
          rcases Nat.lt_or_ge q r with hlt | hge
          · exact d2 q r j k nm (Nat.zero_le _) hlt hr hj hk hrj hrk hwj hwk hnm
          · intro e
            exact d2 r q k j nm (Nat.zero_le _) (by omega) hq hk hj hrk hrj hwk hwj e hnm)⟩
    refine wpAny_inv (fun l a' w' => l.size = ops.size ∧ ∃ E m, InvS P B w0 L n ops.toList as ord es hs vs E0 E m (fun j => l.getD j false = true) a' w') (fun l a' w' hI => hI.1) (fun x o hx e' he' hbd => ?_) (fun l a' w' x o hI hx ho hdep => ?_) (fun l a' w' hI hall => ?_) ops.size _ a _ ?_ ⟨by simp, E0, m0, I0.congr fun j => ?_⟩
    · obtain ⟨p, hp⟩ := sur x (Array.getElem?_eq_some_iff.1 hx).1
      have := G.edge hp e' (by rw [get hx]; exact Array.mem_toList_iff.2 he') hbd
      exact this
    · obtain ⟨hsz, E, m, I⟩ := hI
      have hlt := (Array.getElem?_eq_some_iff.1 ho).1
      obtain ⟨p, hp⟩ := sur x hlt
      have hD : ¬ (l.getD x false = true) := by
        have hl : x < l.size := by rw [hsz]; exact hlt
        rw [Array.getD_eq_getD_getElem?] at hx ⊢
        simp [hl] at hx ⊢
        exact hx
      have hox := get ho
      have ha : ∀ j : Nat, (ancOf as x).testBit j = true → l.getD j false = true := by
        intro j hj
        rw [G.mask hp] at hj
        unfold edgeMask at hj
        rcases edge_bit hj with h1 | ⟨e', he', hbd, h1⟩
        · simp at h1
        · rw [hox] at he'
          have hde := hdep e' (Array.mem_toList_iff.1 he') hbd
          rcases h1 with h1 | h1
          · rw [← h1]; exact hde
          · have hlt2 : e'.on < x := G.edge hp e' (by rw [hox]; exact he') hbd
            obtain ⟨q, hq'⟩ := sur e'.on (by omega)
            exact I.clos q e'.on j hq' hde h1
      have hst := inv_step hL (Q := Q) G T I hp hD ha
      have fin : ∀ a2 w2, (∃ E' m', InvS P B w0 L n ops.toList as ord es hs vs E0 E' m' (fun j => l.getD j false = true ∨ j = x) a2 w2) → (l.setIfInBounds x true).size = ops.size ∧ ∃ E' m', InvS P B w0 L n ops.toList as ord es hs vs E0 E' m' (fun j => (l.setIfInBounds x true).getD j false = true) a2 w2 := by
        rintro a2 w2 ⟨E', m', I'⟩
        refine ⟨by simpa using hsz, E', m', I'.congr fun j => ?_⟩
        rw [getD_set]
        by_cases hj : x = j
        · subst hj
          simp [show x < l.size by rw [hsz]; exact hlt]
        · have hj' : ¬ j = x := fun e => hj e.symm
          simp [hj, hj']
      unfold wpOp
      rw [ho]
      dsimp only
      rw [hox] at hst
      rw [Array.toArray_toList] at hst
      by_cases hw : Region.wanted o (yielded ops a'.tmps) = true
      · rw [if_pos hw] at hst ⊢
        exact .inl (Oper.wp_mono fin hst)
      · rw [if_neg hw] at hst ⊢
        exact fin _ _ hst
    · obtain ⟨hsz, E, m, I⟩ := hI
      have hmN : m = ord.length := by
        rcases I.stop with h1 | ⟨x, hx, _⟩
        · exact h1
        · exact absurd (hall x (by have := G.lt hx; simpa using this)) (I.above m x (Nat.le_refl _) hx)
      subst hmN
      have hg := I.grow
      rw [hh] at hg
      refine hQ E w' a' hg I.wr ⟨I.size, I.defers, fun t ht => ?_⟩
      by_cases hw : ∃ q j : Nat, ord[q]? = some j ∧ (opAt ops.toList j).dst = some t
      · obtain ⟨q, j, hq', hd⟩ := hw
        have hlt : q < ord.length := (List.getElem?_eq_some_iff.1 hq').1
        rw [es_some hL G T ht hlt (Nat.le_refl _) hq' hd]
        exact I.slotD q j t hq' (hall j (by have := G.lt hq'; simpa using this)) hd ht
      · rw [es_none hL T ht (Nat.zero_le _) (Nat.le_refl _) fun r j _ _ hj hd => hw ⟨r, j, hj, hd⟩]
        exact I.slotN t ht fun q j hj _ hd => hw ⟨q, j, hj, hd⟩
    · unfold unl
      exact Nat.le_trans (List.countP_le_length) (by simp)
    · simp only [false_iff]
      rw [Array.getD_eq_getD_getElem?, Array.getElem?_replicate]
      split <;> simp
end draw
end Go.Proofs.YtlagmjdifilheaaGreat.Exe
