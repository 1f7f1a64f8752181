/- Go's merge in place, walked. Conditions: those that are named. -/
import Derived.Test.YtagjgofnaplefaaWeX
import Derived.Deep.Cut
namespace Go.Proofs.Ytagjgofnaplefaa.Wei
open Go.RowKit
open Flo
open Blk (nats)
theorem Cmp.on {n c g : Nat} {K : Nat → Int} {w w' : World} (h : Cmp n K c g w) (hb : Below g w w') : Cmp n K c g w' := fun wr i j k => h wr i j (hb.trans k)
theorem mix_lt {a b n : Nat} {l d : List Nat} (h : Mix a b l d) (hb : b ≤ l.length) (hl : ∀ x, x < l.length → l.getD x 0 < n) : ∀ x, x < d.length → d.getD x 0 < n := fun x hx => by
  have h1 := h.1
  by_cases hin : a ≤ x ∧ x < b
  · obtain ⟨y, y1, y2, y3⟩ := h.2.2.1 x hin.1 hin.2
    rw [y3]
    exact hl y (by omega)
  · rw [h.2.1 x (by omega)]
    exact hl x (by omega)
theorem sor_out {K : Nat → Int} {a b x y : Nat} {l d : List Nat} (h : Mix a b l d) (hx : b ≤ x) (hs : Sor K l x y) : Sor K d x y := fun u v h1 h2 h3 => by
  rw [h.2.1 u (by omega), h.2.1 v (by omega)]
  exact hs u v h1 h2 h3
theorem apart_out {a b x y z : Nat} {l d : List Nat} (h : Mix a b l d) (hx : b ≤ x) (hs : Apart l x y z) : Apart d x y z := fun u v h1 h2 h3 h4 => by
  rw [h.2.1 u (by omega), h.2.1 v (by omega)]
  exact hs u v h1 h2 h3 h4
/-- What the merge gives. -/
def SymTo (n c g : Nat) (K : Nat → Int) (t : TypeId) (N : Nat) : Prop :=
  ∀ (cap a m b : Nat) (l : List Nat) (w : World), b - a < N → Cmp n K c g w → Blk.Is w g (nats .i64 l) t → (∀ x, x < l.length → l.getD x 0 < n) → a < m → m < b → b ≤ l.length → l.length ≤ 1000000 → Sor K l a m → Sor K l m b → Apart l a m b →
    Calls Try.prog 37 #[.slice (some ⟨g, 0, none⟩) l.length cap, .int .i64 a, .int .i64 m, .int .i64 b, clo c] w fun e w' =>
      e = .returned (.tuple #[]) ∧ ∃ l', Sor K l' a b ∧ Mix a b l l' ∧ Blk.Is w' g (nats .i64 l') t ∧ Below g w w'
set_option maxHeartbeats 4000000 in
set_option maxRecDepth 100000 in
theorem sym_c (n c g cap a m b N : Nat) (K : Nat → Int) (t : TypeId) (l : List Nat) (w : World) (hN : b - a ≤ N) (ih : SymTo n c g K t N) (hcmp : Cmp n K c g w) (hb : Blk.Is w g (nats .i64 l) t) (hlt : ∀ x, x < l.length → l.getD x 0 < n)
    (ham : a < m) (hno : m ≠ a + 1) (hmb : m < b) (hno' : b ≠ m + 1) (hbl : b ≤ l.length) (hn : l.length ≤ 1000000)
    (hl : Sor K l a m) (hr : Sor K l m b) (hap : Apart l a m b) :
    Calls Try.prog 37 #[.slice (some ⟨g, 0, none⟩) l.length cap, .int .i64 a, .int .i64 m, .int .i64 b, clo c] w fun e w' =>
      e = .returned (.tuple #[]) ∧ ∃ l', Sor K l' a b ∧ Mix a b l l' ∧ Blk.Is w' g (nats .i64 l') t ∧ Below g w w' := by
  have HC := Lib.hid hcmp
  have HB := Lib.hid hb
  have HLT := Lib.hid hlt
  have HL := Lib.hid hl
  have HR := Lib.hid hr
  have HAP := Lib.hid hap
  have HIH := Lib.hid ih
  have k0 : Below g w w := Below.refl _ _
  clear hcmp hb hlt hl hr hap ih
  generalize hz : l.length = z at *
  have HZ := Lib.hid hz
  obtain ⟨r, hrr⟩ : ∃ r, r = m - a := ⟨_, rfl⟩
  have c0 : (m : Int) - (a : Int) = (r : Int) := by omega
  have hwr : IntKind.i64.wrap (r : Int) = (r : Int) := by rw [IntKind.wrap_i64]; omega
  have c1 : ((r : Int) == 1) = false := by rw [beq_eq_false_iff_ne]; omega
  have c1' : decide ((r : Int) = 1) = false := decide_eq_false (by omega)
  have c1'' : ¬ (r : Int) = 1 := by omega
  obtain ⟨v, hvv⟩ : ∃ v, v = b - m := ⟨_, rfl⟩
  have d0 : (b : Int) - (m : Int) = (v : Int) := by omega
  have hwv : IntKind.i64.wrap (v : Int) = (v : Int) := by rw [IntKind.wrap_i64]; omega
  have d1 : ((v : Int) == 1) = false := by rw [beq_eq_false_iff_ne]; omega
  have d1' : decide ((v : Int) = 1) = false := decide_eq_false (by omega)
  have d1'' : ¬ (v : Int) = 1 := by omega
  clear hrr hvv hno hno' hz
  obtain ⟨q, hq⟩ : ∃ q, q = (a + b) / 2 := ⟨_, rfl⟩
  obtain ⟨y, hy⟩ : ∃ y, y = q + m := ⟨_, rfl⟩
  have eq1 : ((a : Int) + (b : Int)) / 2 = (q : Int) := by omega
  have eq2 : (q : Int) + (m : Int) = (y : Int) := by omega
  have hwy : IntKind.i64.wrap (y : Int) = (y : Int) := by rw [IntKind.wrap_i64]; omega
  have HQ := Lib.hid hq
  have HY := Lib.hid hy
  have bq : a < q ∧ q < b ∧ y < b + b ∧ a + m ≤ y := by omega
  clear hq hy
  go_enter Try.func37, Try.ntmps37
  go_upto_if 140 with (fail)
  clear c0 hwr c1 c1' c1'' d0 hwv d1 d1' d1'' eq1 eq2 hwy
  go_cut [20, 21] from 25 (fun v20 v21 w' => ∃ s0 r0 : Nat, v20 = .int .i64 s0 ∧ v21 = .int .i64 r0 ∧ a ≤ s0 ∧ s0 ≤ r0 ∧ r0 ≤ m ∧ r0 ≤ q ∧ y ≤ s0 + b ∧ (r0 = m ∨ r0 = q) ∧ (s0 = a ∨ s0 + b = y) ∧ w' = w)
  case first =>
    by_cases hmq : q < m
    · have h1 : (q : Int) < (m : Int) := by omega
      have h2 : decide ((q : Int) < (m : Int)) = true := decide_eq_true h1
      obtain ⟨s, hs⟩ : ∃ s, s = y - b := ⟨_, rfl⟩
      have hys : a ≤ s ∧ s ≤ q ∧ s + b = y := by have := HQ.out; have := HY.out; omega
      have e1 : (y : Int) - (b : Int) = (s : Int) := by omega
      have hws : IntKind.i64.wrap (s : Int) = (s : Int) := by rw [IntKind.wrap_i64]; omega
      clear hs
      go_wp2_with fail
      go_meet
      case rel => exact ⟨s, q, by go_num, rfl, by omega, by omega, by omega, by omega, by omega, .inr rfl, .inr (by omega), rfl⟩
    · have h1 : ¬ (q : Int) < (m : Int) := by omega
      have h2 : decide ((q : Int) < (m : Int)) = false := decide_eq_false h1
      have h3 := HQ.out
      have h4 := HY.out
      have h5 : y ≤ a + b := by omega
      clear h3 h4
      go_wp2_with fail
      go_meet
      case rel => exact ⟨a, m, rfl, rfl, by omega, by omega, by omega, by omega, by omega, .inl rfl, .inl rfl, rfl⟩
  case rest =>
    obtain ⟨s0, r0, rfl, rfl, g1, g2, g3, g4, g5, g6, g7, hwc⟩ := hcut
    have hwc' := hwc.symm
    subst hwc'
    obtain ⟨p, hp⟩ : ∃ p, p = y - 1 := ⟨_, rfl⟩
    have ep : (y : Int) - 1 = (p : Int) := by omega
    have hwp : IntKind.i64.wrap (p : Int) = (p : Int) := by rw [IntKind.wrap_i64]; omega
    have bp : p + 1 = y := by omega
    have HYm : y = q + m := HY.out
    have bpm : ∀ h : Nat, h < q → m + h < y := fun h hh => by omega
    have HP := Lib.hid bp
    have HBP := Lib.hid bpm
    clear hp bp HYm bpm
    go_wp2_with fail
    clear ep
    go_loopw [20, 21, 23] (fun vi vj _ wr => ∃ (i j : Nat), vi = .int .i64 i ∧ vj = .int .i64 j ∧ s0 ≤ i ∧ i ≤ j ∧ j ≤ r0 ∧ Hid ((i = s0 ∨ lx K (l.getD (i - 1) 0) (l.getD (p - (i - 1)) 0)) ∧ (j = r0 ∨ lx K (l.getD (p - j) 0) (l.getD j 0))) ∧ Blk.Is wr g (nats .i64 l) t ∧ Below g w wr) (fun i j _ _ => (intOf j).toNat - (intOf i).toNat)
    case atStart => exact ⟨s0, r0, rfl, rfl, by omega, by omega, by omega, Lib.hid ⟨.inl rfl, .inl rfl⟩, HB.out, k0⟩
    case round =>
      clear k0 HB
      obtain ⟨i, j, rfl, rfl, hsi, hij, hjr, HE, hblk, k1⟩ := hrel
      by_cases hlt : i < j
      · have hlt' : (i : Int) < (j : Int) := by omega
        obtain ⟨h, hh⟩ : ∃ h, h = (i + j) / 2 := ⟨_, rfl⟩
        have eh : ((i : Int) + (j : Int)) / 2 = (h : Int) := by omega
        have hih : i ≤ h ∧ h < j := by omega
        obtain ⟨o, ho⟩ : ∃ o, o = p - h := ⟨_, rfl⟩
        have hpy := HP.out
        have hbp := HBP.out h (by omega)
        have hoz : m ≤ o ∧ o < b ∧ o < z := by omega
        have eo : (p : Int) - (h : Int) = (o : Int) := by omega
        have hwo : IntKind.i64.wrap (o : Int) = (o : Int) := by rw [IntKind.wrap_i64]; omega
        have hhz : (h : Int) < (z : Int) := by omega
        have hoz' : (o : Int) < (z : Int) := by omega
        have ch := hblk.nat h (by rw [HZ.out]; omega)
        have ca := hblk.nat o (by rw [HZ.out]; omega)
        have hx := HLT.out h (by omega)
        have hy := HLT.out o (by omega)
        have hau := HAP.out h o (by omega) (by omega) (by omega) (by omega)
        have HBK := Lib.hid hblk
        have HO := Lib.hid ho
        have hbs : g ≤ wr.drew.heap.size := Nat.le_of_lt hblk.lt
        have hkx : ∀ x : Cls.Wd (Cls.Kept wr.drew), Below g w x.w := fun x => k1.drew.trans (x.ok.mono hbs)
        have hcall := fun (u : Cls.Wd (Cls.Kept wr.drew)) => HC.out u.w _ _ (hkx u) hy hx
        have HE1 : Go.RowKit.Hid (K (l.getD o 0) < K (l.getD h 0) → lx K (l.getD o 0) (l.getD h 0)) := Lib.hid (fun h => .inl h)
        have HE2 : Go.RowKit.Hid (¬ K (l.getD o 0) < K (l.getD h 0) → lx K (l.getD h 0) (l.getD o 0)) := Lib.hid (fun h => lx_right hau h)
        have HD := Lib.hid (cmp3_neg (K (l.getD o 0)) (K (l.getD h 0)))
        have HEE := HE
        clear hh hau hblk ho hpy hbp
        obtain ⟨u, hu⟩ : ∃ u, l.getD h 0 = u := ⟨_, rfl⟩
        obtain ⟨v, hv⟩ : ∃ v, l.getD o 0 = v := ⟨_, rfl⟩
        rw [hu] at ch hx HE1 HE2 HD hcall
        rw [hv] at ca hy HE1 HE2 HD hcall
        have HU := Lib.hid hu
        have HV := Lib.hid hv
        clear hu hv
        by_cases hxy : K v < K u
        · as_aux_lemma =>
          have HD' : Go.RowKit.Hid (decide (cmp3 (K v) (K u) < 0) = true) := Lib.hid (by rw [HD.out]; exact decide_eq_true hxy)
          have HN : Go.RowKit.Hid ((i = s0 ∨ lx K (l.getD (i - 1) 0) (l.getD (p - (i - 1)) 0)) ∧ (h = r0 ∨ lx K (l.getD (p - h) 0) (l.getD h 0))) := Lib.hid ⟨HEE.out.1, .inr (by rw [← HO.out, HU.out, HV.out]; exact HE1.out hxy)⟩
          clear HD hxy
          generalize cmp3 (K v) (K u) = y at hcall HD'
          have hz := HD'.out
          have HCL := Lib.hid hcall
          clear hcall
          go_upto_region 35 with (fail)
          have q1 := Cls.Wd.cell (w0 := wr.drew) ch
          have q2 := Cls.Wd.cell (w0 := wr.drew) ca
          refine Cls.region_cls (S := Cls.Kept _) (by kernel_rfl) (by kernel_rfl) (Below.refl _ _) ?_
          iterate 14 (go_big_quiet_step (first | (go_at_call 31; with_reducible refine Cls.calls_kept (HCL.out _)) | fail))
          refine wpQuiet_nil ?_
          intro w3 hw3
          have k3 : Below g w w3 := hkx ⟨w3, hw3⟩
          have B3 := Lib.hid (HBK.out.drew.below hw3)
          clear q1 q2 ch ca hkx HCL HBK hw3 k1
          go_wp2
          clear eh eo
          go_roundw
          case rel => exact ⟨i, h, rfl, rfl, by omega, by omega, by omega, HN, B3.out, k3⟩
          case measure => simp [intOf]; omega
        · as_aux_lemma =>
          have HD' : Go.RowKit.Hid (decide (cmp3 (K v) (K u) < 0) = false) := Lib.hid (by rw [HD.out]; exact decide_eq_false hxy)
          have HN : Go.RowKit.Hid ((h + 1 = s0 ∨ lx K (l.getD (h + 1 - 1) 0) (l.getD (p - (h + 1 - 1)) 0)) ∧ (j = r0 ∨ lx K (l.getD (p - j) 0) (l.getD j 0))) := Lib.hid ⟨.inr (by rw [Nat.add_sub_cancel, ← HO.out, HU.out, HV.out]; exact HE2.out hxy), HEE.out.2⟩
          clear HD hxy
          generalize cmp3 (K v) (K u) = y at hcall HD'
          have hz := HD'.out
          have HCL := Lib.hid hcall
          clear hcall
          go_upto_region 35 with (fail)
          have q1 := Cls.Wd.cell (w0 := wr.drew) ch
          have q2 := Cls.Wd.cell (w0 := wr.drew) ca
          refine Cls.region_cls (S := Cls.Kept _) (by kernel_rfl) (by kernel_rfl) (Below.refl _ _) ?_
          iterate 14 (go_big_quiet_step (first | (go_at_call 31; with_reducible refine Cls.calls_kept (HCL.out _)) | fail))
          refine wpQuiet_nil ?_
          intro w3 hw3
          have k3 : Below g w w3 := hkx ⟨w3, hw3⟩
          have B3 := Lib.hid (HBK.out.drew.below hw3)
          clear q1 q2 ch ca hkx HCL HBK hw3 k1
          go_wp2
          clear eh eo
          go_roundw
          case rel => exact ⟨h + 1, j, by go_num, rfl, by omega, by omega, by omega, HN, B3.out, k3⟩
          case measure => simp [intOf]; omega
      · obtain rfl : i = j := by omega
        have hlt' : ¬ (i : Int) < (i : Int) := by omega
        have hpy := HP.out
        have hyy := HY.out
        obtain ⟨e, he⟩ : ∃ e, e = y - i := ⟨_, rfl⟩
        have ee : (y : Int) - (i : Int) = (e : Int) := by omega
        have hwe : IntKind.i64.wrap (e : Int) = (e : Int) := by rw [IntKind.wrap_i64]; omega
        have be : a ≤ i ∧ i ≤ m ∧ m ≤ e ∧ e ≤ b ∧ i ≤ q ∧ q ≤ e := by omega
        have HQE : Go.RowKit.Hid (q = i + (e - m)) := Lib.hid (by omega)
        have H1 : Go.RowKit.Hid (i = m ∨ m = e ∨ lx K (l.getD (e - 1) 0) (l.getD i 0)) := Lib.hid (by
          rcases HE.out.2 with h | h
          · omega
          · exact .inr (.inr (by rw [show e - 1 = p - i by omega]; exact h)))
        have H2 : Go.RowKit.Hid (i = a ∨ e = b ∨ lx K (l.getD (i - 1) 0) (l.getD e 0)) := Lib.hid (by
          rcases HE.out.1 with h | h
          · omega
          · by_cases h0 : i = 0
            · omega
            · exact .inr (.inr (by rw [show e = p - (i - 1) by omega]; exact h)))
        have HHV := Lib.hid (fun d => halves (d := d) be.1 be.2.1 be.2.2.1 be.2.2.2.1 HQE.out HL.out HR.out HAP.out H1.out H2.out)
        have HBK := Lib.hid hblk
        clear HE hpy hyy he H1 H2 hblk
        go_upto_region 39 with (fail)
        go_cut [185] from 25 (fun t185 w' => ∃ β : Bool, t185 = .bool β ∧ Hid (β = decide (i < m ∧ m < e)) ∧ w' = wr)
        case first =>
          as_aux_lemma =>
          by_cases t1 : i < m
          · have t1i : (i : Int) < (m : Int) := by omega
            have t1d : decide ((i : Int) < (m : Int)) = true := decide_eq_true t1i
            by_cases t2 : m < e
            · have t2i : (m : Int) < (e : Int) := by omega
              have t2d : decide ((m : Int) < (e : Int)) = true := decide_eq_true t2i
              have HT : Go.RowKit.Hid (true = decide (i < m ∧ m < e)) := Lib.hid (decide_eq_true ⟨t1, t2⟩).symm
              clear t1 t2
              go_wp2_with fail
              go_meet
              case rel => exact ⟨true, rfl, HT, rfl⟩
            · have t2d : decide ((m : Int) < (e : Int)) = false := decide_eq_false (by omega)
              have t2i : ¬ (m : Int) < (e : Int) := by omega
              have HT : Go.RowKit.Hid (false = decide (i < m ∧ m < e)) := Lib.hid (decide_eq_false (fun h => t2 h.2)).symm
              clear t1 t2
              go_wp2_with fail
              go_meet
              case rel => exact ⟨false, rfl, HT, rfl⟩
          · have t1d : decide ((i : Int) < (m : Int)) = false := decide_eq_false (by omega)
            have t1i : ¬ (i : Int) < (m : Int) := by omega
            have HT : Go.RowKit.Hid (false = decide (i < m ∧ m < e)) := Lib.hid (decide_eq_false (fun h => t1 h.1)).symm
            clear t1
            go_wp2_with fail
            go_meet
            case rel => exact ⟨false, rfl, HT, rfl⟩
        case rest =>
        as_aux_lemma =>
        obtain ⟨β, rfl, HTB, hwc⟩ := hcut
        have hwc' := hwc.symm
        subst hwc'
        clear hwc
        go_upto_if 185 with (fail)
        go_cut [] from 25 (fun w' => ∃ d : List Nat, Hid (Rot l d i m e) ∧ d.length = z ∧ Blk.Is w' g (nats .i64 d) t ∧ Below g w w')
        case first =>
          as_aux_lemma =>
          rcases Bool.eq_false_or_eq_true β with hβ | hβ
          · subst hβ
            have t1 : i < m ∧ m < e := of_decide_eq_true HTB.out.symm
            have hcall := rotate_any g cap i m e (clo c) t l wr HBK.out t1.1 t1.2 (by rw [HZ.out]; omega) (by rw [HZ.out]; exact hn)
            rw [HZ.out] at hcall
            have HCL := Lib.hid hcall
            clear hcall t1
            go_wp2_with fail
            refine HCL.out.mono ?_
            rintro e1 w5 ⟨rfl, d, R1, B1, k5⟩
            have HLn := Lib.hid (R1.1.trans HZ.out)
            have HRo := Lib.hid R1
            have k6 := k1.trans k5
            clear R1 k5 HCL
            go_wp2_with fail
            go_meet
            case rel => exact ⟨d, HRo, HLn.out, B1, k6⟩
          · subst hβ
            have t1 : ¬ (i < m ∧ m < e) := of_decide_eq_false HTB.out.symm
            have HRo : Go.RowKit.Hid (Rot l l i m e) := Lib.hid (rot_nil l i m e (by omega))
            clear t1
            go_wp2_with fail
            go_meet
            case rel => exact ⟨l, HRo, HZ.out, HBK.out, k1⟩
        case rest =>
        as_aux_lemma =>
        obtain ⟨w5, rfl⟩ : ∃ w5, w5 = wc := ⟨wc, rfl⟩
        obtain ⟨d, HRo, hd, B5, k5⟩ := hcut
        have HVV := Lib.hid (HHV.out d HRo.out)
        have HNd := Lib.hid (mix_lt (HRo.out.mix be.2.1 be.2.2.1) (by rw [HZ.out]; omega) (by rw [HZ.out]; exact HLT.out))
        have HB5 := Lib.hid B5
        clear HHV HBK k1 B5
        go_upto_region 41 with (fail)
        go_cut [199] from 25 (fun t199 w' => ∃ β : Bool, t199 = .bool β ∧ Hid (β = decide (a < i ∧ i < q)) ∧ w' = w5)
        case first =>
          as_aux_lemma =>
          by_cases t1 : a < i
          · have t1i : (a : Int) < (i : Int) := by omega
            have t1d : decide ((a : Int) < (i : Int)) = true := decide_eq_true t1i
            by_cases t2 : i < q
            · have t2i : (i : Int) < (q : Int) := by omega
              have t2d : decide ((i : Int) < (q : Int)) = true := decide_eq_true t2i
              have HT : Go.RowKit.Hid (true = decide (a < i ∧ i < q)) := Lib.hid (decide_eq_true ⟨t1, t2⟩).symm
              clear t1 t2
              go_wp2_with fail
              go_meet
              case rel => exact ⟨true, rfl, HT, rfl⟩
            · have t2d : decide ((i : Int) < (q : Int)) = false := decide_eq_false (by omega)
              have t2i : ¬ (i : Int) < (q : Int) := by omega
              have HT : Go.RowKit.Hid (false = decide (a < i ∧ i < q)) := Lib.hid (decide_eq_false (fun h => t2 h.2)).symm
              clear t1 t2
              go_wp2_with fail
              go_meet
              case rel => exact ⟨false, rfl, HT, rfl⟩
          · have t1d : decide ((a : Int) < (i : Int)) = false := decide_eq_false (by omega)
            have t1i : ¬ (a : Int) < (i : Int) := by omega
            have HT : Go.RowKit.Hid (false = decide (a < i ∧ i < q)) := Lib.hid (decide_eq_false (fun h => t1 h.1)).symm
            clear t1
            go_wp2_with fail
            go_meet
            case rel => exact ⟨false, rfl, HT, rfl⟩
        case rest =>
        as_aux_lemma =>
        obtain ⟨β, rfl, HTB, hwc⟩ := hcut
        have hwc' := hwc.symm
        subst hwc'
        clear hwc
        go_upto_if 199 with (fail)
        go_cut [] from 25 (fun w' => ∃ d1 : List Nat, Hid (Sor K d1 a q ∧ Mix a q d d1) ∧ Blk.Is w' g (nats .i64 d1) t ∧ Below g w w')
        case first =>
          as_aux_lemma =>
          rcases Bool.eq_false_or_eq_true β with hβ | hβ
          · subst hβ
            have t1 : a < i ∧ i < q := of_decide_eq_true HTB.out.symm
            have hcall := HIH.out cap a i q d w5 (by omega) (HC.out.on k5) HB5.out HNd.out t1.1 t1.2 (by omega) (by omega) HVV.out.2.1 HVV.out.2.2.1 HVV.out.2.2.2.2.2.1
            rw [hd] at hcall
            have HCL := Lib.hid hcall
            clear hcall t1
            go_wp2_with fail
            refine HCL.out.mono ?_
            rintro e1 w6 ⟨rfl, d1, S1, M1, B1, k6⟩
            have HSM : Go.RowKit.Hid (Sor K d1 a q ∧ Mix a q d d1) := Lib.hid ⟨S1, M1⟩
            have k7 := k5.trans k6
            clear S1 M1 k6 HCL
            go_wp2_with fail
            go_meet
            case rel => exact ⟨d1, HSM, B1, k7⟩
          · subst hβ
            have t1 : ¬ (a < i ∧ i < q) := of_decide_eq_false HTB.out.symm
            have HSM : Go.RowKit.Hid (Sor K d a q ∧ Mix a q d d) := Lib.hid ⟨by
              by_cases h : a < i
              · have h' : i = q := by omega
                have := HVV.out.2.1
                rw [h'] at this
                exact this
              · have h' : i = a := by omega
                have := HVV.out.2.2.1
                rw [h'] at this
                exact this, Mix.refl _ _ _⟩
            clear t1
            go_wp2_with fail
            go_meet
            case rel => exact ⟨d, HSM, HB5.out, k5⟩
        case rest =>
        as_aux_lemma =>
        obtain ⟨w6, rfl⟩ : ∃ w6, w6 = wc := ⟨wc, rfl⟩
        obtain ⟨d1, HSM, B6, k6⟩ := hcut
        have hd1 : d1.length = z := HSM.out.2.1.trans hd
        have HNd1 := Lib.hid (mix_lt HSM.out.2 (by omega) HNd.out)
        have HB6 := Lib.hid B6
        clear HB5 k5 B6
        go_upto_region 43 with (fail)
        go_cut [213] from 25 (fun t213 w' => ∃ β : Bool, t213 = .bool β ∧ Hid (β = decide (q < e ∧ e < b)) ∧ w' = w6)
        case first =>
          as_aux_lemma =>
          by_cases t1 : q < e
          · have t1i : (q : Int) < (e : Int) := by omega
            have t1d : decide ((q : Int) < (e : Int)) = true := decide_eq_true t1i
            by_cases t2 : e < b
            · have t2i : (e : Int) < (b : Int) := by omega
              have t2d : decide ((e : Int) < (b : Int)) = true := decide_eq_true t2i
              have HT : Go.RowKit.Hid (true = decide (q < e ∧ e < b)) := Lib.hid (decide_eq_true ⟨t1, t2⟩).symm
              clear t1 t2
              go_wp2_with fail
              go_meet
              case rel => exact ⟨true, rfl, HT, rfl⟩
            · have t2d : decide ((e : Int) < (b : Int)) = false := decide_eq_false (by omega)
              have t2i : ¬ (e : Int) < (b : Int) := by omega
              have HT : Go.RowKit.Hid (false = decide (q < e ∧ e < b)) := Lib.hid (decide_eq_false (fun h => t2 h.2)).symm
              clear t1 t2
              go_wp2_with fail
              go_meet
              case rel => exact ⟨false, rfl, HT, rfl⟩
          · have t1d : decide ((q : Int) < (e : Int)) = false := decide_eq_false (by omega)
            have t1i : ¬ (q : Int) < (e : Int) := by omega
            have HT : Go.RowKit.Hid (false = decide (q < e ∧ e < b)) := Lib.hid (decide_eq_false (fun h => t1 h.1)).symm
            clear t1
            go_wp2_with fail
            go_meet
            case rel => exact ⟨false, rfl, HT, rfl⟩
        case rest =>
        as_aux_lemma =>
        obtain ⟨β, rfl, HTB, hwc⟩ := hcut
        have hwc' := hwc.symm
        subst hwc'
        clear hwc
        go_upto_if 213 with (fail)
        have HMX : Go.RowKit.Hid (Mix a b l d) := Lib.hid ((HRo.out.mix be.2.1 be.2.2.1).mono be.1 be.2.2.2.1)
        rcases Bool.eq_false_or_eq_true β with hβ | hβ
        · subst hβ
          have t1 : q < e ∧ e < b := of_decide_eq_true HTB.out.symm
          have s1 : Sor K d1 q e := sor_out HSM.out.2 (Nat.le_refl _) HVV.out.2.2.2.1
          have s2 : Sor K d1 e b := sor_out HSM.out.2 (by omega) HVV.out.2.2.2.2.1
          have s3 : Apart d1 q e b := apart_out HSM.out.2 (Nat.le_refl _) HVV.out.2.2.2.2.2.2
          have hcall := HIH.out cap q e b d1 w6 (by omega) (HC.out.on k6) HB6.out HNd1.out t1.1 t1.2 (by omega) (by omega) s1 s2 s3
          rw [hd1] at hcall
          have HCL := Lib.hid hcall
          clear hcall t1 s1 s2 s3
          go_wp2_with fail
          refine HCL.out.mono ?_
          rintro e1 w7 ⟨rfl, d2, S2, M2, B7, k7⟩
          have HF := Lib.hid (halves_done (by omega) (by omega) HVV.out.1 HSM.out.1 HSM.out.2 S2 M2)
          have k8 := k6.trans k7
          clear S2 M2 k7 HCL
          go_wp2
          exact ⟨rfl, _, results_none rfl _ _ _, rfl, d2, HF.out.1, HMX.out.trans HF.out.2, B7, k8⟩
        · subst hβ
          have t1 : ¬ (q < e ∧ e < b) := of_decide_eq_false HTB.out.symm
          have S2 : Sor K d1 q b := by
            by_cases h : q < e
            · have h' : e = b := by omega
              have := sor_out HSM.out.2 (Nat.le_refl _) HVV.out.2.2.2.1
              rw [h'] at this
              exact this
            · have h' : e = q := by omega
              have := sor_out HSM.out.2 (by omega) HVV.out.2.2.2.2.1
              rw [h'] at this
              exact this
          have HF := Lib.hid (halves_done (by omega) (by omega) HVV.out.1 HSM.out.1 HSM.out.2 S2 (Mix.refl _ _ _))
          clear S2 t1
          go_wp2
          exact ⟨rfl, _, results_none rfl _ _ _, rfl, d1, HF.out.1, HMX.out.trans HF.out.2, HB6.out, k6⟩
end Go.Proofs.Ytagjgofnaplefaa.Wei
