/- Go's stable sort of up to forty places, walked. Conditions: those that are named. -/
import Derived.Test.YtagjgofnaplefaaWeZ
namespace Go.Proofs.Ytagjgofnaplefaa.Wei
open Go.RowKit
open Flo
open Blk (nats)
theorem ordered_one {K : Nat → Int} {n : Nat} {l m : List Nat} (h : Ordered K n l) (h' : Ordered K n m) : l = m := by
  obtain ⟨l1, l2⟩ := h.mem
  obtain ⟨m1, m2⟩ := h'.mem
  refine getD_eq_of (l1.trans m1.symm) ?_
  rw [l1]
  intro x
  induction x using Nat.strongRecOn with
  | ind x ih =>
    intro hx
    obtain ⟨z, z1, z2⟩ := (m2 _).1 ((l2 _).2 ⟨x, hx, rfl⟩)
    obtain ⟨y, y1, y2⟩ := (l2 _).1 ((m2 _).2 ⟨x, hx, rfl⟩)
    by_cases e : z = x
    · rw [← z2, e]
    · rcases Nat.lt_or_gt_of_ne e with h1 | h1
      · have := ih z h1 z1
        have h2 := h.1 z x (Nat.zero_le _) h1 hx
        rw [this, z2] at h2
        exact absurd h2 lx_irr
      · have h2 := h'.1 x z (Nat.zero_le _) h1 z1
        rw [z2] at h2
        by_cases e' : y = x
        · rw [e'] at y2; exact y2
        · rcases Nat.lt_or_gt_of_ne e' with h3 | h3
          · have := ih y h3 y1
            have h4 := h'.1 y x (Nat.zero_le _) h3 hx
            rw [← this, y2] at h4
            exact absurd h4 lx_irr
          · have h4 := h.1 x y (Nat.zero_le _) h3 y1
            rw [y2] at h4
            exact absurd (lx_trans h2 h4) lx_irr
/-- Where the blocks of twenty are sorted as far as a place; the others are as they were. -/
def Part (K : Nat → Int) (n k : Nat) (l : List Nat) : Prop :=
  l.length = n ∧ Mix 0 n (List.range n) l ∧ (∀ x, x < 20 * k → x < n → l.getD x 0 / 20 = x / 20) ∧ (∀ x, 20 * k ≤ x → x < n → l.getD x 0 = x) ∧ ∀ j, j < k → Sor K l (20 * j) (20 * j + 20)
theorem Part.start (K : Nat → Int) (n : Nat) : Part K n 0 (List.range n) :=
  ⟨List.length_range, Mix.refl _ _ _, fun x h => by omega, fun x _ h => range_at n x h, fun j h => by omega⟩
theorem Part.step {K : Nat → Int} {n k : Nat} {l : List Nat} (h : Part K n k l) (hi : Nat) (hk : 20 * k ≤ hi) (hh : hi ≤ 20 * k + 20) (hn : hi ≤ n) :
    let d := insOuter K (20 * k) hi (20 * k + 1) l
    d.length = n ∧ Mix 0 n (List.range n) d ∧ (∀ x, x < hi → x < n → d.getD x 0 / 20 = x / 20) ∧ (∀ x, hi ≤ x → x < n → d.getD x 0 = x) ∧ (∀ j, j < k → Sor K d (20 * j) (20 * j + 20)) ∧ Sor K d (20 * k) hi := by
  obtain ⟨h1, h2, h3, h4, h5⟩ := h
  have hs := ins_sor K (20 * k) hi l hk (by omega) (fun x y a1 a2 a3 => by rw [h4 x a1 (by omega), h4 y (by omega) (by omega)]; exact a2)
  obtain ⟨s1, m⟩ := hs
  refine ⟨m.1.trans h1, h2.trans (m.mono (by omega) hn), fun x a1 a2 => ?_, fun x a1 a2 => ?_, fun j hj => ?_, s1⟩
  · by_cases c : 20 * k ≤ x
    · obtain ⟨y, y1, y2, y3⟩ := m.2.2.1 x c a1
      rw [y3, h4 y y1 (by omega)]
      omega
    · rw [m.2.1 x (by omega)]
      exact h3 x (by omega) a2
  · rw [m.2.1 x (by omega)]
    exact h4 x (by omega) a2
  · intro x y a1 a2 a3
    rw [m.2.1 x (by omega), m.2.1 y (by omega)]
    exact h5 j hj x y a1 a2 a3
theorem Part.next {K : Nat → Int} {n k : Nat} {l : List Nat} (h : Part K n k l) (hn : 20 * k + 20 ≤ n) : Part K n (k + 1) (insOuter K (20 * k) (20 * k + 20) (20 * k + 1) l) := by
  obtain ⟨s1, s2, s3, s4, s5, s6⟩ := h.step (20 * k + 20) (by omega) (Nat.le_refl _) hn
  refine ⟨s1, s2, fun x a1 a2 => s3 x (by omega) a2, fun x a1 a2 => s4 x (by omega) a2, fun j hj => ?_⟩
  by_cases e : j = k
  · rw [e]; exact s6
  · exact s5 j (by omega)
theorem Part.lt {n : Nat} {l : List Nat} (h : l.length = n ∧ Mix 0 n (List.range n) l) : ∀ x ∈ l, x < n := by
  intro x hx
  obtain ⟨i, hi, rfl⟩ := List.mem_iff_getElem.1 hx
  have hin : i < n := by omega
  obtain ⟨y, _, y2, y3⟩ := h.2.2.2.1 i (Nat.zero_le _) hin
  rw [range_at n y y2, List.getD_eq_getElem?_getD, List.getElem?_eq_getElem hi] at y3
  simp at y3
  omega
/-- Two sorted blocks, the first of the lesser numbers. -/
def Two (K : Nat → Int) (n : Nat) (d : List Nat) : Prop := d.length = n ∧ Mix 0 n (List.range n) d ∧ Sor K d 0 20 ∧ Sor K d 20 n ∧ Apart d 0 20 n
theorem Part.two {K : Nat → Int} {n k : Nat} {l : List Nat} (h : Part K n k l) (h1 : 20 ≤ n) (h2 : n ≤ 40) (hk : 20 * k ≤ n) (hk' : n < 20 * k + 20) : Two K n (insOuter K (20 * k) n (20 * k + 1) l) := by
  obtain ⟨s1, s2, s3, s4, s5, s6⟩ := h.step n hk (by omega) (Nat.le_refl _)
  refine ⟨s1, s2, s5 0 (by omega), ?_, fun x y a1 a2 a3 a4 => ?_⟩
  · by_cases e : k = 1
    · subst e; exact s6
    · have e2 : k = 2 := by omega
      subst e2
      have := s5 1 (by omega)
      have hn : n = 40 := by omega
      rw [hn]
      rw [hn] at this
      exact this
  · have e1 := s3 x (by omega) (by omega)
    have e2 := s3 y (by omega) a4
    omega
theorem Ordered.mem' {n : Nat} {l : List Nat} (h : Mix 0 n (List.range n) l) (x : Nat) (hx : x < n) : l.getD x 0 < n := by
  obtain ⟨y, _, y2, y3⟩ := h.2.2.1 x (Nat.zero_le _) hx
  rw [y3, range_at n y y2]
  exact y2
set_option maxHeartbeats 4000000 in
set_option maxRecDepth 100000 in
theorem stable_some (n c b cap : Nat) (K : Nat → Int) (t : TypeId) (w : World) (hcmp : Cmp n K c b w) (hb : Blk.Is w b (nats .i64 (List.range n)) t) (hn1 : 20 ≤ n) (hn2 : n ≤ 40) :
    Calls Try.prog 35 #[.slice (some ⟨b, 0, none⟩) n cap, .int .i64 n, clo c] w fun e w' =>
      e = .returned (.tuple #[]) ∧ ∃ l', Ordered K n l' ∧ Blk.Is w' b (nats .i64 l') t ∧ Below b w w' := by
  have HC := Lib.hid hcmp
  have HB := Lib.hid hb
  have k0 : Below b w w := Below.refl _ _
  have HP0 := Lib.hid (Part.start K n)
  clear hcmp hb
  go_enter Try.func35, Try.ntmps35
  go_wp2_with fail
  go_loopw [7, 8] (fun va vb wr => ∃ (x : Nat) (l : List Nat), va = .int .i64 (x : Nat) ∧ vb = .int .i64 ((x + 20 : Nat) : Nat) ∧ Hid (∃ k, x = 20 * k ∧ Part K n k l) ∧ x ≤ n ∧ l.length = n ∧ Blk.Is wr b (nats .i64 l) t ∧ Below b w wr) (fun va _ _ => 60 - (intOf va).toNat)
  case atStart => exact ⟨0, List.range n, rfl, rfl, Lib.hid ⟨0, rfl, HP0.out⟩, by omega, List.length_range, HB.out, k0⟩
  case round =>
    clear k0 HB HP0
    obtain ⟨x, l, rfl, rfl, HK, hxn, hln, hblk, k1⟩ := hrel
    by_cases hlt : x + 20 ≤ n
    · have hlt' : (x : Int) + 20 ≤ (n : Int) := by omega
      have hcall := ins_any n c b cap x (x + 20) K t l _ (HC.out.on k1) hblk (by
        obtain ⟨k, _, hp⟩ := HK.out
        exact Part.lt ⟨hp.1, hp.2.1⟩) (by omega) (by omega) (by omega)
      rw [hln] at hcall
      have HCL := Lib.hid hcall
      have HN : Go.RowKit.Hid (∃ k, x + 20 = 20 * k ∧ Part K n k (insOuter K x (x + 20) (x + 1) l)) := Lib.hid (by
        obtain ⟨k, hk, hp⟩ := HK.out
        subst hk
        exact ⟨k + 1, by omega, hp.next hlt⟩)
      have HLN : Go.RowKit.Hid ((insOuter K x (x + 20) (x + 1) l).length = n) := Lib.hid (by rw [insOuter_length]; exact hln)
      clear hcall
      generalize insOuter K x (x + 20) (x + 1) l = d at HCL HN HLN
      go_wp2_with fail
      refine HCL.out.mono ?_
      rintro e w1 ⟨rfl, B1, k2⟩
      have k3 := k1.trans k2
      clear k1 k2 hblk HCL
      go_wp2_with fail
      go_roundw
      case rel => exact ⟨x + 20, d, by go_num, by go_num, HN, hlt, HLN.out, B1, k3⟩
      case measure => simp [intOf]; omega
    · have hlt' : ¬ (x : Int) + 20 ≤ (n : Int) := by omega
      have hlt2 : decide ((x : Int) + 20 ≤ (n : Int)) = false := decide_eq_false hlt'
      have hcall := ins_any n c b cap x n K t l _ (HC.out.on k1) hblk (by
        obtain ⟨k, _, hp⟩ := HK.out
        exact Part.lt ⟨hp.1, hp.2.1⟩) (by omega) (by omega) (by omega)
      rw [hln] at hcall
      have HCL := Lib.hid hcall
      have HF : Go.RowKit.Hid (Two K n (insOuter K x n (x + 1) l)) := Lib.hid (by
        obtain ⟨k, hk, hp⟩ := HK.out
        subst hk
        exact hp.two hn1 hn2 hxn (by omega))
      clear hcall HK
      generalize insOuter K x n (x + 1) l = d at HCL HF
      go_wp2_with fail
      refine HCL.out.mono ?_
      rintro e w1 ⟨rfl, B1, k2⟩
      have k3 := k1.trans k2
      clear k1 k2 hblk HCL hlt hlt' hlt2
      go_wp2_with fail
      by_cases h20 : n = 20
      · have HO : Go.RowKit.Hid (Ordered K n d) := Lib.hid ⟨by have := HF.out.2.2.1; rw [h20]; exact this, HF.out.2.1⟩
        have d1 : decide (20 < (n : Int)) = false := decide_eq_false (by omega)
        have d2 : ¬ 20 < (n : Int) := by omega
        clear h20
        go_loopw [6, 7, 8, 9] (fun vs va vb vm w2 => vs = .int .i64 20 ∧ w2 = w1) (fun _ _ _ _ _ => 0)
        case atStart => exact ⟨rfl, rfl⟩
        case round =>
          obtain ⟨rfl, rfl⟩ := hrel
          go_wp2
          exact ⟨rfl, _, results_none rfl _ _ _, rfl, d, HO.out, B1, k3⟩
      · have n20 : 20 < n := by omega
        have d1 : decide (20 < (n : Int)) = true := decide_eq_true (by omega)
        have d2 : 20 < (n : Int) := by omega
        have d3 : decide (40 < (n : Int)) = false := decide_eq_false (by omega)
        have d4 : ¬ 40 < (n : Int) := by omega
        go_loopw [6, 7, 8, 9] (fun vs va vb vm w2 => ∃ (s : Nat) (d : List Nat), vs = .int .i64 s ∧ (s = 20 ∨ s = 40) ∧ Hid (s = 20 ∧ Two K n d ∨ s = 40 ∧ Ordered K n d) ∧ Blk.Is w2 b (nats .i64 d) t ∧ Below b w w2) (fun vs _ _ _ _ => 40 - (intOf vs).toNat)
        case atStart => exact ⟨20, d, rfl, .inl rfl, Lib.hid (.inl ⟨rfl, HF.out⟩), B1, k3⟩
        case round =>
          clear B1 k3 HF
          obtain ⟨s, d, rfl, hs, HS, B1, k3⟩ := hrel
          rcases hs with rfl | rfl
          · have HF : Go.RowKit.Hid (Two K n d) := Lib.hid (by
              rcases HS.out with h | h
              · exact h.2
              · exact absurd h.1 (by decide))
            have hcall := (sym_to n c b K t (n + 1)) cap 0 20 n d
            have hdl : d.length = n := HF.out.1
            have HCL := Lib.hid (fun wr (h1 : Blk.Is wr b (nats .i64 d) t) (h2 : Below b w wr) => hcall wr (by omega) (HC.out.on h2) h1 (fun x hx => by
              rw [hdl] at hx
              exact (Ordered.mem' HF.out.2.1 x hx)) (by omega) n20 (by omega) (by omega) HF.out.2.2.1 HF.out.2.2.2.1 HF.out.2.2.2.2)
            rw [hdl] at HCL
            clear hcall hdl HS
            go_wp2_with fail
            by_cases h40 : n = 40
            · have HCL4 := HCL
              rw [show (n : Int) = 40 by omega] at HCL4
              have d5 : decide (40 ≤ (n : Int)) = true := decide_eq_true (by omega)
              have d6 : 40 ≤ (n : Int) := by omega
              have d7 : decide (80 ≤ (n : Int)) = false := decide_eq_false (by omega)
              have d8 : ¬ 80 ≤ (n : Int) := by omega
              have d9 : decide (60 < (n : Int)) = false := decide_eq_false (by omega)
              have d10 : ¬ 60 < (n : Int) := by omega
              have H40 := Lib.hid h40
              clear h40 HCL
              go_loopw [7, 8] (fun va vb w3 => ∃ (x : Nat) (d' : List Nat), va = .int .i64 x ∧ vb = .int .i64 ((x + 40 : Nat) : Nat) ∧ (x = 0 ∨ x = 40) ∧ Hid (x = 0 ∧ d' = d ∨ x = 40 ∧ Ordered K n d') ∧ Blk.Is w3 b (nats .i64 d') t ∧ Below b w w3) (fun va _ _ => 40 - (intOf va).toNat)
              case atStart => exact ⟨0, d, rfl, rfl, .inl rfl, Lib.hid (.inl ⟨rfl, rfl⟩), B1, k3⟩
              case round =>
                clear B1 k3
                obtain ⟨x, d', rfl, rfl, hx, HX, B1, k3⟩ := hrel
                rcases hx with rfl | rfl
                · have hdd : d' = d := by
                    rcases HX.out with h | h
                    · exact h.2
                    · exact absurd h.1 (by decide)
                  subst hdd
                  have hcl := HCL4.out wr (by have := B1; exact this) k3
                  have HCM := Lib.hid hcl
                  clear hcl HCL4 HX
                  go_wp2_with fail
                  refine HCM.out.mono ?_
                  rintro e w4 ⟨rfl, d4, S4, M4, B4, k4⟩
                  have k5 := k3.trans k4
                  have HO : Go.RowKit.Hid (Ordered K n d4) := Lib.hid ⟨S4, HF.out.2.1.trans M4⟩
                  clear S4 M4 k4 B1 k3
                  go_wp2_with fail
                  go_roundw
                  case rel => exact ⟨40, d4, by go_num, by go_num, .inr rfl, Lib.hid (.inr ⟨rfl, HO.out⟩), B4, k5⟩
                  case measure => simp [intOf]
                · have HO : Go.RowKit.Hid (Ordered K n d') := Lib.hid (by
                    rcases HX.out with h | h
                    · exact absurd h.1 (by decide)
                    · exact h.2)
                  go_wp2_with fail
                  go_roundw
                  case rel => exact ⟨40, d', by go_num, .inr rfl, Lib.hid (.inr ⟨rfl, HO.out⟩), B1, k3⟩
                  case measure => simp [intOf]
            · have d5 : decide (40 ≤ (n : Int)) = false := decide_eq_false (by omega)
              have d6 : ¬ 40 ≤ (n : Int) := by omega
              go_loopw [7, 8] (fun va vb w3 => va = .int .i64 0 ∧ vb = .int .i64 40 ∧ Blk.Is w3 b (nats .i64 d) t ∧ Below b w w3) (fun _ _ _ => 0)
              case atStart => exact ⟨rfl, rfl, B1, k3⟩
              case round =>
                clear B1 k3
                obtain ⟨rfl, rfl, B1, k3⟩ := hrel
                have hcl := HCL.out wr B1 k3
                have HCM := Lib.hid hcl
                clear hcl HCL
                go_wp2_with fail
                refine HCM.out.mono ?_
                rintro e w4 ⟨rfl, d4, S4, M4, B4, k4⟩
                have k5 := k3.trans k4
                have HO : Go.RowKit.Hid (Ordered K n d4) := Lib.hid ⟨S4, HF.out.2.1.trans M4⟩
                clear S4 M4 k4 B1 k3
                go_wp2_with fail
                go_roundw
                case rel => exact ⟨40, d4, by go_num, .inr rfl, Lib.hid (.inr ⟨rfl, HO.out⟩), B4, k5⟩
                case measure => simp [intOf]
          · have HO : Go.RowKit.Hid (Ordered K n d) := Lib.hid (by
              rcases HS.out with h | h
              · exact absurd h.1 (by decide)
              · exact h.2)
            go_wp2
            exact ⟨rfl, _, results_none rfl _ _ _, rfl, d, HO.out, B1, k3⟩
theorem stable_any (n c b cap : Nat) (K : Nat → Int) (t : TypeId) (w : World) (hcmp : Cmp n K c b w) (hb : Blk.Is w b (nats .i64 (List.range n)) t) (hn2 : n ≤ 40) :
    Calls Try.prog 35 #[.slice (some ⟨b, 0, none⟩) n cap, .int .i64 n, clo c] w fun e w' =>
      e = .returned (.tuple #[]) ∧ ∃ l', Ordered K n l' ∧ Blk.Is w' b (nats .i64 l') t ∧ Below b w w' := by
  by_cases hn : 20 ≤ n
  · exact stable_some n c b cap K t w hcmp hb hn hn2
  · have := stable_few n c b cap K t (List.range n) w hcmp hb (fun x hx => List.mem_range.1 hx) (by rw [List.length_range]; omega)
    rw [List.length_range] at this
    exact this.mono fun e w' ⟨h1, h2, h3⟩ => ⟨h1, _, few_ordered K n, h2, h3⟩
end Go.Proofs.Ytagjgofnaplefaa.Wei
