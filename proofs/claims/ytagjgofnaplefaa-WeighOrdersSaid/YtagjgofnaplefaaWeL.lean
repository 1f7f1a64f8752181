/- Go's insertion sort of numbers by a comparison that reads what lies below, walked. Conditions: those that are named. -/
import Derived.Test.YtagjgofnaplefaaWeK
import Derived.Test.YtagjgofnaplefaaCls
namespace Go.Proofs.Ytagjgofnaplefaa.Wei
open Go.RowKit
open Flo
open Blk (nats)
/-- Two places exchanged. -/
def swp (l : List Nat) (i j : Nat) : List Nat := (l.set i (l.getD j 0)).set j (l.getD i 0)
theorem swp_length (l : List Nat) (i j : Nat) : (swp l i j).length = l.length := by simp [swp]
/-- Down from a place, while the one ahead is greater. -/
def insInner (K : Nat → Int) (a : Nat) : Nat → List Nat → List Nat
  | 0, l => l
  | j + 1, l => if a < j + 1 ∧ K (l.getD (j + 1) 0) < K (l.getD j 0) then insInner K a j (swp l (j + 1) j) else l
/-- From a place on. -/
def insOuter (K : Nat → Int) (a b : Nat) (i : Nat) (l : List Nat) : List Nat := if i < b then insOuter K a b (i + 1) (insInner K a i l) else l
termination_by b - i
theorem insInner_length (K : Nat → Int) (a : Nat) : ∀ (j : Nat) (l : List Nat), (insInner K a j l).length = l.length
  | 0, l => rfl
  | j + 1, l => by
    unfold insInner
    split
    · rw [insInner_length, swp_length]
    · rfl
theorem insOuter_length (K : Nat → Int) (a b : Nat) (i : Nat) (l : List Nat) : (insOuter K a b i l).length = l.length := by
  fun_induction insOuter K a b i l with
  | case1 i l h ih => rw [ih, insInner_length]
  | case2 => rfl
/-- What is asked of the comparison. -/
def Cmp (n : Nat) (K : Nat → Int) (c b0 : Nat) (w : World) : Prop :=
  ∀ wr i j, Below b0 w wr → i < n → j < n → Calls Try.prog 31 #[.int .i64 (i : Nat), .int .i64 (j : Nat), .pointer (some ⟨c, 0, none⟩)] wr fun e w' => e = .returned (.int .i64 (cmp3 (K i) (K j))) ∧ Below wr.heap.size wr w'
theorem mem_set {l : List Nat} {i v x : Nat} (h : x ∈ l.set i v) : x ∈ l ∨ x = v := by
  have := List.mem_or_eq_of_mem_set h
  exact this
theorem getD_mem' {l : List Nat} {i : Nat} (h : i < l.length) : l.getD i 0 ∈ l := List.mem_of_getElem? (getD_mem l i h)
theorem swp_lt {l : List Nat} {n i j : Nat} (hi : i < l.length) (hj : j < l.length) (h : ∀ x ∈ l, x < n) : ∀ x ∈ swp l i j, x < n := by
  intro x hx
  rcases mem_set hx with hx | rfl
  · rcases mem_set hx with hx | rfl
    · exact h x hx
    · exact h _ (getD_mem' hj)
  · exact h _ (getD_mem' hi)
/-- Everything but one block is as it was. -/
theorem below_put {b : Nat} {w wr : World} (h : Below b w wr) (i : Nat) (v : Value) : Below b w (wr.setCell ⟨b, i, none⟩ v) := h.setCell (Nat.le_refl _) v
set_option maxHeartbeats 4000000 in
set_option maxRecDepth 100000 in
theorem ins_any (n c b cap lo hi : Nat) (K : Nat → Int) (t : TypeId) (l : List Nat) (w : World) (hcmp : Cmp n K c b w) (hb : Blk.Is w b (nats .i64 l) t) (hlt : ∀ x ∈ l, x < n) (hlo : lo ≤ hi) (hhi : hi ≤ l.length) (hn : l.length ≤ 1000000) :
    Calls Try.prog 36 #[.slice (some ⟨b, 0, none⟩) l.length cap, .int .i64 lo, .int .i64 hi, .func (.func 31) #[] #[.pointer (some ⟨c, 0, none⟩)]] w fun e w' =>
      e = .returned (.tuple #[]) ∧ Blk.Is w' b (nats .i64 (insOuter K lo hi (lo + 1) l)) t ∧ Below b w w' := by
  have HC := Lib.hid hcmp
  have HB := Lib.hid hb
  have HL := Lib.hid hlt
  have k0 : Below b w w := Below.refl _ _
  clear hcmp hb hlt
  generalize hm : l.length = m at *
  have HM := Lib.hid hm
  clear hm
  go_enter Try.func36, Try.ntmps36
  go_wp2_with fail
  go_loopw [8] (fun vi wr => ∃ (i : Nat) (q : List Nat), vi = .int .i64 i ∧ lo < i ∧ i ≤ hi + 1 ∧ q.length = m ∧ (∀ x ∈ q, x < n) ∧ Blk.Is wr b (nats .i64 q) t ∧ Below b w wr ∧ Hid (insOuter K lo hi i q = insOuter K lo hi (lo + 1) l)) (fun i _ => hi + 1 - (intOf i).toNat)
  case atStart => exact ⟨lo + 1, l, by go_num, by omega, by omega, HM.out, HL.out, HB.out, k0, Lib.hid rfl⟩
  case round =>
    clear k0 HB
    obtain ⟨i, q, rfl, hli, hih, hq, hqn, hblk, k1, HO⟩ := hrel
    by_cases hlt : i < hi
    · have hlt' : (i : Int) < (hi : Int) := by omega
      go_wp2_with fail
      go_loopw [9] (fun vj wr2 => ∃ (j : Nat) (d : List Nat), vj = .int .i64 j ∧ lo ≤ j ∧ j ≤ i ∧ d.length = m ∧ (∀ x ∈ d, x < n) ∧ Blk.Is wr2 b (nats .i64 d) t ∧ Below b w wr2 ∧ Hid (insInner K lo j d = insInner K lo i q)) (fun j _ => (intOf j).toNat)
      case atStart => exact ⟨i, q, rfl, by omega, by omega, hq, hqn, hblk, k1, Lib.hid rfl⟩
      case round =>
        clear k1 hblk hqn hq
        obtain ⟨j, d, rfl, hlj, hji, hd, hdn, hblk, k1, HI⟩ := hrel
        by_cases hja : lo < j
        · have hja' : (lo : Int) < (j : Int) := by omega
          obtain ⟨p, rfl⟩ : ∃ p, j = p + 1 := ⟨j - 1, by omega⟩
          have hp1 : p + 1 < m := by omega
          have hp0 : p < m := by omega
          have jz : (p : Int) + 1 < (m : Int) := by omega
          have jz1 : (p : Int) < (m : Int) := by omega
          have hja2 : (lo : Int) < (p : Int) + 1 := by omega
          have p0 : (0 : Int) ≤ (p : Int) + 1 := by omega
          have e0 : ((p : Int) + 1).toNat = p + 1 := by omega
          have hwp : IntKind.i64.wrap (p : Int) = (p : Int) := by rw [IntKind.wrap_i64]; omega
          have cj := hblk.nat (p + 1) (by omega)
          have cp := hblk.nat p (by omega)
          have fj := hblk.frozen (p + 1)
          have fp := hblk.frozen p
          have hx := hdn _ (getD_mem' (l := d) (i := p + 1) (by omega))
          have hy := hdn _ (getD_mem' (l := d) (i := p) (by omega))
          have HDN := Lib.hid hdn
          have HBK := Lib.hid hblk
          clear hdn hblk
          have HIN : Go.RowKit.Hid (insInner K lo (p + 1) d = if lo < p + 1 ∧ K (d.getD (p + 1) 0) < K (d.getD p 0) then insInner K lo p (swp d (p + 1) p) else d) := Lib.hid (by rw [insInner])
          have HSW : Go.RowKit.Hid (swp d (p + 1) p = (d.set (p + 1) (d.getD p 0)).set p (d.getD (p + 1) 0)) := Lib.hid rfl
          generalize d.getD (p + 1) 0 = x at cj hx HIN HSW
          generalize d.getD p 0 = y at cp hy HIN HSW
          have hbs : b ≤ wr.drew.heap.size := Nat.le_of_lt HBK.out.lt
          have hkx : ∀ x : Cls.Wd (Cls.Kept wr.drew), Below b w x.w := fun x => k1.drew.trans (x.ok.mono hbs)
          have hcall := fun (u : Cls.Wd (Cls.Kept wr.drew)) => HC.out u.w x y (hkx u) hx hy
          have HD := Lib.hid (cmp3_neg (K x) (K y))
          by_cases hxy : K x < K y
          · have HD' : Go.RowKit.Hid (decide (cmp3 (K x) (K y) < 0) = true) := Lib.hid (by rw [HD.out]; exact decide_eq_true hxy)
            have HI' : Go.RowKit.Hid (insInner K lo p (swp d (p + 1) p) = insInner K lo i q) := Lib.hid (by rw [← HI.out, HIN.out, if_pos ⟨hja, hxy⟩])
            clear HD HI HIN hxy
            generalize cmp3 (K x) (K y) = z at hcall HD'
            have hz := HD'.out
            have HCL := Lib.hid hcall
            clear hcall
            go_upto_region 4 with (fail)
            have q1 := Cls.Wd.cell (w0 := wr.drew) cj
            have q2 := Cls.Wd.cell (w0 := wr.drew) cp
            refine Cls.region_cls (S := Cls.Kept _) (by kernel_rfl) (by kernel_rfl) (Below.refl _ _) ?_
            iterate 17 (go_big_quiet_step (first | (go_at_call 31; with_reducible refine Cls.calls_kept (HCL.out _)) | fail))
            refine wpQuiet_nil ?_
            intro w3 hw3
            have k3 : Below b w w3 := hkx ⟨w3, hw3⟩
            have B3 := Lib.hid (HBK.out.drew.below hw3)
            have cj3 : w3.cell? ⟨b, p + 1, none⟩ = some (.int .i64 (x : Int)) := q1 ⟨w3, hw3⟩
            have cp3 : w3.cell? ⟨b, p, none⟩ = some (.int .i64 (y : Int)) := q2 ⟨w3, hw3⟩
            have fj3 := B3.out.frozen (p + 1)
            have fp3 := B3.out.frozen p
            have cj4 : w3.drew.cell? ⟨b, p + 1, none⟩ = some (.int .i64 (x : Int)) := cj3
            have cp4 : w3.drew.cell? ⟨b, p, none⟩ = some (.int .i64 (y : Int)) := cp3
            have fj4 := B3.out.drew.frozen (p + 1)
            have fp4 := B3.out.drew.frozen p
            have IL := Lib.hid (swp_lt (l := d) (i := p + 1) (j := p) (by omega) (by omega) HDN.out)
            have ILL := Lib.hid ((swp_length d (p + 1) p).trans hd)
            have B4 : Go.RowKit.Hid (Blk.Is ((w3.drew.setCell ⟨b, p + 1, none⟩ (.int .i64 (y : Int))).setCell ⟨b, p, none⟩ (.int .i64 (x : Int))) b (nats .i64 (swp d (p + 1) p)) t) := Lib.hid (by
              rw [HSW.out]
              exact (B3.out.drew.setNat (p + 1) y).setNat p x)
            have k4 : Go.RowKit.Hid (Below b w ((w3.drew.setCell ⟨b, p + 1, none⟩ (.int .i64 (y : Int))).setCell ⟨b, p, none⟩ (.int .i64 (x : Int)))) := Lib.hid (below_put (below_put k3.drew _ _) _ _)
            clear q1 q2 cj cp fj fp hkx HCL HBK hw3
            clear HDN HSW B3 k3 hx hy k1
            go_upto_region 6 with (fail)
            go_region
            all_goals clear cj3 cp3 fj3 fp3 cj4 cp4 fj4 fp4
            all_goals go_wp2
            go_roundw
            case rel => exact ⟨p, swp d (p + 1) p, by go_num, by omega, by omega, ILL.out, IL.out, B4.out, k4.out, HI'⟩
            case measure => simp [intOf]
          · have HD' : Go.RowKit.Hid (decide (cmp3 (K x) (K y) < 0) = false) := Lib.hid (by rw [HD.out]; exact decide_eq_false hxy)
            have HI' : Go.RowKit.Hid (insOuter K lo hi (i + 1) d = insOuter K lo hi (lo + 1) l) := Lib.hid (by
              rw [← HO.out, insOuter.eq_def K lo hi i, if_pos hlt, ← HI.out, HIN.out, if_neg (fun h => hxy h.2)])
            clear HD HI HIN hxy
            generalize cmp3 (K x) (K y) = z at hcall HD'
            have hz := HD'.out
            have HCL := Lib.hid hcall
            clear hcall
            go_upto_region 4 with (fail)
            have q1 := Cls.Wd.cell (w0 := wr.drew) cj
            have q2 := Cls.Wd.cell (w0 := wr.drew) cp
            refine Cls.region_cls (S := Cls.Kept _) (by kernel_rfl) (by kernel_rfl) (Below.refl _ _) ?_
            iterate 17 (go_big_quiet_step (first | (go_at_call 31; with_reducible refine Cls.calls_kept (HCL.out _)) | fail))
            refine wpQuiet_nil ?_
            intro w3 hw3
            have k3 : Below b w w3 := hkx ⟨w3, hw3⟩
            have B3 := Lib.hid (HBK.out.drew.below hw3)
            clear q1 q2 cj cp fj fp hkx HCL HBK hw3
            go_wp2
            go_roundw
            case rel => exact ⟨i + 1, d, by go_num, by omega, by omega, hd, HDN.out, B3.out, k3, HI'⟩
            case measure => simp [intOf]; omega
        · have hja' : decide ((j : Int) > (lo : Int)) = false := decide_eq_false (by omega)
          have hja2 : ¬ (lo : Int) < (j : Int) := by omega
          have HI' : Go.RowKit.Hid (insOuter K lo hi (i + 1) d = insOuter K lo hi (lo + 1) l) := Lib.hid (by
            rw [← HO.out, insOuter.eq_def K lo hi i, if_pos hlt, ← HI.out]
            cases j with
            | zero => rfl
            | succ j => rw [insInner, if_neg (fun h => hja h.1)])
          have hbs : b ≤ wr.drew.heap.size := Nat.le_of_lt hblk.lt
          go_upto_region 4 with (fail)
          refine Cls.region_cls (S := Cls.Kept _) (by kernel_rfl) (by kernel_rfl) (Below.refl _ _) ?_
          iterate 17 (go_big_quiet_step (fail))
          refine wpQuiet_nil ?_
          intro w3 hw3
          have k3 : Below b w w3 := k1.drew.trans (hw3.mono hbs)
          have B3 := Lib.hid (hblk.drew.below hw3)
          clear hw3 hblk k1
          go_wp2
          go_roundw
          case rel => exact ⟨i + 1, d, by go_num, by omega, by omega, hd, hdn, B3.out, k3, HI'⟩
          case measure => simp [intOf]; omega
    · have hd6 : decide ((i : Int) < (hi : Int)) = false := decide_eq_false (by omega)
      have e : Go.RowKit.Hid (insOuter K lo hi (lo + 1) l = q) := Lib.hid (by rw [← HO.out, insOuter, if_neg hlt])
      go_wp2
      exact ⟨rfl, _, results_none rfl _ _ _, rfl, by rw [e.out]; exact hblk, k1⟩
end Go.Proofs.Ytagjgofnaplefaa.Wei
