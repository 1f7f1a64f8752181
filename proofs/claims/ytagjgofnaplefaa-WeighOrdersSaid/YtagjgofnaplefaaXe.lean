/- The order of some floats as the document has it, walked. Conditions: words of 64 bits. -/
import Derived.Test.YtagjgofnaplefaaXd
namespace Go.Proofs.Ytagjgofnaplefaa.Wei
open Go.RowKit
open Flo
open Blk (nats)
theorem cmp3_pos (x y : Int) : decide (cmp3 x y > 0) = decide (y < x) := by
  unfold cmp3
  split
  · rename_i h
    rw [decide_eq_false (by omega : ¬ y < x)]
    rfl
  · rename_i h
    split
    · rename_i h2; rw [decide_eq_true (by omega : y < x)]; rfl
    · rename_i h2; rw [decide_eq_false (by omega : ¬ y < x)]; rfl
theorem add_zero' (g k : Nat) : (⟨g, 0, none⟩ : Addr).add k = ⟨g, k, none⟩ := by by_cases h : k = 0 <;> simp [Addr.add, h]
theorem add_at (g o k : Nat) : (⟨g, o, none⟩ : Addr).add k = ⟨g, o + k, none⟩ := by by_cases h : k = 0 <;> simp [Addr.add, h]
theorem IRow.at {w : World} {base g n cap : Nat} {l : List Nat} (h : IRow w base (.slice (some ⟨g, 0, none⟩) n cap) l) (y : Nat) (hy : y < l.length) : w.cell? ⟨g, y, none⟩ = some (.int .i64 ((l.getD y 0 : Nat) : Int)) := by
  have hc := World.ownsRow.cells h (g := g) rfl y (.int .i64 ((l.getD y 0 : Nat) : Int)) (Blk.nats_at .i64 l y hy)
  rw [← hc]
  by_cases h0 : y = 0 <;> simp [Addr.add, h0]
theorem IRow.take_news {w : World} {base g n cap : Nat} {l : List Nat} (h : IRow w base (.slice (some ⟨g, 0, none⟩) n cap) l) (k : Nat) : ∀ j u, (nats .i64 (l.take k))[j]? = some u → w.cell? ((⟨g, 0, none⟩ : Addr).add j) = some u := by
  intro j u hj
  have hjl := (List.getElem?_eq_some_iff.1 hj).1
  rw [Blk.nats_length, List.length_take] at hjl
  rw [add_zero', h.at j (by omega)]
  rw [Blk.nats_at .i64 _ j (by rw [List.length_take]; omega)] at hj
  rw [← hj, List.getD_eq_getElem?_getD, List.getD_eq_getElem?_getD, List.getElem?_take_of_lt (by omega)]
theorem IRow.drop_news {w : World} {base g n cap : Nat} {l : List Nat} (h : IRow w base (.slice (some ⟨g, 0, none⟩) n cap) l) (k : Nat) : ∀ j u, (nats .i64 (l.drop k))[j]? = some u → w.cell? ((⟨g, k, none⟩ : Addr).add j) = some u := by
  intro j u hj
  have hjl := (List.getElem?_eq_some_iff.1 hj).1
  rw [Blk.nats_length, List.length_drop] at hjl
  rw [add_at, h.at (k + j) (by omega)]
  rw [Blk.nats_at .i64 _ j (by rw [List.length_drop]; omega)] at hj
  rw [← hj, List.getD_eq_getElem?_getD, List.getD_eq_getElem?_getD, List.getElem?_drop]
set_option maxHeartbeats 4000000 in
set_option maxRecDepth 100000 in
theorem rorder_any (v : Value) (l : List Nat) (w : World) (hv : Flos w v l) (h40 : l.length ≤ 40) : Calls Try.prog 18 #[v] w fun e w' => ∃ v' out, e = .returned v' ∧ Nums w' v' out ∧ Ord (kat l) l.length out ∧ Below w.heap.size w w' := by
  obtain ⟨ao, cap, rfl, hl, hc, hb⟩ := hv
  have HC := Lib.hid hc
  have HB := Lib.hid hb
  have k0 : Below w.heap.size w w := Below.refl _ _
  have HO0 := Lib.hid (Ord.nil (kat l))
  clear hc hl hb
  go_enter Try.func18, Try.ntmps18
  go_wp2_with fail
  generalize hn : l.length = n at h40
  have HN := Lib.hid hn
  clear hn
  go_loopw [3, 4, 5, 6] (fun vo vi _ _ wr => ∃ (i : Nat) (out : List Nat), vi = .int .i64 i ∧ i ≤ n ∧ out.length = i ∧ IRow wr w.heap.size vo out ∧ Hid (Ord (kat l) i out) ∧ Below w.heap.size w wr) (fun _ i _ _ _ => n - (intOf i).toNat)
  case atStart => exact ⟨0, [], rfl, by omega, rfl, IRow.nil _ _, HO0, k0⟩
  case round =>
    clear k0 HO0
    obtain ⟨i, out, rfl, hin, hol, row, HO, k1⟩ := hrel
    by_cases hlt : i < n
    · have hlt' : (i : Int) < (n : Int) := by omega
      rcases row.2 with ⟨hnil, h0⟩ | ⟨g, cap', cur, hvo, hgb, hg, r1, r2, r3, r4⟩
      · subst hnil
        obtain rfl : i = 0 := by omega
        obtain rfl : out = [] := List.eq_nil_of_length_eq_zero hol
        go_wp2_with fail
        go_loopw [5] (fun vk w2 => vk = .int .i64 0 ∧ Below w.heap.size w w2) (fun _ _ => 0)
        case atStart => exact ⟨rfl, k1⟩
        case round =>
          clear k1
          obtain ⟨rfl, k1⟩ := hrel
          have hws : w.heap.size ≤ wr.drew.heap.size := k1.size
          go_upto_region 6 with (fail)
          refine Cls.region_cls (S := Cls.Kept _) (by kernel_rfl) (by kernel_rfl) (Below.refl _ _) ?_
          iterate 18 (go_big_quiet_step (fail))
          refine wpQuiet_nil ?_
          intro w3 hw3
          have k3 : Below w.heap.size w w3 := k1.drew.trans (hw3.mono hws)
          clear hw3 k1 hws row
          go_upto_region 9 with (fail)
          go_upto_region 10 with (first | (refine iappend_none rfl (.tmp 35) (.tmp 38) rfl w.heap.size _ [] rfl (IRow.nil _ _) rfl ?_) | fail)
          go_wp2_with (first | (refine iappend_wp rfl (.tmp 40) (.tmp 42) rfl w3.heap.size _ [] rfl (IRow.nil _ _) ⟨w3.heap.size, 0, none⟩ 1 [0] 1 rfl rfl (fun j u hj => by rw [add_zero', (Blk.new w3 [.int .i64 0] 3).cell]; exact hj) (by simp) (by simp) ?_) | fail)
          intro v5 w5 row5 hg5
          have k4 : Below w3.heap.size w3 w5 := ((Below.refl w3.heap.size w3).alloc (Nat.le_refl _) _).grown hg5 (by simp) (fun k hk => by cases hk)
          have k5 : Below w.heap.size w w5 := k3.trans (k4.mono k3.size)
          have row5' := row5.mono (k3.size)
          have HO1 : Go.RowKit.Hid (Ord (kat l) 1 [0]) := Lib.hid (HO.out.next 0 (Nat.le_refl _) (fun y h1 h2 => by omega) (.inl rfl))
          clear hg5 k4 k3 row5
          go_wp2_with (first | (refine iappend_none rfl (.tmp 44) (.tmp 47) rfl w.heap.size _ [0] rfl row5' rfl ?_) | fail)
          go_roundw
          case rel => exact ⟨1, [0], by go_num, by omega, rfl, row5', HO1, k5⟩
          case measure => simp [intOf]; omega
      · have hgw : g < wr.heap.size := (row.lt g (by rw [hvo]; rfl)).2
        have r1' : i ≤ cap' := by omega
        have r2' : cap' ≤ maxLen := r2
        rw [hol] at hvo
        subst hvo
        have HROW := Lib.hid row
        have HOL := Lib.hid hol
        clear hg r1 r2 r3 r4 row hol
        go_wp2_with fail
        obtain ⟨w2, rfl⟩ : ∃ w2, w2 = wr := ⟨wr, rfl⟩
        go_loopw [5] (fun vk w3 => ∃ k : Nat, vk = .int .i64 k ∧ k ≤ i ∧ Hid (∀ y, k ≤ y → y < i → kat l i < kat l (out.getD y 0)) ∧ Below w2.heap.size w2 w3) (fun vk _ => (intOf vk).toNat)
        case atStart => exact ⟨i, rfl, Nat.le_refl _, Lib.hid (fun y h1 h2 => by omega), Below.refl _ _⟩
        case round =>
          obtain ⟨k, rfl, hki, HG, k2⟩ := hrel
          have hws : w2.heap.size ≤ wr.drew.heap.size := k2.size
          by_cases hk0 : 0 < k
          · have hk0' : (0 : Int) < (k : Int) := by omega
            obtain ⟨p, rfl⟩ : ∃ p, k = p + 1 := ⟨k - 1, by omega⟩
            have hpi : p < i := by omega
            have hpi' : (p : Int) < (i : Int) := by omega
            have hk1' : (0 : Int) < (p : Int) + 1 := by omega
            have hwp : IntKind.i64.wrap (p : Int) = (p : Int) := by rw [IntKind.wrap_i64]; omega
            have hx : out.getD p 0 < i := (HO.out.2.2 _).2 ⟨p, hpi, rfl⟩
            have c1 := HROW.out.at p (by rw [HOL.out]; exact hpi)
            have HGX : Go.RowKit.Hid (∀ y, p + 1 ≤ y → y < i → kat l i < kat l (out.getD y 0)) := HG
            have HKA : Go.RowKit.Hid (kat l i < kat l (out.getD p 0) → ∀ y, p ≤ y → y < i → kat l i < kat l (out.getD y 0)) := Lib.hid (fun h y h1 h2 => by
              by_cases e : y = p
              · rw [e]; exact h
              · exact HGX.out y (by omega) h2)
            have HKB : Go.RowKit.Hid (¬ kat l i < kat l (out.getD p 0) → kat l (out.getD p 0) ≤ kat l i) := Lib.hid (fun h => by omega)
            obtain ⟨x, hxe⟩ : ∃ x, out.getD p 0 = x := ⟨_, rfl⟩
            rw [hxe] at hx c1 HKA HKB
            have HKP : Go.RowKit.Hid (kat l x ≤ kat l i → kat l (out.getD p 0) ≤ kat l i) := Lib.hid (fun h => by rw [hxe]; exact h)
            clear hxe
            have hxn : x < n := by omega
            have hxn' : (x : Int) < (n : Int) := by omega
            obtain ⟨g0, hg0, d1⟩ := HC.out x _ (getD_mem l x (by rw [HN.out]; exact hxn))
            obtain ⟨g1, hg1, d2⟩ := HC.out i _ (getD_mem l i (by rw [HN.out]; exact hlt))
            subst hg0
            obtain rfl : g0 = g1 := by simpa using hg1
            have ha := getD_bound HB.out x
            have hb := getD_bound HB.out i
            have hcall := fun w => rcompare_any (l.getD x 0) (l.getD i 0) w ha hb
            have HD := Lib.hid (cmp3_pos (key (l.getD x 0)) (key (l.getD i 0)))
            have e1 := (k2.cell (World.block_lt_of_cell? _ _ c1)).trans c1
            have k12 := k1.trans (k2.mono k1.size)
            have e2 := (k12.cell (World.block_lt_of_cell? _ _ d1)).trans d1
            have e3 := (k12.cell (World.block_lt_of_cell? _ _ d2)).trans d2
            have HKA' : Go.RowKit.Hid (key (l.getD i 0) < key (l.getD x 0) → ∀ y, p ≤ y → y < i → kat l i < kat l (out.getD y 0)) := HKA
            have HKB' : Go.RowKit.Hid (¬ key (l.getD i 0) < key (l.getD x 0) → kat l x ≤ kat l i) := HKB
            clear hg1 c1 d1 d2 k12 HKA HKB
            generalize key (l.getD x 0) = A at hcall HD HKA' HKB'
            generalize key (l.getD i 0) = B at hcall HD HKA' HKB'
            generalize l.getD x 0 = a at hcall e2
            generalize l.getD i 0 = c at hcall e3
            have q1 := Cls.Wd.cell (w0 := wr.drew) e1
            have q2 := Cls.Wd.cell (w0 := wr.drew) e2
            have q3 := Cls.Wd.cell (w0 := wr.drew) e3
            clear e1 e2 e3 ha hb
            by_cases hAB : B < A
            · have HD' : Go.RowKit.Hid (decide (cmp3 A B > 0) = true) := Lib.hid (by rw [HD.out]; exact decide_eq_true hAB)
              have HG2 := Lib.hid (HKA'.out hAB)
              clear HD hAB HKA' HKB'
              generalize cmp3 A B = z at hcall HD'
              have hz := HD'.out
              have HCM := Lib.hid hcall
              clear hcall
              go_upto_region 6 with (fail)
              refine Cls.region_cls (S := Cls.Kept _) (by kernel_rfl) (by kernel_rfl) (Below.refl _ _) ?_
              iterate 18 (go_big_quiet_step (first | (go_at_call 12; with_reducible refine Cls.calls_same (HCM.out _)) | fail))
              refine wpQuiet_nil ?_
              intro w3 hw3
              have k3 : Below w2.heap.size w2 w3 := k2.drew.trans (hw3.mono hws)
              clear hw3 k2 hws q1 q2 q3
              go_wp2
              go_roundw
              case rel => exact ⟨p, by go_num, by omega, HG2, k3⟩
              case measure => simp [intOf]
            · have HD' : Go.RowKit.Hid (decide (cmp3 A B > 0) = false) := Lib.hid (by rw [HD.out]; exact decide_eq_false hAB)
              have HK2 : Go.RowKit.Hid (p + 1 = 0 ∨ kat l (out.getD (p + 1 - 1) 0) ≤ kat l i) := Lib.hid (.inr (by rw [Nat.add_sub_cancel]; exact HKP.out (HKB'.out hAB)))
              clear HD hAB HKA' HKB'
              generalize cmp3 A B = z at hcall HD'
              have hz := HD'.out
              have HCM := Lib.hid hcall
              clear hcall
              go_upto_region 6 with (fail)
              refine Cls.region_cls (S := Cls.Kept _) (by kernel_rfl) (by kernel_rfl) (Below.refl _ _) ?_
              iterate 18 (go_big_quiet_step (first | (go_at_call 12; with_reducible refine Cls.calls_same (HCM.out _)) | fail))
              refine wpQuiet_nil ?_
              intro w3 hw3
              have k3 : Below w2.heap.size w2 w3 := k2.drew.trans (hw3.mono hws)
              clear hw3 k2 hws q1 q2 q3
              have k6 : Below w.heap.size w w3 := k1.trans (k3.mono k1.size)
              have ROW3 := Lib.hid (HROW.out.below k3)
              have HGG := Lib.hid (HO.out.next (p + 1) hki HG.out HK2.out)
              have hol := HOL.out
              have b1 : ((p + 1 : Nat) : Int) ≤ (cap' : Int) := by omega
              have b2 : ((p + 1 : Nat) : Int) ≤ (i : Int) := by omega
              have b3 : (0 : Int) ≤ ((p + 1 : Nat) : Int) := by omega
              have HT1 : Go.RowKit.Hid ((out.take (p + 1)).length = p + 1) := Lib.hid (by rw [List.length_take]; omega)
              have HT2 : Go.RowKit.Hid ((out.drop (p + 1)).length = i - (p + 1)) := Lib.hid (by rw [List.length_drop]; omega)
              clear hol k3
              obtain ⟨q, hq⟩ : ∃ q, q = p + 1 := ⟨_, rfl⟩
              rw [← hq] at b1 b2 b3 HT1 HT2 HGG hki ⊢
              clear hq
              go_upto_region 9 with (fail)
              go_upto_region 10 with (first | (refine iappend_wp rfl (.tmp 35) (.tmp 38) rfl w3.heap.size _ [] rfl (IRow.nil _ _) ⟨g, 0, none⟩ cap' (out.take q) q HT1.out rfl (ROW3.out.take_news q) (by simp only [List.length_nil]; omega) (Nat.le_refl _) ?_) | fail)
              intro v5 w5 row5 hg5
              have k45 : Below w3.heap.size w3 w5 := (Below.refl _ _).grown hg5 (Nat.le_refl _) (fun k hk => by cases hk)
              have ROW5 : Go.RowKit.Hid (IRow w5 w3.heap.size v5 (out.take q)) := Lib.hid row5
              have RO5 := Lib.hid (ROW3.out.below k45)
              clear row5 hg5
              go_upto_region 10 with (fail)
              go_upto_region 11 with (first | (refine iappend_wp rfl (.tmp 40) (.tmp 42) rfl w3.heap.size _ (out.take q) rfl (ROW5.out.alloc _) ⟨w5.heap.size, 0, none⟩ 1 [i] 1 rfl rfl (fun j u hj => by rw [add_zero', (Blk.new w5 [.int .i64 (i : Int)] 3).cell]; exact hj) (by rw [HT1.out]; omega) (by have := k45.size; simp; omega) ?_) | fail)
              intro v6 w6 row6 hg6
              have k46 : Below w3.heap.size w3 w6 := (k45.alloc k45.size _).grown hg6 (by have := k45.size; simp; omega) (fun k hk => (ROW5.out.lt k hk).1)
              have ROW6 := Lib.hid row6
              have RO6 := Lib.hid (ROW3.out.below k46)
              have HL6 : Go.RowKit.Hid ((out.take q ++ [i]).length = q + 1) := Lib.hid (by rw [List.length_append, HT1.out]; rfl)
              clear row6 hg6 ROW5 RO5 k45
              by_cases hqc : cap' = q
              · have HT3 : Go.RowKit.Hid (out.drop q = []) := Lib.hid (List.drop_eq_nil_of_le (by rw [HOL.out]; omega))
                have HNW : Go.RowKit.Hid (∀ j u, (nats .i64 (out.drop q))[j]? = some u → w6.cell? ((⟨g, 0, none⟩ : Addr).add j) = some u) := Lib.hid (fun j u hj => by rw [HT3.out] at hj; cases hj)
                go_upto_region 11 with (fail)
                go_upto_region 12 with (first | (refine iappend_wp rfl (.tmp 44) (.tmp 47) rfl w3.heap.size _ (out.take q ++ [i]) rfl ROW6.out ⟨g, 0, none⟩ _ (out.drop q) (i - q) HT2.out rfl HNW.out (by rw [HL6.out]; omega) k46.size ?_) | fail)
                intro v7 w7 row7 hg7
                have k47 : Below w3.heap.size w3 w7 := k46.grown hg7 k46.size (fun k hk => (ROW6.out.lt k hk).1)
                have k8 : Below w.heap.size w w7 := k6.trans (k47.mono k6.size)
                have ROW7 : Go.RowKit.Hid (IRow w7 w.heap.size v7 (out.take q ++ [i] ++ out.drop q)) := Lib.hid (by have h7 := row7.mono k6.size; rw [List.append_assoc]; exact h7)
                have HL7 : Go.RowKit.Hid ((out.take q ++ [i] ++ out.drop q).length = i + 1) := Lib.hid (by rw [List.length_append, HL6.out, HT2.out]; omega)
                clear row7 hg7 ROW6 RO6 k46 k47 k6 b1 b2 b3
                go_wp2_with fail
                go_roundw
                case rel => exact ⟨i + 1, out.take q ++ [i] ++ out.drop q, by go_num, by omega, HL7.out, ROW7.out, HGG, k8⟩
                case measure => simp [intOf]; omega
              · have HNW : Go.RowKit.Hid (∀ j u, (nats .i64 (out.drop q))[j]? = some u → w6.cell? ((⟨g, q, none⟩ : Addr).add j) = some u) := Lib.hid (RO6.out.drop_news q)
                go_upto_region 11 with (fail)
                go_upto_region 12 with (first | (refine iappend_wp rfl (.tmp 44) (.tmp 47) rfl w3.heap.size _ (out.take q ++ [i]) rfl ROW6.out ⟨g, q, none⟩ _ (out.drop q) (i - q) HT2.out rfl HNW.out (by rw [HL6.out]; omega) k46.size ?_) | fail)
                intro v7 w7 row7 hg7
                have k47 : Below w3.heap.size w3 w7 := k46.grown hg7 k46.size (fun k hk => (ROW6.out.lt k hk).1)
                have k8 : Below w.heap.size w w7 := k6.trans (k47.mono k6.size)
                have ROW7 : Go.RowKit.Hid (IRow w7 w.heap.size v7 (out.take q ++ [i] ++ out.drop q)) := Lib.hid (by have h7 := row7.mono k6.size; rw [List.append_assoc]; exact h7)
                have HL7 : Go.RowKit.Hid ((out.take q ++ [i] ++ out.drop q).length = i + 1) := Lib.hid (by rw [List.length_append, HL6.out, HT2.out]; omega)
                clear row7 hg7 ROW6 RO6 k46 k47 k6 b1 b2 b3
                go_wp2_with fail
                go_roundw
                case rel => exact ⟨i + 1, out.take q ++ [i] ++ out.drop q, by go_num, by omega, HL7.out, ROW7.out, HGG, k8⟩
                case measure => simp [intOf]; omega
          · have hk0' : decide ((k : Int) > 0) = false := decide_eq_false (by omega)
            have hk0'' : ¬ (0 : Int) < (k : Int) := by omega
            have HK2 : Go.RowKit.Hid (k = 0 ∨ kat l (out.getD (k - 1) 0) ≤ kat l i) := Lib.hid (.inl (by omega))
            go_upto_region 6 with (fail)
            refine Cls.region_cls (S := Cls.Kept _) (by kernel_rfl) (by kernel_rfl) (Below.refl _ _) ?_
            iterate 18 (go_big_quiet_step (fail))
            refine wpQuiet_nil ?_
            intro w3 hw3
            have k3 : Below w2.heap.size w2 w3 := k2.drew.trans (hw3.mono hws)
            clear hw3 k2 hws
            have k6 : Below w.heap.size w w3 := k1.trans (k3.mono k1.size)
            have ROW3 := Lib.hid (HROW.out.below k3)
            have HGG := Lib.hid (HO.out.next (k) hki HG.out HK2.out)
            have hol := HOL.out
            have b1 : ((k : Nat) : Int) ≤ (cap' : Int) := by omega
            have b2 : ((k : Nat) : Int) ≤ (i : Int) := by omega
            have b3 : (0 : Int) ≤ ((k : Nat) : Int) := by omega
            have HT1 : Go.RowKit.Hid ((out.take (k)).length = k) := Lib.hid (by rw [List.length_take]; omega)
            have HT2 : Go.RowKit.Hid ((out.drop (k)).length = i - (k)) := Lib.hid (by rw [List.length_drop]; omega)
            clear hol k3
            obtain ⟨q, hq⟩ : ∃ q, q = k := ⟨_, rfl⟩
            rw [← hq] at b1 b2 b3 HT1 HT2 HGG hki ⊢
            clear hq
            go_upto_region 9 with (fail)
            go_upto_region 10 with (first | (refine iappend_wp rfl (.tmp 35) (.tmp 38) rfl w3.heap.size _ [] rfl (IRow.nil _ _) ⟨g, 0, none⟩ cap' (out.take q) q HT1.out rfl (ROW3.out.take_news q) (by simp only [List.length_nil]; omega) (Nat.le_refl _) ?_) | fail)
            intro v5 w5 row5 hg5
            have k45 : Below w3.heap.size w3 w5 := (Below.refl _ _).grown hg5 (Nat.le_refl _) (fun k hk => by cases hk)
            have ROW5 : Go.RowKit.Hid (IRow w5 w3.heap.size v5 (out.take q)) := Lib.hid row5
            have RO5 := Lib.hid (ROW3.out.below k45)
            clear row5 hg5
            go_upto_region 10 with (fail)
            go_upto_region 11 with (first | (refine iappend_wp rfl (.tmp 40) (.tmp 42) rfl w3.heap.size _ (out.take q) rfl (ROW5.out.alloc _) ⟨w5.heap.size, 0, none⟩ 1 [i] 1 rfl rfl (fun j u hj => by rw [add_zero', (Blk.new w5 [.int .i64 (i : Int)] 3).cell]; exact hj) (by rw [HT1.out]; omega) (by have := k45.size; simp; omega) ?_) | fail)
            intro v6 w6 row6 hg6
            have k46 : Below w3.heap.size w3 w6 := (k45.alloc k45.size _).grown hg6 (by have := k45.size; simp; omega) (fun k hk => (ROW5.out.lt k hk).1)
            have ROW6 := Lib.hid row6
            have RO6 := Lib.hid (ROW3.out.below k46)
            have HL6 : Go.RowKit.Hid ((out.take q ++ [i]).length = q + 1) := Lib.hid (by rw [List.length_append, HT1.out]; rfl)
            clear row6 hg6 ROW5 RO5 k45
            by_cases hqc : cap' = q
            · have HT3 : Go.RowKit.Hid (out.drop q = []) := Lib.hid (List.drop_eq_nil_of_le (by rw [HOL.out]; omega))
              have HNW : Go.RowKit.Hid (∀ j u, (nats .i64 (out.drop q))[j]? = some u → w6.cell? ((⟨g, 0, none⟩ : Addr).add j) = some u) := Lib.hid (fun j u hj => by rw [HT3.out] at hj; cases hj)
              go_upto_region 11 with (fail)
              go_upto_region 12 with (first | (refine iappend_wp rfl (.tmp 44) (.tmp 47) rfl w3.heap.size _ (out.take q ++ [i]) rfl ROW6.out ⟨g, 0, none⟩ _ (out.drop q) (i - q) HT2.out rfl HNW.out (by rw [HL6.out]; omega) k46.size ?_) | fail)
              intro v7 w7 row7 hg7
              have k47 : Below w3.heap.size w3 w7 := k46.grown hg7 k46.size (fun k hk => (ROW6.out.lt k hk).1)
              have k8 : Below w.heap.size w w7 := k6.trans (k47.mono k6.size)
              have ROW7 : Go.RowKit.Hid (IRow w7 w.heap.size v7 (out.take q ++ [i] ++ out.drop q)) := Lib.hid (by have h7 := row7.mono k6.size; rw [List.append_assoc]; exact h7)
              have HL7 : Go.RowKit.Hid ((out.take q ++ [i] ++ out.drop q).length = i + 1) := Lib.hid (by rw [List.length_append, HL6.out, HT2.out]; omega)
              clear row7 hg7 ROW6 RO6 k46 k47 k6 b1 b2 b3
              go_wp2_with fail
              go_roundw
              case rel => exact ⟨i + 1, out.take q ++ [i] ++ out.drop q, by go_num, by omega, HL7.out, ROW7.out, HGG, k8⟩
              case measure => simp [intOf]; omega
            · have HNW : Go.RowKit.Hid (∀ j u, (nats .i64 (out.drop q))[j]? = some u → w6.cell? ((⟨g, q, none⟩ : Addr).add j) = some u) := Lib.hid (RO6.out.drop_news q)
              go_upto_region 11 with (fail)
              go_upto_region 12 with (first | (refine iappend_wp rfl (.tmp 44) (.tmp 47) rfl w3.heap.size _ (out.take q ++ [i]) rfl ROW6.out ⟨g, q, none⟩ _ (out.drop q) (i - q) HT2.out rfl HNW.out (by rw [HL6.out]; omega) k46.size ?_) | fail)
              intro v7 w7 row7 hg7
              have k47 : Below w3.heap.size w3 w7 := k46.grown hg7 k46.size (fun k hk => (ROW6.out.lt k hk).1)
              have k8 : Below w.heap.size w w7 := k6.trans (k47.mono k6.size)
              have ROW7 : Go.RowKit.Hid (IRow w7 w.heap.size v7 (out.take q ++ [i] ++ out.drop q)) := Lib.hid (by have h7 := row7.mono k6.size; rw [List.append_assoc]; exact h7)
              have HL7 : Go.RowKit.Hid ((out.take q ++ [i] ++ out.drop q).length = i + 1) := Lib.hid (by rw [List.length_append, HL6.out, HT2.out]; omega)
              clear row7 hg7 ROW6 RO6 k46 k47 k6 b1 b2 b3
              go_wp2_with fail
              go_roundw
              case rel => exact ⟨i + 1, out.take q ++ [i] ++ out.drop q, by go_num, by omega, HL7.out, ROW7.out, HGG, k8⟩
              case measure => simp [intOf]; omega
    · have hk' : i = n := by omega
      have hd6 : decide ((i : Int) < (n : Int)) = false := decide_eq_false (by omega)
      have HF := Lib.hid (row.nums (by omega))
      rw [hk'] at HO
      have HOO : Go.RowKit.Hid (Ord (kat l) l.length out) := Lib.hid (by rw [HN.out]; exact HO.out)
      clear hk' row
      go_wp2
      exact bodyPost_ret (results_tmp rfl _ _ _) rfl ⟨u3, out, rfl, HF.out, HOO.out, k1⟩
end Go.Proofs.Ytagjgofnaplefaa.Wei
