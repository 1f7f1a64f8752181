/- The document's digest of a text. Conditions: fewer than 2^40 bytes. -/
import Derived.Test.YticegglphmgoaaaRefE
namespace Go.Proofs.Yticegglphmgoaaa.Sha
open Go.RowKit
open Blk (nats)
theorem padded_length (m : List Nat) : (padded m).length = m.length + 1 + (119 - m.length % 64) % 64 + 8 := by
  simp [padded, big]
  omega
theorem padded_lt (m : List Nat) (h : ∀ x ∈ m, x < 256) : ∀ x ∈ padded m, x < 256 := by
  intro x hx
  simp only [padded, List.mem_append, List.mem_singleton, List.mem_replicate] at hx
  rcases hx with ((hx | rfl) | ⟨_, rfl⟩) | hx
  · exact h x hx
  · decide
  · decide
  · exact big_lt _ _ x hx
theorem range_part {w : World} {g : Nat} {l : List Nat} (h : w.rangeAt g 0 (nats .u8 l)) (o n : Nat) : w.rangeAt g o (nats .u8 ((l.drop o).take n)) := by
  intro j u hj
  have hj2 : (nats .u8 l)[o + j]? = some u := by
    unfold nats at hj ⊢
    rw [List.getElem?_map] at hj ⊢
    have hjn : j < n := by
      cases hq : ((l.drop o).take n)[j]? with
      | none => rw [hq] at hj; cases hj
      | some x =>
        have := (List.getElem?_eq_some_iff.1 hq).1
        rw [List.length_take] at this
        omega
    rw [List.getElem?_take_of_lt hjn, List.getElem?_drop] at hj
    exact hj
  have := h (o + j) u hj2
  rwa [Nat.zero_add] at this
theorem quiet_load_in {P : Program} {a : Act} {w0 : World} {op : Oper} {K : Act → Prop} (ty : TypeId) (x : Operand) (ho : op.op = .load ty x) (b : Nat) (hx : a.eval x = .pointer (some ⟨b, 0, none⟩)) (cs : List Value) (d : TypeDesc) {t : TypeId}
    (hg : Blk.Is w0 b cs t) (hu : P.underlying ty = some d) (hd : d.isRow = true) (hi : (P.info? ty).map (·.size) = some cs.length) (hk : K (a.put op.dst (.agg cs.toArray))) : op.quiet P a (Cls.In (Cls.Kept w0)) K :=
  Blk.quiet_load ty x ho b 0 hx cs d (quiet_range (hg.range 0 cs (fun j v hj => by rw [Nat.zero_add]; exact hj))) hu hd hi hk
/-- The bytes of a word, the highest ones first, so many. -/
theorem big4_take (n r : Nat) (h : r < 4) : (big n 4).take (r + 1) = (big n 4).take r ++ [n / 256 ^ (3 - r) % 256] := by
  have hl : (big n 4).length = 4 := big_length n 4
  rw [List.take_succ_eq_append_getElem (by omega)]
  congr 2
  unfold big
  simp
theorem wd_lt {w0 : World} {b : Nat} (h : b < w0.heap.size) (x : Cls.Wd (Cls.Kept w0)) : b < x.w.heap.size := Nat.lt_of_lt_of_le h x.ok.size
theorem wd_range {w0 : World} {b o : Nat} {cs : List Value} (h : w0.rangeAt b o cs) (hb : b < w0.heap.size) (x : Cls.Wd (Cls.Kept w0)) : x.w.rangeAt b o cs := range_keep h (x.ok.block b hb)
theorem mixed_length (v b : List Nat) (hv : v.length = 8) : (mixed v b).length = 8 := by
  have := (blocks_ok v 0).1
  unfold mixed
  rw [List.length_zipWith, hv]
  have hr : ∀ k, (rounds (sched b) v k).length = 8 := fun k => by
    cases k with
    | zero => exact hv
    | succ k => rfl
  rw [hr]
  decide
attribute [local irreducible] big padded blocks mixed outs sum
set_option maxHeartbeats 1000000 in
set_option maxRecDepth 100000 in
theorem rsum_any (s : List UInt8) (w : World) (hs : s.length < 1099511627776) :
    Calls Try.prog 19 #[.string ⟨s.toArray⟩] w fun e w' => e = .returned (Byt.text (sum (nat s))) ∧ Below w.heap.size w w' := by
  have HS := Lib.hid hs
  go_enter Try.func19, Try.ntmps19
  go_wp2_with fail
  refine (padded_any s w hs).mono ?_
  rintro e w1 ⟨g, cap, rfl, hcap, hg, rg, k1⟩
  have hpl := padded_length (nat s)
  rw [List.length_map] at hpl
  have HPLT := Lib.hid (padded_lt (nat s) (nat_lt s))
  obtain ⟨pad, hpad⟩ : ∃ p, p = padded (nat s) := ⟨_, rfl⟩
  rw [← hpad] at hcap rg hpl HPLT ⊢
  have HPAD := Lib.hid hpad
  obtain ⟨N, hN⟩ : ∃ N, pad.length = 64 * N := ⟨pad.length / 64, by omega⟩
  have HN := Lib.hid hN
  have hN40 : N < 17179869184 + 2 := by omega
  rw [hN] at hcap ⊢
  have hgl : g < w1.heap.size := by
    have h0 : 0 < pad.length := by omega
    have := rg 0 _ (Blk.nats_at .u8 pad 0 h0)
    exact World.block_lt_of_cell? w1 _ this
  have RG := Lib.hid rg
  clear hpl hpad hN rg
  go_wp2_with fail
  refine (rfirst_any w1).mono ?_
  rintro e w2 ⟨rfl, k2⟩
  go_wp2_with (first | (refine Blk.store_row 79 (.tmp 4) (.tmp 11) rfl rfl w2.heap.size 0 (nats .i64 first) rfl rfl (Blk.new w2 (nats .i64 (List.replicate 8 0)) 79) (by rw [Blk.nats_length, Blk.nats_length]; decide) (by rw [Blk.nats_length]; kernel_rfl) (Blk.nats_one _ _) ?_) | fail)
  have f8 : first.length = 8 := rfl
  have z8 : (nats .i64 (List.replicate 8 0)).length = 8 := rfl
  have i0 := Blk.Is.setCells (nats .i64 first) (Blk.new w2 (nats .i64 (List.replicate 8 0)) 79) 0 (by rw [z8, Blk.nats_length, f8]; decide)
  rw [Blk.put_all _ _ (by rw [z8, Blk.nats_length, f8])] at i0
  have e8 : (nats .i64 (List.replicate 8 0)).toArray = #[.int .i64 0, .int .i64 0, .int .i64 0, .int .i64 0, .int .i64 0, .int .i64 0, .int .i64 0, .int .i64 0] := rfl
  have kk : Below w2.heap.size w2 ((w2.alloc (.cells (nats .i64 (List.replicate 8 0)).toArray 79)).setCells w2.heap.size 0 (nats .i64 first)) := Blk.below_setCells _ ((Below.refl _ _).alloc (Nat.le_refl _) _) (Nat.le_refl _) 0
  rw [e8] at i0 kk
  obtain ⟨h, hh⟩ : ∃ h, h = w2.heap.size := ⟨_, rfl⟩
  rw [← hh] at i0 kk ⊢
  generalize (w2.alloc (.cells #[.int .i64 0, .int .i64 0, .int .i64 0, .int .i64 0, .int .i64 0, .int .i64 0, .int .i64 0, .int .i64 0] 79)).setCells h 0 (nats .i64 first) = w3 at i0 kk ⊢
  have hgh : g < h := by rw [hh]; exact Nat.lt_of_lt_of_le hgl k2.size
  have hwh : w.heap.size ≤ h := by omega
  have k3 : Below w.heap.size w w3 := (k1.trans (k2.mono (by omega))).trans (kk.mono hwh)
  have rg3 : w3.rangeAt g 0 (nats .u8 pad) := range_keep RG.out ((kk.block g hgh).trans (k2.block g hgl))
  rw [← blocks_zero pad] at i0
  clear f8 z8 e8 hh k1 k2 kk RG
  go_loopw [5] (fun i wr => ∃ k : Nat, k ≤ N ∧ i = .int .i64 ((64 * k : Nat) : Int) ∧ Blk.Is wr h (nats .i64 (blocks pad k)) 79 ∧ wr.rangeAt g 0 (nats .u8 pad) ∧ Below w.heap.size w wr)
    (fun i _ => 64 * N - (intOf i).toNat)
  case atStart => exact ⟨0, by omega, rfl, i0, rg3, k3⟩
  case round =>
    clear i0 rg3 k3
    obtain ⟨k, hk, rfl, i0, rg, k0⟩ := hrel
    by_cases hlt : k < N
    · obtain ⟨at0, hat⟩ : ∃ a, a = 64 * k := ⟨_, rfl⟩
      rw [← hat]
      have hlt2 : (at0 : Int) < 64 * (N : Int) := by omega
      have hw8 := blocks_ok pad k
      have hbs := blocks_succ pad k
      rw [← hat] at hbs
      have hbl : ((pad.drop at0).take 64).length = 64 := by rw [List.length_take, List.length_drop, HN.out]; omega
      have hblt : ∀ x ∈ (pad.drop at0).take 64, x < 256 := fun x hx => HPLT.out x (List.mem_of_mem_drop (List.mem_of_mem_take hx))
      have HW8 := Lib.hid hw8
      have HBS := Lib.hid hbs
      have HBL := Lib.hid hbl
      have HBLT := Lib.hid hblt
      have I0 := Lib.hid i0
      have RG := Lib.hid rg
      have HAT := Lib.hid hat
      have hc1 : at0 + 64 ≤ cap := by omega
      have hc2 : (at0 : Int) + 64 ≤ (cap : Int) := by omega
      have hc3 : at0 ≠ cap := by omega
      have hgr : g < wr.heap.size := by have := i0.lt; omega
      clear hw8 hbs hbl hblt i0 rg hat
      go_wp2
      refine Cls.region_tail (S := Cls.Kept _) 7 (by kernel_rfl) (by kernel_rfl) (Below.refl _ _) ?_
      simp only [List.take_succ_cons, List.take_zero, List.drop_succ_cons, List.drop_zero]
      go_big_quiet_want
      refine quiet_load_in 79 (.tmp 4) rfl h rfl (nats .i64 (blocks pad k)) _ I0.out.drew Try.underlying79 rfl (by rw [Blk.nats_length, HW8.out.1]; kernel_rfl) ?_
      simp only [Act.put, List.setIfInBounds_toArray, List.set_cons_zero, List.set_cons_succ]
      go_big_quiet_on
      iterate 5 (go_big_quiet_step (fail))
      rw [show at0 + 64 - at0 = 64 from by omega]
      have hgd : g < wr.drew.heap.size := hgr
      have RGD := Lib.hid (range_part (w := wr.drew) RG.out at0 64)
      go_big_quiet_step ((go_at_call 51; with_reducible refine Cls.calls_kept (rblock_any (blocks pad k) ((pad.drop at0).take 64) g at0 _ _ HW8.out.1 HBL.out HW8.out.2 HBLT.out (wd_lt hgd _) (wd_range RGD.out hgd _))))
      refine wpQuiet_nil ?_
      intro w4 hw4
      have i4 := Blk.Is.below (w := wr.drew) I0.out hw4
      have k4 := k0.drew.trans (hw4.mono k0.size)
      have rg4 : w4.rangeAt g 0 (nats .u8 pad) := range_keep (w := wr.drew) RG.out (hw4.block g hgd)
      have HML := Lib.hid (mixed_length (blocks pad k) ((pad.drop at0).take 64) HW8.out.1)
      have I4 := Lib.hid i4
      have RG4 := Lib.hid rg4
      clear hw4 i4 rg4
      go_wp2_with (first | (refine Blk.store_row 79 (.tmp 4) (.tmp 24) rfl rfl h 0 (nats .i64 (mixed (blocks pad k) ((pad.drop at0).take 64))) rfl rfl I4.out (by rw [Blk.nats_length, Blk.nats_length, HML.out, HW8.out.1]; decide) (by rw [Blk.nats_length, HML.out]; kernel_rfl) (Blk.nats_one _ _) ?_) | fail)
      have i5 := Blk.Is.setCells (nats .i64 (mixed (blocks pad k) ((pad.drop at0).take 64))) I4.out 0 (by rw [Blk.nats_length, Blk.nats_length, HML.out, HW8.out.1]; decide)
      rw [Blk.put_all _ _ (by rw [Blk.nats_length, Blk.nats_length, HML.out, HW8.out.1]), ← HBS.out] at i5
      rw [← HBS.out]
      have k5 : Below w.heap.size w (w4.setCells h 0 (nats .i64 (blocks pad (k + 1)))) := Blk.below_setCells _ k4 hwh 0
      have rg5 : (w4.setCells h 0 (nats .i64 (blocks pad (k + 1)))).rangeAt g 0 (nats .u8 pad) := fun j v hj => (World.cell?_setCells_out h _ 0 w4 _ (fun e => absurd e (by simp only; omega))).trans (RG4.out j v hj)
      generalize w4.setCells h 0 (nats .i64 (blocks pad (k + 1))) = w5 at i5 k5 rg5 ⊢
      have I5 := Lib.hid i5
      have RG5 := Lib.hid rg5
      clear i5 rg5
      have hat2 : ((at0 : Int) + 64) = ((64 * (k + 1) : Nat) : Int) := by have := HAT.out; omega
      have HAT2 := Lib.hid hat2
      clear hat2
      go_wp2
      go_roundw
      case rel => exact ⟨k + 1, by omega, by rw [HAT2.out], I5.out, RG5.out, k5⟩
      case measure => simp [intOf]; omega
    · have hkN : k = N := by omega
      subst hkN
      have hge : ¬ ((64 * k : Nat) : Int) < 64 * (k : Int) := by omega
      obtain ⟨ws, hws⟩ : ∃ ws, ws = blocks pad k := ⟨_, rfl⟩
      have hw8 := blocks_ok pad k
      rw [← hws] at i0 hw8
      have hbig : ∀ i, at_ ws i < 9223372036854775808 := fun i => by have := hw8.2 i; omega
      have HWS := Lib.hid hws
      have HW8 := Lib.hid hw8
      have HBIG := Lib.hid hbig
      have hhr := i0.lt
      have I0 := Lib.hid i0
      clear hws hw8 i0 rg hcap hbig
      go_wp2
      go_loopw [6, 7] (fun v i wl => ∃ n : Nat, n ≤ 8 ∧ i = .int .i64 n ∧ Byt.Row wl (h + 1) 5 v (outs ws n) ∧ Blk.Is wl h (nats .i64 ws) 79 ∧ Below w.heap.size w wl)
        (fun _ i _ => 8 - (intOf i).toNat)
      case atStart => exact ⟨0, by omega, rfl, by rw [outs_zero]; exact Byt.Row.nil _ _ _, I0.out, k0⟩
      case round =>
        clear k0 I0 hhr
        obtain ⟨n, hn, rfl, row, i0, k0⟩ := hrel
        by_cases hn8 : n < 8
        · have hn8i : (n : Int) < 8 := by omega
          obtain ⟨x, hx⟩ : ∃ x, ws.getD n 0 = x := ⟨_, rfl⟩
          have hx63 : x < 9223372036854775808 := by rw [← hx]; exact HBIG.out n
          have HX := Lib.hid hx
          have hol := outs_length ws n (by rw [HW8.out.1]; exact hn)
          have HOL := Lib.hid hol
          clear hx hol
          go_wp2
          go_loopw [6, 8] (fun v i wl => ∃ r : Nat, r ≤ 4 ∧ i = .int .i64 ((r : Int) - 1) ∧ Byt.Row wl (h + 1) 5 v (outs ws n ++ (big x 4).take (4 - r)) ∧ Blk.Is wl h (nats .i64 ws) 79 ∧ Below w.heap.size w wl)
            (fun _ i _ => (intOf i + 1).toNat)
          case atStart => exact ⟨4, by omega, rfl, by rw [List.take_zero, List.append_nil]; exact row, i0, k0⟩
          case round =>
            clear row i0 k0
            obtain ⟨r, hr, rfl, row, i0, k0⟩ := hrel
            rcases r with _ | q
            · have e4 : (big x 4).take (4 - 0) = big x 4 := List.take_of_length_le (by rw [big_length]; decide)
              rw [e4] at row
              have row6 : Byt.Row wr (h + 1) 5 u6 (outs ws (n + 1)) := by
                rw [outs_succ ws n (by rw [HW8.out.1]; exact hn8), HX.out]
                exact row
              clear row e4
              go_wp2
              go_roundw
              case rel => exact ⟨n + 1, by omega, by go_num, row6, i0, k0⟩
              case measure => simp [intOf]; omega
            · have hq : ((q + 1 : Nat) : Int) - 1 = (q : Int) := by omega
              rw [hq]
              clear hq
              have hq4 : q < 4 := by omega
              have ex : bits .and .i64 ((x : Int) / 2 ^ (8 * q)) 255 % 256 = ((x / 256 ^ q % 256 : Nat) : Int) := shr255 x q hx63
              have hbt := big4_take x (3 - q) (by omega)
              rw [show 3 - (3 - q) = q by omega, show 3 - q + 1 = 4 - q by omega] at hbt
              rw [show 4 - (q + 1) = 3 - q by omega] at row
              have HEX := Lib.hid ex
              have HBT := Lib.hid hbt
              have hbl : (outs ws n ++ (big x 4).take (3 - q)).length = 4 * n + (3 - q) := by
                rw [List.length_append, HOL.out, List.length_take, big_length]; omega
              have HBL := Lib.hid hbl
              have hcell : wr.cell? ⟨h, n, none⟩ = some (.int .i64 (x : Int)) := by
                rw [i0.nat n (by rw [HW8.out.1]; exact hn8), HX.out]
              have I0 := Lib.hid i0
              clear ex hbt hbl i0
              go_upto_region 14 with (fail)
              (try simp only [Act.put])
              have qc := Cls.Wd.cell (w0 := wr) hcell
              clear hcell
              refine Pln.region_plain 9 ?_
              simp only [List.take_succ_cons, List.take_zero, List.drop_succ_cons, List.drop_zero]
              repeat (go_big_quiet_step (fail))
              refine wpQuiet_nil ?_
              intro w4 hw4
              rw [HEX.out]
              generalize x / 256 ^ q % 256 = y at HBT ⊢
              have r3 := row.below hw4
              have k3 := k0.trans (hw4.mono k0.size)
              have i3 := Blk.Is.below I0.out hw4
              have I3 := Lib.hid i3
              clear row k0 hw4 qc HEX i3
              go_wp2_with (first | (refine Byt.append_wp kit rfl (.tmp 33) (.tmp 42) rfl (h + 1) _ (outs ws n ++ (big x 4).take (3 - q)) rfl (r3.alloc _) ⟨w4.heap.size, 0, none⟩ 1 [y] rfl (new_bytes w4 [y] 5) (by rw [HBL.out]; show _ + 1 ≤ _; omega) (by have := I3.out.lt; simp; omega) ?_) | fail)
              intro v5 w5 row5 hg5
              have k5 : Below w.heap.size w w5 := (k3.alloc k3.size _).grown hg5 (by have := k3.size; simp; omega) (fun k hk => by have := (r3.lt k hk).1; omega)
              have i5 : Blk.Is w5 h (nats .i64 ws) 79 := by
                have hb := hg5.block h (by have := I3.out.lt; simp; omega) (fun e => by have := (r3.lt h e.symm).1; omega)
                unfold Blk.Is
                rw [hb]
                exact I3.out.alloc _
              rw [← HBT.out] at row5
              have I5 := Lib.hid i5
              clear i5 hg5
              go_wp2
              go_roundw
              case rel => exact ⟨q, by omega, rfl, row5, I5.out, k5⟩
              case measure => simp [intOf]
        · have hn8' : n = 8 := by omega
          rw [hn8', outs_all ws HW8.out.1] at row
          have hend : (ws.flatMap fun x => big x 4) = sum (nat s) := by
            unfold sum
            rw [← HPAD.out, HWS.out, show pad.length / 64 = k by rw [HN.out]; omega]
          rw [hend] at row
          have hlt2 : ∀ y ∈ sum (nat s), y < 256 := by
            rw [← hend]
            intro y hy
            obtain ⟨z, _, hz⟩ := List.mem_flatMap.1 hy
            exact big_lt _ _ y hz
          have HLT := Lib.hid hlt2
          clear hend hlt2 hn8' i0
          go_wp2_with (refine Byt.text_wp kit rfl (.tmp 44) rfl rfl row HLT.out ?_)
          exact bodyPost_ret (results_tmp rfl _ _ _) rfl ⟨rfl, k0⟩
end Go.Proofs.Yticegglphmgoaaa.Sha
