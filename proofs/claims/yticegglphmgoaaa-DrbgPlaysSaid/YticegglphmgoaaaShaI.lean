/- Bytes as hexadecimal digits. Conditions: fewer than 2^40 bytes. -/
import Derived.Test.YticegglphmgoaaaShaH
import Derived.Test.YticegglphmgoaaaMad
namespace Go.Proofs.Yticegglphmgoaaa.Sha
open Go.RowKit
open Blk (nats)
/-- Bytes are appended where there is room. -/
theorem fits_wp {P : Program} {T e S : TypeId} (K : Byt.Kit P T e S) {w : World} {ops : Array Oper} {rest : List Oper} {o : Oper} {a : Act} {Q : Exit → Act → World → Prop} (hgd : o.guard = none) (s x : Operand)
    (ho : o.op = .call { callee := .builtin .append, args := #[s, x], argTypes := #[T, T] }) (base g n cap : Nat) (l : List Nat) (hs : a.eval s = .slice (some ⟨g, 0, none⟩) n cap) (hn : l.length = n) (hown : Byt.Row w base e (.slice (some ⟨g, 0, none⟩) n cap) l)
    (ad : Addr) (c m : Nat) (ns : List Nat) (hx : a.eval x = .slice (some ad) m c) (hm : ns.length = m) (hnews : ∀ j u, (nats .u8 ns)[j]? = some u → w.cell? (ad.add j) = some u)
    (hcap : n + m ≤ cap) (h : ∀ w', Byt.Row w' base e (.slice (some ⟨g, 0, none⟩) (n + m) cap) (l ++ ns) → w.grownBy w' (some g) → wpList P ops Q rest (a.put o.dst (.slice (some ⟨g, 0, none⟩) (n + m) cap)) w') : wpList P ops Q (o :: rest) a w := by
  subst hn hm
  obtain ⟨i, hi, hz, hsz, hby⟩ := Byt.info K
  refine wpList_append_fits w hgd s x T ho base e i 1 K.hT hi hsz g l.length cap (nats .u8 l) hs hown ad ns.length c (nats .u8 ns) hx (by rw [Blk.nats_length, Nat.mul_one]) hnews (Byt.nats_each _ _) hcap ?_
  intro w' h1 h2
  refine h w' ?_ h2
  unfold Byt.Row
  rw [Byt.nats_append, List.length_append]
  exact h1
def digitsL : List UInt8 := [48, 49, 50, 51, 52, 53, 54, 55, 56, 57, 97, 98, 99, 100, 101, 102]
theorem digits_at : ∀ n : Nat, n < 16 → ∃ v, digitsL[n]? = some v ∧ v.toNat = hexDigit n := by
  intro n hn
  rcases (show n = 0 ∨ n = 1 ∨ n = 2 ∨ n = 3 ∨ n = 4 ∨ n = 5 ∨ n = 6 ∨ n = 7 ∨ n = 8 ∨ n = 9 ∨ n = 10 ∨ n = 11 ∨ n = 12 ∨ n = 13 ∨ n = 14 ∨ n = 15 by omega) with rfl | rfl | rfl | rfl | rfl | rfl | rfl | rfl | rfl | rfl | rfl | rfl | rfl | rfl | rfl | rfl <;> exact ⟨_, rfl, rfl⟩
def hexs (l : List Nat) (k : Nat) : List Nat := hex (l.take k)
theorem hexs_zero (l : List Nat) : hexs l 0 = [] := rfl
theorem hexs_succ (l : List Nat) (k : Nat) (h : k < l.length) : hexs l (k + 1) = hexs l k ++ [hexDigit (l.getD k 0 / 16), hexDigit (l.getD k 0 % 16)] := by
  unfold hexs hex
  rw [List.take_succ_eq_append_getElem h, List.flatMap_append, List.getD_eq_getElem?_getD, List.getElem?_eq_getElem h]
  simp
theorem hexs_length (l : List Nat) (k : Nat) (h : k ≤ l.length) : (hexs l k).length = 2 * k := by
  induction k with
  | zero => rfl
  | succ k ih => rw [hexs_succ l k (by omega), List.length_append, ih (by omega)]; rfl
theorem hexs_all (l : List Nat) : hexs l l.length = hex l := by
  unfold hexs
  rw [List.take_length]
theorem hexDigit_lt (n : Nat) (h : n < 16) : hexDigit n < 256 := by
  unfold hexDigit
  split <;> omega
theorem hex_lt (l : List Nat) (h : ∀ x ∈ l, x < 256) : ∀ x ∈ hex l, x < 256 := by
  intro x hx
  unfold hex at hx
  obtain ⟨c, hc, h2⟩ := List.mem_flatMap.1 hx
  have := h c hc
  simp only [List.mem_cons, List.not_mem_nil, or_false] at h2
  rcases h2 with rfl | rfl
  · exact hexDigit_lt _ (by omega)
  · exact hexDigit_lt _ (by omega)
/-- A text as new bytes. -/
theorem bytes_wp {P : Program} {T e S : TypeId} (K : Byt.Kit P T e S) {w : World} {ops : Array Oper} {rest : List Oper} {o : Oper} {a : Act} {Q : Exit → Act → World → Prop} (hgd : o.guard = none) (x : Operand) (ho : o.op = .convert S T x)
    (l : List UInt8) (hx : a.eval x = .string ⟨l.toArray⟩) (h : ∀ cap w', w'.rangeAt w.heap.size 0 (nats .u8 (nat l)) → Below w.heap.size w w' → w.heap.size < w'.heap.size → wpList P ops Q rest (a.put o.dst (.slice (some ⟨w.heap.size, 0, none⟩) l.length cap)) w') : wpList P ops Q (o :: rest) a w := by
  refine wpList_plain hgd fun K' hK => ?_
  have hrun := run_bytes_of_string (P := P) w S T e ⟨l.toArray⟩ K.hS K.hT K.he
  unfold Oper.wp
  simp only [execOp, ho, hx, Sem.run_bind, hrun, Result.andThen]
  have hw : Below w.heap.size w (w.drew.alloc (.cells (bytesRow ⟨l.toArray⟩ (grownCap w (⟨l.toArray⟩ : ByteArray).size 0 e)) e ((bytesRow ⟨l.toArray⟩ (grownCap w (⟨l.toArray⟩ : ByteArray).size 0 e)).size, (bytesRow ⟨l.toArray⟩ (grownCap w (⟨l.toArray⟩ : ByteArray).size 0 e)).size + 1))) :=
    (Below.refl _ _).drew.alloc (Nat.le_refl _) _
  refine hK _ _ (h _ _ ?_ hw (by simp))
  intro j v hj
  rw [Nat.zero_add, show w.heap.size = w.drew.heap.size from rfl, World.cell?_alloc_mark]
  have hjl : j < (nat l).length := by
    have := (List.getElem?_eq_some_iff.1 hj).1
    rwa [Blk.nats_length] at this
  unfold bytesRow
  rw [Array.getElem?_append_left (by simpa using hjl), ← hj]
  simp [nats, nat]
  rfl
/-- One byte of a text, in a quiet walk. -/
theorem quiet_index {P : Program} {a : Act} {C : World → Prop} {op : Oper} {K : Act → Prop} (S : TypeId) (x y : Operand) (ho : op.op = .index S x y) (l : List UInt8) (hx : a.eval x = .string ⟨l.toArray⟩) (k : IntKind) (i : Nat) (hy : a.eval y = .int k (i : Int))
    (hS : P.underlying S = some .string) (v : UInt8) (hv : l[i]? = some v) (hk : K (a.put op.dst (.int .u8 (v.toNat : Int)))) : op.quiet P a C K :=
  ⟨_, fun w _ => by
    unfold Oper.quietAt execOp
    have hi : i < l.length := (List.getElem?_eq_some_iff.1 hv).1
    have hvi : (⟨l.toArray⟩ : ByteArray)[i]'(hi) = v := (List.getElem?_eq_some_iff.1 hv).2
    have hrun : (Instr.index S (.string ⟨l.toArray⟩) (.int k (i : Int))).run P w = .ok (.int .u8 (v.toNat : Int)) w := by
      rw [run_index_string w S _ k _ hS, dif_pos ⟨by omega, by exact_mod_cast hi⟩]
      simp only [Int.toNat_natCast]
      rw [hvi]
    simp only [ho, hx, hy, Sem.run_bind, hrun, Result.andThen_ok, Sem.run_pure]
    exact ⟨rfl, rfl⟩, hk⟩
attribute [local irreducible] hexDigit hexs hex
set_option maxHeartbeats 4000000 in
set_option maxRecDepth 100000 in
theorem hex_any (s : List UInt8) (w : World) (hs : s.length < 1099511627776) :
    Calls Try.prog 24 #[.string ⟨s.toArray⟩] w fun e w' => e = .returned (Byt.text (hex (nat s))) ∧ Below w.heap.size w w' := by
  have HS := Lib.hid hs
  go_enter Try.func24, Try.ntmps24
  go_wp2_with (first | (refine wpList_make_own _ rfl (.const (.int .i64 0)) (.tmp 8) 32 rfl w.heap.size 5 _ (.int .u8 0) 1 rfl rfl rfl rfl .i64 .i64 (2 * (s.length : Int)) (2 * s.length) rfl rfl (by omega) (by show 1 * _ ≤ _; omega) (by simp only [maxLen]; omega) (Nat.le_refl _) ?_) | fail)
  intro w1 hr1 hg1
  have row1 : Byt.Row w1 w.heap.size 5 (.slice (some ⟨w.heap.size, 0, none⟩) 0 (2 * s.length)) [] := hr1
  have k1 : Below w.heap.size w w1 := (Below.refl _ _).grown hg1 (Nat.le_refl _) (by simp)
  clear hr1 hg1
  go_wp2_with (first | (refine bytes_wp kit rfl (.tmp 10) rfl s rfl ?_) | fail)
  intro cap w2 rg2 k2 hsz2
  obtain ⟨g, hg⟩ : ∃ g, g = w1.heap.size := ⟨_, rfl⟩
  rw [← hg] at rg2 hsz2 ⊢
  have hgw : w.heap.size < g := by
    have := (row1.lt w.heap.size rfl).2
    omega
  have row2 : Byt.Row w2 w.heap.size 5 (.slice (some ⟨w.heap.size, 0, none⟩) 0 (2 * s.length)) (hexs (nat s) 0) := by rw [hexs_zero]; exact row1.below k2
  have k2' := k1.trans (k2.mono k1.size)
  have hnl : (nat s).length = s.length := List.length_map _
  have HNL := Lib.hid hnl
  clear hg row1 k1 k2 hnl
  go_wp2
  go_loopw [3, 13] (fun v i wr => ∃ k : Nat, k ≤ s.length ∧ i = .int .i64 k ∧ v = .slice (some ⟨w.heap.size, 0, none⟩) (2 * k) (2 * s.length) ∧ Byt.Row wr w.heap.size 5 (.slice (some ⟨w.heap.size, 0, none⟩) (2 * k) (2 * s.length)) (hexs (nat s) k) ∧ wr.rangeAt g 0 (nats .u8 (nat s)) ∧ Below w.heap.size w wr ∧ g < wr.heap.size)
    (fun _ i _ => s.length - (intOf i).toNat)
  case atStart => exact ⟨0, by omega, rfl, rfl, row2, rg2, k2', hsz2⟩
  case round =>
    clear row2 rg2 k2' hsz2
    obtain ⟨k, hk, rfl, rfl, row, rg, k0, hsz⟩ := hrel
    by_cases hlt : k < s.length
    · have hc := rg k (.int .u8 (((nat s).getD k 0 : Nat) : Int)) (Blk.nats_at _ _ _ (by rw [HNL.out]; exact hlt))
      rw [Nat.zero_add] at hc
      have hx256 : (nat s).getD k 0 < 256 := at_lt_of_all (nat_lt s) (by decide) k
      have HX := Lib.hid (hexs_succ (nat s) k (by rw [HNL.out]; exact hlt))
      have HXL := Lib.hid (hexs_length (nat s) k (by rw [HNL.out]; exact hk))
      generalize (nat s).getD k 0 = x at hc hx256 HX
      have RG := Lib.hid rg
      have ROW := Lib.hid row
      clear rg row
      go_wp2
      obtain ⟨d1, hd1, hd1n⟩ := digits_at (x / 16) (by omega)
      obtain ⟨d2, hd2, hd2n⟩ := digits_at (x % 16) (by omega)
      have HD1 := Lib.hid hd1
      have HD2 := Lib.hid hd2
      have HD1N := Lib.hid hd1n
      have HD2N := Lib.hid hd2n
      clear hd1 hd2 hd1n hd2n
      refine Mad.region_made 8 7 _ rfl (by kernel_rfl) (by kernel_rfl) (by kernel_rfl) (by decide) (fun w1 v => ∃ h, v = .slice (some ⟨h, 0, none⟩) 2 2 ∧ w.heap.size ≤ h ∧ Blk.Is w1 h (nats .u8 [d1.toNat, d2.toNat]) 5) ?_
      simp only [List.take_succ_cons, List.take_zero, List.drop_succ_cons, List.drop_zero, List.eraseIdx_cons_succ, List.eraseIdx_cons_zero]
      iterate 3 (go_big_quiet_step (fail))
      go_big_quiet_want
      refine quiet_index 9 (.const (.string ⟨digitsL.toArray⟩)) (.tmp 19) rfl digitsL rfl .u8 (x / 16) rfl (by kernel_rfl) d1 HD1.out ?_
      simp only [Act.put, List.setIfInBounds_toArray, List.set_cons_zero, List.set_cons_succ]
      go_big_quiet_on
      iterate 2 (go_big_quiet_step (fail))
      go_big_quiet_want
      refine quiet_index 9 (.const (.string ⟨digitsL.toArray⟩)) (.tmp 22) rfl digitsL rfl .u8 (x % 16) rfl (by kernel_rfl) d2 HD2.out ?_
      simp only [Act.put, List.setIfInBounds_toArray, List.set_cons_zero, List.set_cons_succ]
      go_big_quiet_on
      refine wpQuiet_nil ⟨?_, ?_⟩
      · intro w3 hw3
        refine ⟨.slice (some ⟨w3.heap.size, 0, none⟩) 2 2, w3.alloc (.cells (nats .u8 [d1.toNat, d2.toNat]).toArray 5), ?_, (Below.refl _ _).alloc (Nat.le_refl _) _, w3.heap.size, rfl, Nat.le_trans k0.size hw3.size, Blk.new _ _ _⟩
        go_simp
        rfl
      · rintro v w3 hw3 ⟨h, rfl, hh, bh⟩
        have row3 := Byt.Row.below (w := wr.drew) ROW.out.drew hw3
        have rg3 : w3.rangeAt g 0 (nats .u8 (nat s)) := range_keep RG.out (hw3.block g hsz)
        have k3 := k0.drew.trans (hw3.mono k0.size)
        have hsz3 : g < w3.heap.size := Nat.lt_of_lt_of_le hsz hw3.size
        have hnew : ∀ j u, (nats .u8 [d1.toNat, d2.toNat])[j]? = some u → w3.cell? ((⟨h, 0, none⟩ : Addr).add j) = some u := by
          intro j u hj
          rw [zero_add, bh.cell]
          exact hj
        have HNEW := Lib.hid hnew
        have ROW3 := Lib.hid row3
        have RG3 := Lib.hid rg3
        clear hw3 k0 hsz bh hnew row3 rg3
        simp only [Act.put, List.setIfInBounds_toArray, List.set_cons_zero, List.set_cons_succ]
        refine fits_wp kit rfl (.tmp 17) (.tmp 24) rfl w.heap.size w.heap.size (2 * k) (2 * s.length) (hexs (nat s) k) rfl HXL.out ROW3.out ⟨h, 0, none⟩ 2 2 [d1.toNat, d2.toNat] rfl rfl HNEW.out (by omega) ?_
        intro w4 row4 hg4
        have k4 : Below w.heap.size w w4 := k3.grown hg4 k3.size (fun k hk => by injection hk with hk; omega)
        have rg4 : w4.rangeAt g 0 (nats .u8 (nat s)) := range_keep RG3.out (hg4.block g hsz3 (by intro e; injection e with e; omega))
        have hsz4 : g < w4.heap.size := Nat.lt_of_lt_of_le hsz3 hg4.size
        rw [HD1N.out, HD2N.out, ← HX.out] at row4
        clear k3 hsz3 hg4
        have ROW4 := Lib.hid row4
        have RG4 := Lib.hid rg4
        clear row4 rg4
        simp only [Act.put, List.setIfInBounds_toArray, List.set_cons_zero, List.set_cons_succ]
        go_wp2
        go_roundw
        case rel => exact ⟨k + 1, by omega, by go_num, by congr 1, ROW4.out, RG4.out, k4, hsz4⟩
        case measure => simp [intOf]; omega
    · have hk' : k = s.length := by omega
      have hd : decide ((k : Int) < (s.length : Int)) = false := decide_eq_false (by omega)
      have row' : Byt.Row wr w.heap.size 5 (.slice (some ⟨w.heap.size, 0, none⟩) (2 * k) (2 * s.length)) (hex (nat s)) := by
        rw [← hexs_all (nat s), HNL.out]
        rw [hk'] at row ⊢
        exact row
      have hlt' := Lib.hid (hex_lt (nat s) (nat_lt s))
      clear hk' row rg
      go_wp2_with (refine Byt.text_wp kit rfl (.tmp 27) rfl rfl row' hlt'.out ?_)
      exact bodyPost_ret (results_tmp rfl _ _ _) rfl ⟨rfl, k0⟩
end Go.Proofs.Yticegglphmgoaaa.Sha
