/- The order of floats, walked. Conditions: those that are named. -/
import Derived.Test.YtagjgofnaplefaaWeM
namespace Go.Proofs.Ytagjgofnaplefaa.Wei
open Go.RowKit
open Flo
open Blk (nats)
theorem made_nats (k : IntKind) (m : Nat) : madeCells #[Value.int k 0] m = (nats k (List.replicate m 0)).toArray := by
  apply Array.ext'
  apply List.ext_getElem
  · simp [nats, madeCells]
  · intro i h1 h2
    simp [nats, madeCells, Nat.mod_one]
/-- So many zeros (a plain def). -/
def zeros (n : Nat) : List Nat := List.replicate n 0
theorem info3 : ∃ i, Try.prog.info? 3 = some i ∧ i.zero = some (.int .i64 0) ∧ i.size = 1 ∧ i.bytes = 8 := by
  have h : (Try.prog.info? 3).map (fun i => (i.zero, i.size, i.bytes)) = some (some (.int .i64 0), 1, 8) := by kernel_rfl
  cases hq : Try.prog.info? 3 with
  | none => simp [hq] at h
  | some i =>
    simp [hq] at h
    exact ⟨i, rfl, h.1, h.2.1, h.2.2⟩
/-- So many numbers 0 are made. -/
theorem imake_wp {w : World} {ops : Array Oper} {rest : List Oper} {o : Oper} {a : Act} {Q : Exit → Act → World → Prop} (hgd : o.guard = none) (x y : Operand) (ho : o.op = .makeSlice 35 x y)
    (k j : IntKind) (n : Nat) (N : Int) (hN : N = (n : Int)) (hx : a.eval x = .int k N) (hy : a.eval y = .int j N) (hn : n ≤ 1000000)
    (h : ∀ w', Blk.Is w' w.heap.size (nats .i64 (zeros n)) 3 → Below w.heap.size w w' → w'.heap.size = w.heap.size + 1 → wpList Try.prog ops Q rest (a.put o.dst (.slice (some ⟨w.heap.size, 0, none⟩) n n)) w') : wpList Try.prog ops Q (o :: rest) a w := by
  subst hN
  refine wpList_plain hgd fun K' hK => ?_
  obtain ⟨i, hi, hz, hsz, hby⟩ := info3
  have hrun := run_make (P := Try.prog) w 35 3 i (.int .i64 0) (by kernel_rfl) hi hz k j (n : Int) (n : Int) (by omega) (Int.le_refl _) (by rw [hby]; omega) (by omega)
  simp only [Int.toNat_natCast, hsz, Nat.mul_one] at hrun
  rw [show (Value.int .i64 0).cells = #[Value.int .i64 0] from rfl, made_nats] at hrun
  unfold Oper.wp
  simp only [execOp, ho, hx, hy, Sem.run_bind, hrun, Result.andThen]
  exact hK _ _ (h _ (Blk.new w _ 3) ((Below.refl _ _).alloc (Nat.le_refl _) _) (by simp))
/-- The first so many numbers, zeros behind them. -/
def upTo (n k : Nat) : List Nat := List.range k ++ List.replicate (n - k) 0
theorem upTo_zero (n : Nat) : upTo n 0 = zeros n := by simp [upTo, zeros]
theorem upTo_all (n : Nat) : upTo n n = List.range n := by simp [upTo]
theorem upTo_length (n k : Nat) (h : k ≤ n) : (upTo n k).length = n := by simp [upTo]; omega
theorem upTo_set (n k : Nat) (h : k < n) : (upTo n k).set k k = upTo n (k + 1) := by
  unfold upTo
  obtain ⟨d, rfl⟩ : ∃ d, n = k + 1 + d := ⟨n - k - 1, by omega⟩
  rw [show k + 1 + d - k = d + 1 by omega, show k + 1 + d - (k + 1) = d by omega, List.replicate_succ, List.set_append_right k _ (by simp)]
  simp [List.range_succ, List.append_assoc]
/-- The key of a place. -/
def kat (l : List Nat) (i : Nat) : Int := key (l.getD i 0)
theorem cmp_of (ao : Option Addr) (cap c b : Nat) (l : List Nat) (w : World) (hb : ∀ a ∈ l, a < 18446744073709551616) (hc : w.cell? ⟨c, 0, none⟩ = some (.slice ao l.length cap)) (hcb : c < b)
    (hg : ∀ (i a : Nat), l[i]? = some a → ∃ g : Nat, ao = some ⟨g, 0, none⟩ ∧ g < b ∧ w.cell? ⟨g, i, none⟩ = some (.float .f64 a)) : Cmp l.length (kat l) c b w := by
  intro wr i j hk hi hj
  obtain ⟨g, rfl, hgb, h1⟩ := hg i _ (getD_mem l i hi)
  obtain ⟨g', hg', _, h2⟩ := hg j _ (getD_mem l j hj)
  obtain rfl : g = g' := by simpa using hg'
  exact place_any i j l.length cap c _ _ g wr ((hk.cell hcb).trans hc) hi hj ((hk.cell hgb).trans h1) ((hk.cell hgb).trans h2) (getD_bound hb i) (getD_bound hb j)
/-- What a sort of so many numbers gives. -/
def Sorts (n : Nat) (S : (Nat → Int) → List Nat → List Nat) : Prop :=
  ∀ (c b cap : Nat) (K : Nat → Int) (t : TypeId) (l : List Nat) (w : World), Cmp n K c b w → Blk.Is w b (nats .i64 l) t → (∀ x ∈ l, x < n) → l.length = n →
    Calls Try.prog 35 #[.slice (some ⟨b, 0, none⟩) l.length cap, .int .i64 l.length, clo c] w fun e w' => e = .returned (.tuple #[]) ∧ Blk.Is w' b (nats .i64 (S K l)) t ∧ Below b w w'
theorem sorts_few (n : Nat) (h : n < 20) : Sorts n few := fun c b cap K t l w h1 h2 h3 h4 => stable_few n c b cap K t l w h1 h2 h3 (by omega)
set_option maxHeartbeats 4000000 in
set_option maxRecDepth 100000 in
theorem order_of (S : (Nat → Int) → List Nat → List Nat) (v : Value) (l : List Nat) (w : World) (hv : Flos w v l) (hS : Sorts l.length S) (hSl : ∀ K q, (S K q).length = q.length) :
    Calls Try.prog 17 #[v] w fun e w' => ∃ v', e = .returned v' ∧ Nums w' v' (S (kat l) (List.range l.length)) ∧ Below w.heap.size w w' := by
  obtain ⟨ao, cap, rfl, hl, hc, hb⟩ := hv
  have hcell : ∀ (i a : Nat), l[i]? = some a → ∃ g : Nat, ao = some ⟨g, 0, none⟩ ∧ g < w.heap.size ∧ w.cell? ⟨g, i, none⟩ = some (.float .f64 a) := fun i a hi => by
    obtain ⟨g', h1, h2⟩ := hc i a hi
    exact ⟨g', h1, World.block_lt_of_cell? _ _ h2, h2⟩
  have HC := Lib.hid hcell
  have HL := Lib.hid hl
  have HB := Lib.hid hb
  have HSS := Lib.hid hS
  clear hc hl hb hcell hS
  have k0 : Below w.heap.size w (w.alloc (.cells #[.slice (ao) l.length cap] 31)) := (Below.refl _ _).alloc (Nat.le_refl _) _
  generalize hn : l.length = n at *
  have HN := Lib.hid hn
  clear hn
  go_enter Try.func17, Try.ntmps17
  go_wp2_with (first | (refine imake_wp rfl (.tmp 6) (.tmp 6) rfl .i64 .i64 n n rfl rfl rfl HL.out ?_; intro w1 i1 k1 z1; clear z1) | fail)
  have BX : Go.RowKit.Hid (Blk.Is (w.alloc (.cells #[.slice (ao) n cap] 31)) w.heap.size [.slice (ao) n cap] 31) := Lib.hid (Blk.new w [.slice (ao) n cap] 31)
  have HWS : Go.RowKit.Hid ((w.alloc (.cells #[.slice (ao) n cap] 31)).heap.size = w.heap.size + 1) := Lib.hid (by simp)
  rw [HWS.out] at i1 k1
  generalize w.alloc (.cells #[.slice (ao) n cap] 31) = W at k0 i1 k1 BX HWS
  have BX1 := Lib.hid (BX.out.keep k1 (by omega))
  have k2 : Below w.heap.size w w1 := k0.trans (k1.mono (by omega))
  generalize hb : w.heap.size + 1 = b at i1 k1 ⊢
  have hcb : w.heap.size < b := by omega
  clear k0 k1 BX HWS hb
  rw [← upTo_zero] at i1
  have hnb := HL.out
  go_loopw [4, 10] (fun _ vi wr => ∃ k : Nat, k ≤ n ∧ vi = .int .i64 k ∧ Blk.Is wr b (nats .i64 (upTo n k)) 3 ∧ Blk.Is wr w.heap.size [.slice (ao) n cap] 31 ∧ Below w.heap.size w wr) (fun _ i _ => n - (intOf i).toNat)
  case atStart => exact ⟨0, by omega, rfl, i1, BX1.out, k2⟩
  case round =>
    clear i1 BX1 k2
    obtain ⟨k, hkn, rfl, i1, BX1, k2⟩ := hrel
    have BX2 := Lib.hid BX1
    clear BX1
    by_cases hlt : k < n
    · have hlt' : (k : Int) < (n : Int) := by omega
      have i2 := Lib.hid (upTo_set n k hlt ▸ i1.setNat k k)
      have BX3 := Lib.hid (BX2.out.other (a := ⟨b, k, none⟩) (Nat.ne_of_lt hcb) (.int .i64 (k : Int)))
      have k3 : Below w.heap.size w (wr.setCell ⟨b, k, none⟩ (.int .i64 (k : Int))) := k2.setCell (Nat.le_of_lt hcb) _
      have c1 := i1.nat k (by rw [upTo_length n k hkn]; exact hlt)
      have f1 := i1.frozen k
      clear i1 BX2 k2
      go_wp2_with fail
      go_roundw
      case rel => exact ⟨k + 1, by omega, by go_num, i2.out, BX3.out, k3⟩
      case measure => simp [intOf]; omega
    · have hk' : k = n := by omega
      have hd6 : decide ((k : Int) < (n : Int)) = false := decide_eq_false (by omega)
      rw [hk', upTo_all] at i1
      clear hk'
      have hcmp : Cmp n (kat l) w.heap.size b wr := by
        have hx : wr.cell? ⟨w.heap.size, 0, none⟩ = some (.slice (ao) l.length cap) := by rw [HN.out]; exact BX2.out.cell 0
        have := cmp_of ao cap w.heap.size b l wr HB.out hx hcb (fun i a hi => by obtain ⟨g, h1, h2, h3⟩ := HC.out i a hi; exact ⟨g, h1, by omega, (k2.cell h2).trans h3⟩)
        rw [HN.out] at this
        exact this
      have HCM := Lib.hid hcmp
      have I1 := Lib.hid i1
      have HRL : Go.RowKit.Hid ((List.range n).length = n) := Lib.hid List.length_range
      clear hcmp i1
      have hcall := sortfunc_of w.heap.size b n 3 (List.range n) (S (kat l) (List.range n)) wr (HSS.out _ _ _ _ _ _ wr HCM.out I1.out (fun x hx => List.mem_range.1 hx) HRL.out)
      rw [HRL.out] at hcall
      have HCL := Lib.hid hcall
      clear hcall
      go_wp2_with fail
      refine HCL.out.mono ?_
      rintro e w3 ⟨rfl, B3, k3⟩
      have k4 : Below w.heap.size w w3 := k2.trans (k3.mono (by omega))
      have hsl := (hSl (kat l) (List.range n)).trans HRL.out
      have HSL := Lib.hid hsl
      clear hsl
      have hnums : Nums w3 (.slice (some ⟨b, 0, none⟩) n n) (S (kat l) (List.range n)) := by
        refine ⟨some ⟨b, 0, none⟩, n, by rw [HSL.out], by rw [HSL.out]; exact hnb, fun i a hi => ⟨b, rfl, ?_⟩⟩
        rw [B3.cell]
        unfold nats
        rw [List.getElem?_map, hi]
        rfl
      have HNM := Lib.hid hnums
      clear hnums
      go_wp2
      exact bodyPost_ret (results_tmp rfl _ _ _) rfl ⟨.slice (some ⟨b, 0, none⟩) n n, rfl, HNM.out, k4⟩
end Go.Proofs.Ytagjgofnaplefaa.Wei
