/- The order of up to forty floats, walked; the document's least. Conditions: those that are named. -/
import Derived.Test.YtagjgofnaplefaaXb
namespace Go.Proofs.Ytagjgofnaplefaa.Wei
open Go.RowKit
open Flo
open Blk (nats)
set_option maxHeartbeats 4000000 in
set_option maxRecDepth 100000 in
theorem sortfunc_any (c b cap : Nat) (t : TypeId) (n : Nat) (w : World) (R : List Nat → Prop)
    (h : Calls Try.prog 35 #[.slice (some ⟨b, 0, none⟩) n cap, .int .i64 n, clo c] w fun e w' => e = .returned (.tuple #[]) ∧ ∃ m, R m ∧ Blk.Is w' b (nats .i64 m) t ∧ Below b w w') :
    Calls Try.prog 30 #[.slice (some ⟨b, 0, none⟩) n cap, clo c] w fun e w' => e = .returned (.tuple #[]) ∧ ∃ m, R m ∧ Blk.Is w' b (nats .i64 m) t ∧ Below b w w' := by
  have HCL := Lib.hid h
  clear h
  go_enter Try.func30, Try.ntmps30
  go_wp2_with fail
  refine HCL.out.mono ?_
  rintro e w1 ⟨rfl, m, hR, B1, k1⟩
  have HR := Lib.hid hR
  clear hR
  go_wp2
  exact ⟨rfl, _, results_none rfl _ _ _, rfl, m, HR.out, B1, k1⟩
set_option maxHeartbeats 4000000 in
set_option maxRecDepth 100000 in
theorem order_any (v : Value) (l : List Nat) (w : World) (hv : Flos w v l) (h40 : l.length ≤ 40) :
    Calls Try.prog 17 #[v] w fun e w' => ∃ v' l', e = .returned v' ∧ Nums w' v' l' ∧ Ordered (kat l) l.length l' ∧ Below w.heap.size w w' := by
  obtain ⟨ao, cap, rfl, hl, hc, hb⟩ := hv
  have hcell : ∀ (i a : Nat), l[i]? = some a → ∃ g : Nat, ao = some ⟨g, 0, none⟩ ∧ g < w.heap.size ∧ w.cell? ⟨g, i, none⟩ = some (.float .f64 a) := fun i a hi => by
    obtain ⟨g', h1, h2⟩ := hc i a hi
    exact ⟨g', h1, World.block_lt_of_cell? _ _ h2, h2⟩
  have HC := Lib.hid hcell
  have HL := Lib.hid hl
  have HB := Lib.hid hb
  clear hc hl hb hcell
  have k0 : Below w.heap.size w (w.alloc (.cells #[.slice (ao) l.length cap] 31)) := (Below.refl _ _).alloc (Nat.le_refl _) _
  generalize hn : l.length = n at *
  have HN := Lib.hid hn
  clear hn
  go_enter Try.func17, Try.ntmps17
  go_wp2_with (first | (refine imake_wp rfl (.tmp 6) (.tmp 6) rfl .i64 .i64 n n rfl rfl rfl HL.out ?_; intro w1 i1 k1 z1; clear z1) | fail)
  have BX : Go.RowKit.Hid (Blk.Is (w.alloc (.cells #[.slice (ao) n cap] 31)) w.heap.size [.slice (ao) n cap] 31) := Lib.hid (Blk.new w [.slice (ao) n cap] 31)
  have HWS : Go.RowKit.Hid ((w.alloc (.cells #[.slice (ao) n cap] 31)).heap.size = w.heap.size + 1) := Lib.hid (by simp)
  rw [HWS.out] at i1 k1
  generalize w.alloc (.cells #[.slice (ao) n cap] 31) = W at k0 i1 k1 BX HWS
  have BX1 := Lib.hid (BX.out.keep k1 (by omega))
  have k2 : Below w.heap.size w w1 := k0.trans (k1.mono (by omega))
  generalize hb : w.heap.size + 1 = b at i1 k1 ⊢
  have hcb : w.heap.size < b := by omega
  clear k0 k1 BX HWS hb
  rw [← upTo_zero] at i1
  have hnb := HL.out
  go_loopw [4, 10] (fun _ vi wr => ∃ k : Nat, k ≤ n ∧ vi = .int .i64 k ∧ Blk.Is wr b (nats .i64 (upTo n k)) 3 ∧ Blk.Is wr w.heap.size [.slice (ao) n cap] 31 ∧ Below w.heap.size w wr) (fun _ i _ => n - (intOf i).toNat)
  case atStart => exact ⟨0, by omega, rfl, i1, BX1.out, k2⟩
  case round =>
    clear i1 BX1 k2
    obtain ⟨k, hkn, rfl, i1, BX1, k2⟩ := hrel
    have BX2 := Lib.hid BX1
    clear BX1
    by_cases hlt : k < n
    · have hlt' : (k : Int) < (n : Int) := by omega
      have i2 := Lib.hid (upTo_set n k hlt ▸ i1.setNat k k)
      have BX3 := Lib.hid (BX2.out.other (a := ⟨b, k, none⟩) (Nat.ne_of_lt hcb) (.int .i64 (k : Int)))
      have k3 : Below w.heap.size w (wr.setCell ⟨b, k, none⟩ (.int .i64 (k : Int))) := k2.setCell (Nat.le_of_lt hcb) _
      have c1 := i1.nat k (by rw [upTo_length n k hkn]; exact hlt)
      have f1 := i1.frozen k
      clear i1 BX2 k2
      go_wp2_with fail
      go_roundw
      case rel => exact ⟨k + 1, by omega, by go_num, i2.out, BX3.out, k3⟩
      case measure => simp [intOf]; omega
    · have hk' : k = n := by omega
      have hd6 : decide ((k : Int) < (n : Int)) = false := decide_eq_false (by omega)
      rw [hk', upTo_all] at i1
      clear hk'
      have hcmp : Cmp n (kat l) w.heap.size b wr := by
        have hx : wr.cell? ⟨w.heap.size, 0, none⟩ = some (.slice (ao) l.length cap) := by rw [HN.out]; exact BX2.out.cell 0
        have := cmp_of ao cap w.heap.size b l wr HB.out hx hcb (fun i a hi => by obtain ⟨g, h1, h2, h3⟩ := HC.out i a hi; exact ⟨g, h1, by omega, (k2.cell h2).trans h3⟩)
        rw [HN.out] at this
        exact this
      have HCM := Lib.hid hcmp
      have I1 := Lib.hid i1
      have HRL : Go.RowKit.Hid ((List.range n).length = n) := Lib.hid List.length_range
      clear hcmp i1
      have hcall := sortfunc_any w.heap.size b n 3 n wr (Ordered (kat l) n) (stable_any n w.heap.size b n (kat l) 3 wr HCM.out I1.out h40)
      have HCL := Lib.hid hcall
      clear hcall
      go_wp2_with fail
      refine HCL.out.mono ?_
      rintro e w3 ⟨rfl, l', O3, B3, k3⟩
      have k4 : Below w.heap.size w w3 := k2.trans (k3.mono (by omega))
      have HO := Lib.hid O3
      have HSL : Go.RowKit.Hid (l'.length = n) := Lib.hid O3.mem.1
      have hnums : Nums w3 (.slice (some ⟨b, 0, none⟩) n n) l' := by
        refine ⟨some ⟨b, 0, none⟩, n, by rw [HSL.out], by rw [HSL.out]; exact hnb, fun i a hi => ⟨b, rfl, ?_⟩⟩
        rw [B3.cell]
        unfold nats
        rw [List.getElem?_map, hi]
        rfl
      have HNM := Lib.hid hnums
      clear hnums O3
      go_wp2
      exact bodyPost_ret (results_tmp rfl _ _ _) rfl ⟨.slice (some ⟨b, 0, none⟩) n n, l', rfl, HNM.out, HO.out, k4⟩
end Go.Proofs.Ytagjgofnaplefaa.Wei
