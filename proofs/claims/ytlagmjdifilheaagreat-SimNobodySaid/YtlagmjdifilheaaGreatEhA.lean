/- poly.Eval is known, of at most two numbers. Condition: that calls are told rightly. -/
import Derived.Test.YtlagmjdifilheaaGreatExAe
import Derived.Test.YtlagmjdifilheaaGreatProg
import Derived.RangeFuncNested
import Derived.RangeFuncBound
import Derived.RangeFuncCalls
import Derived.RangeFuncLeaves
import Derived.Shelf.Abstract
import Derived.Shelf.RegionOpen
import Derived.WalkKit
import Derived.OwnWalkIn
import Derived.TacticsInMore
import Derived.LoopNIn
import Derived.LoopIn
import Derived.Test.YtlagmjdifilheaaGreatEaA
namespace Go.Proofs.YtlagmjdifilheaaGreat.Eh
open Go Go.RowKit Go.Shelf Exe
attribute [local go_sem] Oper.semAt_some
def el (c : Nat → Int) (k : Nat) : Value := w4 (c (4 * k)) (c (4 * k + 1)) (c (4 * k + 2)) (c (4 * k + 3))
def enc (m : Nat) (c : Nat → Int) (k : Nat) : Array Value := #[.int .i64 ((m - 1 - k : Nat) : Int), el c (m - 1 - k)]
/-- What the iterator that slices.Backward hands back does, over so many numbers. -/
def Back (m : Nat) (c : Nat → Int) (sv : Value) (b off : Nat) : Prop := ∀ (n : Nat) (_ : 1 ≤ n) (l Bs : Nat) (J : Nat → World → Prop) (_ : ∀ k W, J k W → W.cell? ⟨Bs, 0, none⟩ = some sv ∧ ∀ j, j < 4 * m → W.cell? ⟨b, off + j, none⟩ = some (.int .u64 (c j)))
    (_ : ∀ k W, J k W → k < m → YieldAt Fence.wide (n - 1) Tryz.prog l (enc m c k) W fun e W' => e = .returned (.bool true) ∧ J (k + 1) W')
    (W : World) (_ : J 0 W), CallsIn Fence.wide n Tryz.prog 212 #[.func (.yield l) #[] #[], .pointer (some ⟨Bs, 0, none⟩)] W fun e W' => (∃ v, e = .returned v) ∧ J m W'
set_option maxRecDepth 100000 in
set_option maxHeartbeats 2000000 in
theorem back0 (b off cap : Nat) (c : Nat → Int) : Back 0 c (.slice none 0 cap) b off := by
  intro n hn l Bs J hJf hY W h0
  refine callsIn_of_wp Tryz.func212 rfl trivial ?_ rfl
  simp only [Tryz.ntmps212, List.size_toArray, List.length_cons, List.length_nil, Nat.reduceAdd, Nat.reduceSub, Array.replicate_succ, Array.replicate_zero, List.push_toArray, List.append_toArray, List.nil_append, List.cons_append]
  have hBs := (hJf 0 W h0).1
  gi_wp2
  gi_loopw [3] (fun i wr => i = .int .i64 (-1) ∧ J 0 wr)
    (fun i _ => (intOf i + 1).toNat)
  case atStart => exact ⟨rfl, h0⟩
  case round =>
    obtain ⟨rfl, hJ⟩ := hrel
    gi_wp2
    go_end0
    exact ⟨⟨_, rfl⟩, hJ⟩
set_option maxRecDepth 100000 in
set_option maxHeartbeats 2000000 in
theorem back1 (b off cap : Nat) (c : Nat → Int) : Back 1 c (.slice (some ⟨b, off, none⟩) 1 cap) b off := by
  intro n hn l Bs J hJf hY W h0
  refine callsIn_of_wp Tryz.func212 rfl trivial ?_ rfl
  simp only [Tryz.ntmps212, List.size_toArray, List.length_cons, List.length_nil, Nat.reduceAdd, Nat.reduceSub, Array.replicate_succ, Array.replicate_zero, List.push_toArray, List.append_toArray, List.nil_append, List.cons_append]
  have hBs := (hJf 0 W h0).1
  gi_wp2
  gi_loopw [3] (fun i wr => ((i = .int .i64 0 ∧ J 0 wr) ∨ (i = .int .i64 (-1) ∧ J 1 wr)))
    (fun i _ => (intOf i + 1).toNat)
  case atStart => exact .inl ⟨rfl, h0⟩
  case round =>
    rcases hrel with ⟨rfl, hJ⟩ | ⟨rfl, hJ⟩
    · obtain ⟨hBs, hc⟩ := hJf 0 wr hJ
      have h0 := (show wr.cell? ⟨b, off, none⟩ = _ from hc 0 (by decide))
      have h1 := hc 1 (by decide)
      have h2 := hc 2 (by decide)
      have h3 := hc 3 (by decide)
      obtain ⟨fn, tmps, assign, body, hy, hR⟩ := hY 0 wr hJ (by decide)
      have hy := (show (Instr.yield l #[.int .i64 0, w4 (c 0) (c 1) (c 2) (c 3)]).run _ wr = _ from hy)
      gi_wp2
      refine hR.mono ?_
      rintro e W3 ⟨rfl, hJ3⟩
      gi_wp2
      go_roundw
      case rel => exact .inr ⟨rfl, hJ3⟩
      case measure => decide
    · gi_wp2
      go_end0
      exact ⟨⟨_, rfl⟩, hJ⟩
set_option maxRecDepth 100000 in
set_option maxHeartbeats 2000000 in
theorem back2 (b off cap : Nat) (c : Nat → Int) : Back 2 c (.slice (some ⟨b, off, none⟩) 2 cap) b off := by
  intro n hn l Bs J hJf hY W h0
  refine callsIn_of_wp Tryz.func212 rfl trivial ?_ rfl
  simp only [Tryz.ntmps212, List.size_toArray, List.length_cons, List.length_nil, Nat.reduceAdd, Nat.reduceSub, Array.replicate_succ, Array.replicate_zero, List.push_toArray, List.append_toArray, List.nil_append, List.cons_append]
  have hBs := (hJf 0 W h0).1
  gi_wp2
  gi_loopw [3] (fun i wr => ((i = .int .i64 1 ∧ J 0 wr) ∨ (i = .int .i64 0 ∧ J 1 wr) ∨ (i = .int .i64 (-1) ∧ J 2 wr)))
    (fun i _ => (intOf i + 1).toNat)
  case atStart => exact .inl ⟨rfl, h0⟩
  case round =>
    rcases hrel with ⟨rfl, hJ⟩ | ⟨rfl, hJ⟩ | ⟨rfl, hJ⟩
    · obtain ⟨hBs, hc⟩ := hJf 0 wr hJ
      have h0 := hc 4 (by decide)
      have h1 := hc 5 (by decide)
      have h2 := hc 6 (by decide)
      have h3 := hc 7 (by decide)
      obtain ⟨fn, tmps, assign, body, hy, hR⟩ := hY 0 wr hJ (by decide)
      have hy := (show (Instr.yield l #[.int .i64 1, w4 (c 4) (c 5) (c 6) (c 7)]).run _ wr = _ from hy)
      gi_wp2
      refine hR.mono ?_
      rintro e W3 ⟨rfl, hJ3⟩
      gi_wp2
      go_roundw
      case rel => exact .inr (.inl ⟨rfl, hJ3⟩)
      case measure => decide
    · obtain ⟨hBs, hc⟩ := hJf 1 wr hJ
      have h0 := (show wr.cell? ⟨b, off, none⟩ = _ from hc 0 (by decide))
      have h1 := hc 1 (by decide)
      have h2 := hc 2 (by decide)
      have h3 := hc 3 (by decide)
      obtain ⟨fn, tmps, assign, body, hy, hR⟩ := hY 1 wr hJ (by decide)
      have hy := (show (Instr.yield l #[.int .i64 0, w4 (c 0) (c 1) (c 2) (c 3)]).run _ wr = _ from hy)
      gi_wp2
      refine hR.mono ?_
      rintro e W3 ⟨rfl, hJ3⟩
      gi_wp2
      go_roundw
      case rel => exact .inr (.inr ⟨rfl, hJ3⟩)
      case measure => decide
    · gi_wp2
      go_end0
      exact ⟨⟨_, rfl⟩, hJ⟩
end Go.Proofs.YtlagmjdifilheaaGreat.Eh
namespace Go.Proofs.YtlagmjdifilheaaGreat.Eh
open Go Go.RowKit Go.Shelf Exe
attribute [local go_sem] Oper.semAt_some
theorem downs_drop : ∀ (m k : Nat), k < m → (downs m).drop k = (m - 1 - k) :: (downs m).drop (k + 1)
  | m + 1, 0, _ => by simp [downs]
  | m + 1, k + 1, h => by
    have := downs_drop m k (by omega)
    simp only [downs, List.drop_succ_cons]
    rw [this, show m + 1 - 1 - (k + 1) = m - 1 - k by omega]
theorem downs_end : ∀ (m : Nat), (downs m).drop m = []
  | 0 => rfl
  | m + 1 => by simp [downs, downs_end m]
set_option maxHeartbeats 1000000 in
theorem backward (n : Nat) (a : Option Addr) (len cap : Nat) (w : World) :
    CallsIn Fence.wide n Tryz.prog 177 #[.slice a len cap] w fun e w' => e = .returned (.func (.func 212) #[] #[.pointer (some ⟨w.heap.size, 0, none⟩)]) ∧ w' = w.alloc (.cells #[.slice a len cap] 22) := by
  refine callsIn_of_wp Tryz.func177 rfl trivial ?_ rfl
  simp only [Tryz.ntmps177, List.size_toArray, List.length_cons, List.length_nil, Nat.reduceAdd, Nat.reduceSub, Array.replicate_succ, Array.replicate_zero, List.push_toArray, List.append_toArray, List.nil_append, List.cons_append]
  gi_wp2
  go_ret
  exact ⟨rfl, rfl⟩
abbrev z : Value := .int .u64 0
theorem cell_same {b o : Nat} {W W' : World} (h : W'.heap[b]? = W.heap[b]?) : W'.cell? ⟨b, o, none⟩ = W.cell? ⟨b, o, none⟩ := by simp [World.cell?, h]
/-- What is so between two rounds. -/
structure Rd (E : Env) (B : Nat → Prop) (w0 w : World) (h : Hp) (b : Nat) (g sv : Value) (x0 x1 x2 x3 o0 o1 o2 o3 : Int) (W : World) : Prop where
  wr : WR E Tryz.prog B w0 W h
  size : w.heap.size + 5 ≤ W.heap.size
  cg : W.heap[w.heap.size]? = some (.cells #[g] 26 (0, 0))
  cx : W.heap[w.heap.size + 1]? = some (.cells #[.int .u64 x0, .int .u64 x1, .int .u64 x2, .int .u64 x3] 69 (0, 0))
  cr : W.heap[w.heap.size + 2]? = some (.cells #[z, z, z, z] 69 (0, 0))
  co : W.heap[w.heap.size + 3]? = some (.cells #[.int .u64 o0, .int .u64 o1, .int .u64 o2, .int .u64 o3] 69 (0, 0))
  cs : W.heap[w.heap.size + 4]? = some (.cells #[sv] 22 (0, 0))
  ce : b < w.heap.size → W.heap[b]? = w.heap[b]?
  base : ∀ k, w.heap.size ≤ k → B k
/-- A turn of a block beyond what lay there. -/
theorem Rd.turn {E : Env} {B : Nat → Prop} {w0 w : World} {h : Hp} {b : Nat} {g sv : Value} {x0 x1 x2 x3 o0 o1 o2 o3 : Int} {W W' : World} (R : Rd E B w0 w h b g sv x0 x1 x2 x3 o0 o1 o2 o3 W) (hE : ∀ i k, (h.ob i).isSome = true → E.ρ i = some k → k < w.heap.size)
    (hk : Keep (fun k => w.heap.size + 5 ≤ k) W W') : Rd E B w0 w h b g sv x0 x1 x2 x3 o0 o1 o2 o3 W' := by
  have key : ∀ k, k < w.heap.size + 5 → W'.heap[k]? = W.heap[k]? := fun k hk' => hk.block k (Nat.lt_of_lt_of_le hk' R.size) (by omega)
  refine ⟨R.wr.still ⟨hk.os, hk.tape, hk.output, hk.size, fun k h1 h2 => hk.block k h1 fun h3 => h2 (R.base k (Nat.le_trans (Nat.le_add_right _ 5) h3))⟩ (fun i k hi hρ => key k (Nat.lt_of_lt_of_le (hE i k hi hρ) (Nat.le_add_right _ _))), Nat.le_trans R.size hk.size, (key _ (by omega)).trans R.cg, (key _ (by omega)).trans R.cx, (key _ (by omega)).trans R.cr, (key _ (by omega)).trans R.co, (key _ (by omega)).trans R.cs, fun hb => (key _ (by omega)).trans (R.ce hb), R.base⟩
theorem Keep.sub {S S' : Nat → Prop} {a b : World} (h : Keep S a b) (hs : ∀ k, k < a.heap.size → S k → S' k) : Keep S' a b := ⟨h.os, h.tape, h.output, h.size, fun k hk hn => h.block k hk fun h' => hn (hs k hk h')⟩
theorem load_ptr {a : Act} {o : Oper} {t : Tmp} {b : Nat} {w : World} {p : Addr} (ho : o.op = .load 26 (.tmp t)) (hx : a.eval (.tmp t) = .pointer (some ⟨b, 0, none⟩)) (hb : w.heap[b]? = some (.cells #[.pointer (some p)] 26 (0, 0))) : (execOp a.eval o).run Tryz.prog w = .ok (.value (.pointer (some p))) w := by
  have hc : w.cell? ⟨b, 0, none⟩ = some (.pointer (some p)) := by simp [World.cell?, hb]
  have hx' : a.tmps[t]?.getD undef = .pointer (some ⟨b, 0, none⟩) := by rw [← hx]; simp [Act.eval]
  unfold execOp
  simp [ho, hx', go_sem, hc]
theorem load_nat {a : Act} {o : Oper} {t : Tmp} {b : Nat} {w : World} {y0 y1 y2 y3 : Int} (ho : o.op = .load 69 (.tmp t)) (hx : a.eval (.tmp t) = .pointer (some ⟨b, 0, none⟩)) (hb : w.heap[b]? = some (.cells #[.int .u64 y0, .int .u64 y1, .int .u64 y2, .int .u64 y3] 69 (0, 0))) :
    (execOp a.eval o).run Tryz.prog w = .ok (.value (w4 y0 y1 y2 y3)) w := by
  have h0 : w.cell? ⟨b, 0, none⟩ = some (.int .u64 y0) := by simp [World.cell?, hb]
  have h1 : w.cell? ⟨b, 1, none⟩ = some (.int .u64 y1) := by simp [World.cell?, hb]
  have h2 : w.cell? ⟨b, 2, none⟩ = some (.int .u64 y2) := by simp [World.cell?, hb]
  have h3 : w.cell? ⟨b, 3, none⟩ = some (.int .u64 y3) := by simp [World.cell?, hb]
  have hx' : a.tmps[t]?.getD undef = .pointer (some ⟨b, 0, none⟩) := by rw [← hx]; simp [Act.eval]
  unfold execOp
  simp [ho, hx', go_sem, h0, h1, h2, h3]
theorem set4 {W : World} {b : Nat} {t : TypeId} {fr : Nat × Nat} {a0 a1 a2 a3 : Value} (v0 v1 v2 v3 : Value) (hb : W.heap[b]? = some (.cells #[a0, a1, a2, a3] t fr)) :
    (((W.setCell ⟨b, 0, none⟩ v0).setCell ⟨b, 1, none⟩ v1).setCell ⟨b, 2, none⟩ v2).setCell ⟨b, 3, none⟩ v3 = W.putObj b (.cells #[v0, v1, v2, v3] t fr) := by
  have hlt := (Array.getElem?_eq_some_iff.1 hb).1
  rw [setCell_put hb]
  rw [setCell_put (World.putObj_heap_same hlt), putObj_putObj]
  rw [setCell_put (World.putObj_heap_same hlt), putObj_putObj]
  rw [setCell_put (World.putObj_heap_same hlt), putObj_putObj]
  rfl
theorem keep_put {B : Nat → Prop} {W : World} {k : Nat} (hk : B k) (o : Obj) : Keep B W (W.putObj k o) := ⟨rfl, rfl, rfl, by simp, fun _ _ hj => World.putObj_heap_other (by rintro rfl; exact hj hk)⟩
set_option maxRecDepth 100000 in
set_option maxHeartbeats 2000000 in
theorem eval_walk {E : Env} {B : Nat → Prop} {w0 w : World} {h : Hp} (W0 : WR E Tryz.prog B w0 w h) {ig og bg : Nat} {x0 x1 x2 x3 : Int} (hg : E.ρ ig = some bg) {i off b : Nat} {is : List Nat} {m : Nat} {c : Nat → Int} {a : Option Addr} {len cap : Nat}
    (hback : Back m c (.slice a len cap) b off) (hel : ∀ k, k < m → ∀ cs, cellsAt h i (off + k * 4) 4 = some cs → agg4 (.agg cs.toArray) = true → .agg cs.toArray = el c k) (hc : ∀ j, j < 4 * m → w.cell? ⟨b, off + j, none⟩ = some (.int .u64 (c j)))
    (hbm : 0 < m → b < w.heap.size) (hbn : ∀ j blk, j ∈ is → h.get j = some blk → E.ρ j ≠ some b) {v : Value} (hp : Path (RoundOk Tryz.prog h is 86 85 (.pointer (some ⟨ig, og, none⟩)) (w4 x0 x1 x2 x3) i off) v (downs m) (nat4 0)) :
    Calls Tryz.prog 127 #[.pointer (some ⟨bg, og, none⟩), .slice a len cap, w4 x0 x1 x2 x3] w fun e w' => e = .returned v ∧ WR E Tryz.prog B w0 w' h := by
  have en86 : ∀ args w, (callFunc 86 args).run Tryz.prog w = .ok (.enter 86 args) w := enters_of Tryz.func86 (by kernel_rfl) rfl
  have en85 : ∀ args w, (callFunc 85 args).run Tryz.prog w = .ok (.enter 85 args) w := enters_of Tryz.func85 (by kernel_rfl) rfl
  have hE : ∀ i k, (h.ob i).isSome = true → E.ρ i = some k → k < w.heap.size := fun i k hi hρ => W0.lt hi hρ
  refine (callsIn_wide (n := 3)).1 ?_
  refine callsIn_of_wp_marks Tryz.func127 rfl trivial ?_ rfl
  simp only [Tryz.ntmps127, List.size_toArray, List.length_cons, List.length_nil, Nat.reduceAdd, Nat.reduceSub, Array.replicate_succ, Array.replicate_zero, List.push_toArray, List.append_toArray, List.nil_append, List.cons_append]
  gi_wp2_with (refine ⟨trivial, ?_⟩; gi_at_call 177; refine (backward 2 _ _ _ _).mono ?_; rintro e w' ⟨rfl, rfl⟩)
  obtain ⟨V, hV⟩ : ∃ V, V = ((((w.alloc (.cells #[.pointer (some ⟨bg, og, none⟩)] 26)).alloc (.cells #[.int .u64 x0, .int .u64 x1, .int .u64 x2, .int .u64 x3] 69)).alloc (.cells #[z, z, z, z] 69)).alloc (.cells #[z, z, z, z] 69)).alloc (.cells #[.slice a len cap] 22) := ⟨_, rfl⟩
  have hVs : V.heap.size = w.heap.size + 5 := by rw [hV]; simp
  have R0 : Rd E B w0 w h b (.pointer (some ⟨bg, og, none⟩)) (.slice a len cap) x0 x1 x2 x3 0 0 0 0 V := by
    have n : ∀ (X : World) (o : Obj) (k : Nat) (o' : Obj), X.heap[k]? = some o' → (X.alloc o).heap[k]? = some o' := fun X o k o' h => (Below.heap_alloc X o k (Array.getElem?_eq_some_iff.1 h).1).trans h
    have e1 := World.alloc_heap_new w (.cells #[.pointer (some ⟨bg, og, none⟩)] 26)
    have e2 := World.alloc_heap_new (w.alloc (.cells #[.pointer (some ⟨bg, og, none⟩)] 26)) (.cells #[.int .u64 x0, .int .u64 x1, .int .u64 x2, .int .u64 x3] 69)
    have e3 := World.alloc_heap_new ((w.alloc (.cells #[.pointer (some ⟨bg, og, none⟩)] 26)).alloc (.cells #[.int .u64 x0, .int .u64 x1, .int .u64 x2, .int .u64 x3] 69)) (.cells #[z, z, z, z] 69)
    have e4 := World.alloc_heap_new (((w.alloc (.cells #[.pointer (some ⟨bg, og, none⟩)] 26)).alloc (.cells #[.int .u64 x0, .int .u64 x1, .int .u64 x2, .int .u64 x3] 69)).alloc (.cells #[z, z, z, z] 69)) (.cells #[z, z, z, z] 69)
    have e5 := World.alloc_heap_new ((((w.alloc (.cells #[.pointer (some ⟨bg, og, none⟩)] 26)).alloc (.cells #[.int .u64 x0, .int .u64 x1, .int .u64 x2, .int .u64 x3] 69)).alloc (.cells #[z, z, z, z] 69)).alloc (.cells #[z, z, z, z] 69)) (.cells #[.slice a len cap] 22)
    simp only [World.size_alloc] at e2 e3 e4 e5
    refine ⟨?_, by omega, ?_, ?_, ?_, ?_, ?_, ?_, fun k hk => W0.base' k hk⟩
    · rw [hV]; exact ((((W0.plain _).plain _).plain _).plain _).plain _
    · rw [hV]; exact n _ _ _ _ (n _ _ _ _ (n _ _ _ _ (n _ _ _ _ e1)))
    · rw [hV]; exact n _ _ _ _ (n _ _ _ _ (n _ _ _ _ e2))
    · rw [hV]; exact n _ _ _ _ (n _ _ _ _ e3)
    · rw [hV]; exact n _ _ _ _ e4
    · rw [hV]; exact e5
    · intro hb
      rw [hV, Below.heap_alloc _ _ _ (by simp; omega), Below.heap_alloc _ _ _ (by simp; omega), Below.heap_alloc _ _ _ (by simp; omega), Below.heap_alloc _ _ _ (by simp; omega), Below.heap_alloc _ _ _ hb]
  rw [← hV]
  clear hV
  refine range_order (n := 3) (gf := 212) (m := m) rfl (enters_of Tryz.func212 (by kernel_rfl) rfl) (enc m c) (fun _ => rfl)
    (fun k W => ∃ o0 o1 o2 o3, Path (RoundOk Tryz.prog h is 86 85 (.pointer (some ⟨ig, og, none⟩)) (w4 x0 x1 x2 x3) i off) v ((downs m).drop k) (w4 o0 o1 o2 o3) ∧ Rd E B w0 w h b (.pointer (some ⟨bg, og, none⟩)) (.slice a len cap) x0 x1 x2 x3 o0 o1 o2 o3 W) ?turn ?start ?seq ?round ?done
  case turn =>
    rintro k W r ⟨o0, o1, o2, o3, hp, R⟩
    exact ⟨o0, o1, o2, o3, hp, R.turn hE (keep_put (by omega) _)⟩
  case start =>
    intro r
    exact ⟨0, 0, 0, 0, hp, R0.turn hE ((Keep.alloc _ _ _).trans (Keep.alloc _ _ _))⟩
  case seq =>
    intro l J hJ hY W h0
    refine hback 2 (by omega) l (w.heap.size + 4) J (fun k W' hk => ?_) hY W h0
    obtain ⟨o0, o1, o2, o3, _, R⟩ := hJ k W' hk
    refine ⟨by simp [World.cell?, R.cs], fun j hj => ?_⟩
    rw [cell_same (R.ce (hbm (by omega)))]
    exact hc j hj
  case round =>
    rintro k W r hk ⟨o0, o1, o2, o3, hp, R⟩ hl hd
    rw [hVs] at hl hd ⊢
    rw [downs_drop m k hk] at hp
    obtain ⟨out', ⟨cs, mv, hcs, hcs4, hmv, hfo, ho4, hmul, hadd⟩, hp'⟩ := hp
    have he := hel _ (by omega) cs hcs hcs4
    rw [he] at hadd
    obtain ⟨p0, p1, p2, p3, rfl⟩ := agg4_eq ho4
    dsimp only [enc, el] at hadd ⊢
    generalize c (4 * (m - 1 - k)) = e0, c (4 * (m - 1 - k) + 1) = e1, c (4 * (m - 1 - k) + 2) = e2, c (4 * (m - 1 - k) + 3) = e3 at hadd ⊢
    gi_wp2
    have hlt := (Array.getElem?_eq_some_iff.1 hl).1
    refine ⟨(Below.heap_alloc _ _ _ hlt).trans hl, fun r' => ?_⟩
    obtain ⟨U, hU⟩ : ∃ U, U = (W.alloc (.cells #[.int .u64 e0, .int .u64 e1, .int .u64 e2, .int .u64 e3] 69)).putObj (w.heap.size + 5 + 1) (.loop r') := ⟨_, rfl⟩
    have RU : Rd E B w0 w h b (.pointer (some ⟨bg, og, none⟩)) (.slice a len cap) x0 x1 x2 x3 o0 o1 o2 o3 U := by rw [hU]; exact R.turn hE ((Keep.alloc _ _ _).trans (keep_put (by omega) _))
    have hUa : U.heap[W.heap.size]? = some (.cells #[.int .u64 e0, .int .u64 e1, .int .u64 e2, .int .u64 e3] 69 (0, 0)) := by rw [hU, World.putObj_heap_other (by omega)]; exact World.alloc_heap_new W _
    have hUl : U.heap[w.heap.size + 5 + 1]? = some (.loop r') := by rw [hU]; exact World.putObj_heap_same (by simp; omega)
    have hUd : U.heap[w.heap.size + 5]? = some (.deferred (some [])) := by rw [hU, World.putObj_heap_other (by omega)]; exact (Below.heap_alloc _ _ _ (by omega)).trans hd
    have hUs : U.heap.size = W.heap.size + 1 := by rw [hU]; simp
    rw [← hU]
    clear hU hl hd R
    have hq : w.heap.size + 7 ≤ W.heap.size := by omega
    generalize W.heap.size = q at hUa hUs hq ⊢
    clear hlt W
    refine wpIn_block ?_
    refine region_round Ea.mixed_ok (by kernel_rfl) ?_ ?_
    · rintro ⟨a', w', hh⟩
      simp [Exit.inBlock] at hh
    refine any_tail (S := fun w' => WR E Tryz.prog B w0 w' h ∧ Keep (MineB E h U is) U w') 7 (by kernel_rfl) ⟨RU.wr.drew, (Keep.refl _ U).drew⟩ ?_
    simp only [List.take_succ_cons, List.take_zero, List.drop_succ_cons, List.drop_zero]
    have nm : ∀ k, (k < w.heap.size + 7 ∨ k = q) → w.heap.size ≤ k → k < U.heap.size ∧ ¬ MineB E h U is k := by
      intro k hk hk2
      refine ⟨by omega, ?_⟩
      rintro (⟨j, blk, _, h2, h3⟩ | h2)
      · have := hE j k (by rw [Hp.get_ob h2]; rfl) h3
        omega
      · omega
    have look : ∀ {k : Nat} {o : Obj} {w' : World}, (k < w.heap.size + 7 ∨ k = q) → w.heap.size ≤ k → Keep (MineB E h U is) U w' → U.heap[k]? = some o → w'.heap[k]? = some o := fun hk hk2 hw ho => (hw.block _ (nm _ hk hk2).1 (nm _ hk hk2).2).trans ho
    have more : ∀ {w' w'' : World}, Keep (MineB E h U is) U w' → Keep (MineB E h w' is) w' w'' → Keep (MineB E h U is) U w'' := fun h1 h2 => h1.trans (Keep.sub h2 fun k _ hk => by
      rcases hk with hk | hk
      · exact .inl hk
      · exact .inr (Nat.le_trans h1.size hk))
    refine quiet_val (.pointer (some ⟨bg, og, none⟩)) rfl (fun w' hw' => load_ptr rfl rfl (look (by omega) (by omega) hw'.2 RU.cg)) ?_
    refine quiet_val (.pointer (some ⟨bg, og, none⟩)) rfl (fun w' hw' => load_ptr rfl rfl (look (by omega) (by omega) hw'.2 RU.cg)) ?_
    refine quiet_val (w4 o0 o1 o2 o3) rfl (fun w' hw' => load_nat rfl rfl (look (by omega) (by omega) hw'.2 RU.co)) ?_
    refine quiet_val (w4 x0 x1 x2 x3) rfl (fun w' hw' => load_nat rfl rfl (look (by omega) (by omega) hw'.2 RU.cx)) ?_
    refine quiet_enter mv 86 #[.pointer (some ⟨bg, og, none⟩), w4 o0 o1 o2 o3, w4 x0 x1 x2 x3] rfl (fun w' => ?_) (fun w' hw' => ?_) ?_
    · unfold execOp; simp [resolve, Deferred.ofValue, invoke, Act.eval, Act.put, en86]
    · exact (hmul E B w0 w' [.pointer (some ⟨bg, og, none⟩), w4 o0 o1 o2 o3, w4 x0 x1 x2 x3] hw'.1 ⟨.ptr ig bg og hg, .refl_flat rfl, .refl_flat rfl, trivial⟩).mono fun e w'' he => ⟨he.1, he.2.1, more hw'.2 he.2.2⟩
    refine quiet_val (w4 e0 e1 e2 e3) rfl (fun w' hw' => load_nat rfl rfl (look (by omega) (by omega) hw'.2 hUa)) ?_
    refine quiet_enter (w4 p0 p1 p2 p3) 85 #[.pointer (some ⟨bg, og, none⟩), mv, w4 e0 e1 e2 e3] rfl (fun w' => ?_) (fun w' hw' => ?_) ?_
    · unfold execOp; simp [resolve, Deferred.ofValue, invoke, Act.eval, Act.put, en85]
    · exact (hadd E B w0 w' [.pointer (some ⟨bg, og, none⟩), mv, w4 e0 e1 e2 e3] hw'.1 ⟨.ptr ig bg og hg, .refl_flat hmv, .refl_flat rfl, trivial⟩).mono fun e w'' he => ⟨he.1, he.2.1, more hw'.2 he.2.2⟩
    refine wpQuiet_nil ?_
    rintro X ⟨hw1, hw2⟩
    have hco := look (k := w.heap.size + 3) (by omega) (by omega) hw2 RU.co
    have c0 : X.cell? ⟨w.heap.size + 3, 0, none⟩ = some (.int .u64 o0) := by simp [World.cell?, hco]
    have c1 : X.cell? ⟨w.heap.size + 3, 1, none⟩ = some (.int .u64 o1) := by simp [World.cell?, hco]
    have c2 : X.cell? ⟨w.heap.size + 3, 2, none⟩ = some (.int .u64 o2) := by simp [World.cell?, hco]
    have c3 : X.cell? ⟨w.heap.size + 3, 3, none⟩ = some (.int .u64 o3) := by simp [World.cell?, hco]
    have f0 : X.frozen? ⟨w.heap.size + 3, 0, none⟩ = false := by simp [World.frozen?, hco]
    have f1 : X.frozen? ⟨w.heap.size + 3, 1, none⟩ = false := by simp [World.frozen?, hco]
    have f2 : X.frozen? ⟨w.heap.size + 3, 2, none⟩ = false := by simp [World.frozen?, hco]
    have f3 : X.frozen? ⟨w.heap.size + 3, 3, none⟩ = false := by simp [World.frozen?, hco]
    go_wp2
    rw [show w.heap.size + 1 + 1 + 1 = w.heap.size + 3 from rfl, set4 _ _ _ _ hco]
    have hXs := hw2.size
    have ot : ∀ {k : Nat} {o o' : Obj}, (k < w.heap.size + 7 ∨ k = q) → w.heap.size ≤ k → k ≠ w.heap.size + 3 → U.heap[k]? = some o → (X.putObj (w.heap.size + 3) o').heap[k]? = some o := fun h1 h2 h3 h4 => (World.putObj_heap_other h3).trans (look h1 h2 hw2 h4)
    refine ⟨trivial, ot (by omega) (by omega) (by omega) hUl, ot (by omega) (by omega) (by omega) hUd, p0, p1, p2, p3, hp', hw1.cell (RU.base _ (by omega)) (fun i hi hρ => ?_) _, ?_, ot (by omega) (by omega) (by omega) RU.cg, ot (by omega) (by omega) (by omega) RU.cx, ot (by omega) (by omega) (by omega) RU.cr,
      World.putObj_heap_same (Array.getElem?_eq_some_iff.1 hco).1, ot (by omega) (by omega) (by omega) RU.cs, fun hb => (World.putObj_heap_other (by omega)).trans ((hw2.block b (by omega) ?_).trans (RU.ce hb)), RU.base⟩
    · have := hE i _ hi hρ
      omega
    · have := RU.size
      simp
      omega
    · rintro (⟨j, blk, h1, h2, h3⟩ | h1)
      · exact hbn j blk h1 h2 h3
      · omega
  case done =>
    rintro W ⟨o0, o1, o2, o3, hp, R⟩ hK
    rw [downs_end] at hp
    obtain rfl : w4 o0 o1 o2 o3 = v := hp
    rw [hVs] at hK ⊢
    have c0 : W.cell? ⟨w.heap.size + 3, 0, none⟩ = some (.int .u64 o0) := by simp [World.cell?, R.co]
    have c1 : W.cell? ⟨w.heap.size + 3, 1, none⟩ = some (.int .u64 o1) := by simp [World.cell?, R.co]
    have c2 : W.cell? ⟨w.heap.size + 3, 2, none⟩ = some (.int .u64 o2) := by simp [World.cell?, R.co]
    have c3 : W.cell? ⟨w.heap.size + 3, 3, none⟩ = some (.int .u64 o3) := by simp [World.cell?, R.co]
    have f0 : W.frozen? ⟨w.heap.size + 2, 0, none⟩ = false := by simp [World.frozen?, R.cr]
    have f1 : W.frozen? ⟨w.heap.size + 2, 1, none⟩ = false := by simp [World.frozen?, R.cr]
    have f2 : W.frozen? ⟨w.heap.size + 2, 2, none⟩ = false := by simp [World.frozen?, R.cr]
    have f3 : W.frozen? ⟨w.heap.size + 2, 3, none⟩ = false := by simp [World.frozen?, R.cr]
    have r0 : W.cell? ⟨w.heap.size + 2, 0, none⟩ = some z := by simp [World.cell?, R.cr]
    have r1 : W.cell? ⟨w.heap.size + 2, 1, none⟩ = some z := by simp [World.cell?, R.cr]
    have r2 : W.cell? ⟨w.heap.size + 2, 2, none⟩ = some z := by simp [World.cell?, R.cr]
    have r3 : W.cell? ⟨w.heap.size + 2, 3, none⟩ = some z := by simp [World.cell?, R.cr]
    gi_wp2
    rw [show w.heap.size + 1 + 1 = w.heap.size + 2 from rfl, set4 _ _ _ _ R.cr]
    have hlt := (Array.getElem?_eq_some_iff.1 R.cr).1
    have hK' : (W.putObj (w.heap.size + 2) (.cells #[.int .u64 o0, .int .u64 o1, .int .u64 o2, .int .u64 o3] 69 (0, 0))).heap[w.heap.size + 5]? = some (.deferred (some [])) := (World.putObj_heap_other (by omega)).trans hK
    refine ⟨by simp, .inl ⟨_, _, rfl, run_takeDeferred hK', ?_⟩⟩
    have hr : ((W.putObj (w.heap.size + 2) (.cells #[.int .u64 o0, .int .u64 o1, .int .u64 o2, .int .u64 o3] 69 (0, 0))).putObj (w.heap.size + 5) (.deferred none)).heap[w.heap.size + 2]? = some (.cells #[.int .u64 o0, .int .u64 o1, .int .u64 o2, .int .u64 o3] 69 (0, 0)) :=
      (World.putObj_heap_other (by omega)).trans (World.putObj_heap_same hlt)
    refine ⟨w4 o0 o1 o2 o3, ?_, rfl, (R.wr.cell (R.base _ (by omega)) (fun i hi hρ => ?_) _).cell (R.base _ (by omega)) (fun i hi hρ => ?_) _⟩
    · generalize (W.putObj (w.heap.size + 2) (.cells #[.int .u64 o0, .int .u64 o1, .int .u64 o2, .int .u64 o3] 69 (0, 0))).putObj (w.heap.size + 5) (.deferred none) = Y at hr ⊢
      have h0 : Y.cell? ⟨w.heap.size + 2, 0, none⟩ = some (.int .u64 o0) := by simp [World.cell?, hr]
      have h1 : Y.cell? ⟨w.heap.size + 2, 1, none⟩ = some (.int .u64 o1) := by simp [World.cell?, hr]
      have h2 : Y.cell? ⟨w.heap.size + 2, 2, none⟩ = some (.int .u64 o2) := by simp [World.cell?, hr]
      have h3 : Y.cell? ⟨w.heap.size + 2, 3, none⟩ = some (.int .u64 o3) := by simp [World.cell?, hr]
      simp [results, Tryz.f127, go_sem, h0, h1, h2, h3]
    · have := hE i _ hi hρ
      omega
    · have := hE i _ hi hρ
      omega
end Go.Proofs.YtlagmjdifilheaaGreat.Eh
namespace Go.Proofs.YtlagmjdifilheaaGreat.Eh
open Go Go.RowKit Go.Shelf Exe
theorem cell_fact {E : Env} {B : Nat → Prop} {w0 w : World} {h : Hp} (W : WR E Tryz.prog B w0 w h) {i b o : Nat} {cs : List Value} (hρ : E.ρ i = some b) (hcs : cellsAt h i o 4 = some cs) (h4 : agg4 (.agg cs.toArray) = true) :
    ∃ a0 a1 a2 a3 : Int, cs = [.int .u64 a0, .int .u64 a1, .int .u64 a2, .int .u64 a3] ∧ w.cell? ⟨b, o, none⟩ = some (.int .u64 a0) ∧ w.cell? ⟨b, o + 1, none⟩ = some (.int .u64 a1) ∧ w.cell? ⟨b, o + 2, none⟩ = some (.int .u64 a2) ∧ w.cell? ⟨b, o + 3, none⟩ = some (.int .u64 a3) := by
  obtain ⟨a0, a1, a2, a3, ha⟩ := agg4_eq h4
  have hl : cs = [.int .u64 a0, .int .u64 a1, .int .u64 a2, .int .u64 a3] := by
    have := (Value.agg.inj ha)
    simpa using congrArg Array.toList this
  obtain ⟨blk, hblk, hle, hcs2, _⟩ := cellsAt_eq hcs
  obtain ⟨cur, fr, _, h3, _, h5, _, _⟩ := W.row hblk hρ
  have key : ∀ (j : Nat) (v : Value), leafB v = true → cs[j]? = some v → w.cell? ⟨b, o + j, none⟩ = some v := by
    intro j v hv hj
    rw [hcs2, List.getElem?_take] at hj
    split at hj
    · rw [List.getElem?_drop] at hj
      obtain ⟨x, hx, hr⟩ := h5.get hj
      rw [List.getElem?_take] at hx
      split at hx
      · rw [cell_of h3]
        rw [hr.of_leaf hv] at hx
        simpa using hx
      · cases hx
    · cases hj
  exact ⟨a0, a1, a2, a3, hl, key 0 _ rfl (by rw [hl]; rfl), key 1 _ rfl (by rw [hl]; rfl), key 2 _ rfl (by rw [hl]; rfl), key 3 _ rfl (by rw [hl]; rfl)⟩
theorem reach_not {h : Hp} {is : List Nat} {i : Nat} (hn : is.all (fun j => !(Nat.beq j i)) = true) {E : Env} {B : Nat → Prop} {w0 w : World} (W : WR E Tryz.prog B w0 w h) {b : Nat} {cs : List Value} {o n : Nat} (hcs : cellsAt h i o n = some cs) (hρ : E.ρ i = some b) :
    ∀ j blk, j ∈ is → h.get j = some blk → E.ρ j ≠ some b := by
  intro j blk hj hb he
  obtain ⟨blk', hblk', _⟩ := cellsAt_eq hcs
  have hji := W.inj j i b (by rw [Hp.get_ob hb]; rfl) (by rw [Hp.get_ob hblk']; rfl) he hρ
  have := List.all_eq_true.1 hn j hj
  rw [hji] at this
  simp at this
theorem evalT_ok (F : CallC) (hF : CallSound Tryz.prog F) : OneSound Tryz.prog 127 (evalT 86 85 F) := by
  have en127 : ∀ args w, (callFunc 127 args).run Tryz.prog w = .ok (.enter 127 args) w := enters_of Tryz.func127 (by kernel_rfl) rfl
  have en86 : ∀ args w, (callFunc 86 args).run Tryz.prog w = .ok (.enter 86 args) w := enters_of Tryz.func86 (by kernel_rfl) rfl
  have en85 : ∀ args w, (callFunc 85 args).run Tryz.prog w = .ok (.enter 85 args) w := enters_of Tryz.func85 (by kernel_rfl) rfl
  intro args h k hr
  unfold evalT at hr
  split at hr
  · rename_i ig og xs x
    simp only [Bool.and_eq_true] at hr
    obtain ⟨hx4, hr⟩ := hr
    obtain ⟨x0, x1, x2, x3, rfl⟩ := agg4_eq hx4
    split at hr
    · rename_i cap
      refine ⟨nat4 0, h, hr, fun E w args' W hA => .inl ⟨en127 _ w, ?_⟩⟩
      match args', hA with
      | [g', s', x'], hA =>
        obtain ⟨bg, hg, rfl⟩ := hA.1.to_ptr
        obtain rfl := hA.2.2.1.of_flat rfl
        obtain ⟨a', cap', rfl, hn, _⟩ := hA.2.1.to_slice'
        obtain ⟨rfl, rfl⟩ := hn rfl
        exact (eval_walk W hg (back0 0 0 _ (fun _ => 0)) (i := 0) (is := []) (fun k hk => absurd hk (Nat.not_lt_zero k)) (fun j hj => absurd hj (by omega)) (fun hm => absurd hm (by omega)) (fun j blk hj => absurd hj (List.not_mem_nil)) (show Path _ (nat4 0) (downs 0) (nat4 0) from rfl)).mono
          fun e w' he => ⟨nat4 0, he.1, E, Grow.refl E h, .refl_flat rfl, he.2⟩
    · rename_i i off len cap
      cases hb : (Nat.ble 1 len && Nat.ble len 2 && (reachN h 3 [.pointer (some ⟨ig, og, none⟩)]).all (fun j => !(Nat.beq j i))) with
      | false => rw [hb] at hr; cases hr
      | true =>
        rw [hb] at hr
        simp only [Bool.and_eq_true] at hb
        obtain ⟨⟨hl1, hl2⟩, hn⟩ := hb
        have hl1 := Nat.le_of_ble_eq_true hl1
        have hl2 := Nat.le_of_ble_eq_true hl2
        have hr' : pathB (roundK 86 85 F (reachN h 3 [.pointer (some ⟨ig, og, none⟩)]) (.pointer (some ⟨ig, og, none⟩)) (w4 x0 x1 x2 x3) i off h) (fun v => k v h) (downs len) (nat4 0) = true := hr
        obtain ⟨v, hv, hp⟩ := path_ok (S := RoundOk Tryz.prog h (reachN h 3 [.pointer (some ⟨ig, og, none⟩)]) 86 85 (.pointer (some ⟨ig, og, none⟩)) (w4 x0 x1 x2 x3) i off) (fun k out c hh => round_ok hF en86 en85 hh) _ _ hr'
        obtain rfl | rfl : len = 1 ∨ len = 2 := by omega
        · have hp2 := hp
          obtain ⟨o1, ⟨cs0, mv, hcs0, h40, _, hfl, _⟩, rfl⟩ := hp2
          refine ⟨o1, h, hv, fun E w args' W hA => .inl ⟨en127 _ w, ?_⟩⟩
          match args', hA with
          | [g', s', x'], hA =>
            obtain ⟨bg, hg, rfl⟩ := hA.1.to_ptr
            obtain rfl := hA.2.2.1.of_flat rfl
            obtain ⟨b, c', hρ, rfl, _⟩ := hA.2.1.to_slice
            obtain ⟨a0, a1, a2, a3, e0, f0, f1, f2, f3⟩ := cell_fact W hρ hcs0 h40
            have hblt : b < w.heap.size := by
              obtain ⟨blk, hblk, _⟩ := cellsAt_eq hcs0
              exact W.lt (by rw [Hp.get_ob hblk]; rfl) hρ
            refine (eval_walk W hg (back1 b off _ (fun j => [a0, a1, a2, a3].getD j 0)) (fun k hk cs hcs _ => ?_) (fun j hj => ?_) (fun _ => hblt) (reach_not hn W hcs0 hρ) hp).mono fun e w' he => ⟨o1, he.1, E, Grow.refl E h, .refl_flat hfl, he.2⟩
            · obtain rfl : k = 0 := by omega
              rw [hcs0] at hcs
              cases hcs
              rw [e0]
              rfl
            · match j, hj with
              | 0, _ => exact f0
              | 1, _ => exact f1
              | 2, _ => exact f2
              | 3, _ => exact f3
        · have hp2 := hp
          obtain ⟨o1, ⟨cs1, mv1, hcs1, h41, _⟩, o2, ⟨cs0, mv, hcs0, h40, _, hfl, _⟩, rfl⟩ := hp2
          refine ⟨o2, h, hv, fun E w args' W hA => .inl ⟨en127 _ w, ?_⟩⟩
          match args', hA with
          | [g', s', x'], hA =>
            obtain ⟨bg, hg, rfl⟩ := hA.1.to_ptr
            obtain rfl := hA.2.2.1.of_flat rfl
            obtain ⟨b, c', hρ, rfl, _⟩ := hA.2.1.to_slice
            obtain ⟨a0, a1, a2, a3, e0, f0, f1, f2, f3⟩ := cell_fact W hρ hcs0 h40
            obtain ⟨a4, a5, a6, a7, e4, f4, f5, f6, f7⟩ := cell_fact W hρ hcs1 h41
            have hblt : b < w.heap.size := by
              obtain ⟨blk, hblk, _⟩ := cellsAt_eq hcs0
              exact W.lt (by rw [Hp.get_ob hblk]; rfl) hρ
            refine (eval_walk W hg (back2 b off _ (fun j => [a0, a1, a2, a3, a4, a5, a6, a7].getD j 0)) (fun k hk cs hcs _ => ?_) (fun j hj => ?_) (fun _ => hblt) (reach_not hn W hcs0 hρ) hp).mono fun e w' he => ⟨o2, he.1, E, Grow.refl E h, .refl_flat hfl, he.2⟩
            · obtain rfl | rfl : k = 0 ∨ k = 1 := by omega
              · rw [hcs0] at hcs
                cases hcs
                rw [e0]
                rfl
              · rw [hcs1] at hcs
                cases hcs
                rw [e4]
                rfl
            · match j, hj with
              | 0, _ => exact f0
              | 1, _ => exact f1
              | 2, _ => exact f2
              | 3, _ => exact f3
              | 4, _ => exact f4
              | 5, _ => exact f5
              | 6, _ => exact f6
              | 7, _ => exact f7
    · cases hr
  · cases hr
end Go.Proofs.YtlagmjdifilheaaGreat.Eh
