/- A source of bytes: bytes are asked for. Conditions: those that are named. -/
import Derived.Test.YticegglphmgoaaaDrC
import Derived.Deep.LoopGhost
namespace Go.Proofs.Yticegglphmgoaaa.Sha
open Go.RowKit
open Blk (nats)
/-- The value of a source after so many rounds. -/
def dbv (k v : List UInt8) : Nat → List UInt8
  | 0 => v
  | j + 1 => hmac k (dbv k v j)
/-- What so many rounds tell. -/
def dbo (k v : List UInt8) : Nat → List UInt8
  | 0 => []
  | j + 1 => dbo k v j ++ dbv k v (j + 1)
theorem dbv_length (k v : List UInt8) (hv : v.length = 32) (j : Nat) : (dbv k v j).length = 32 := by
  cases j with
  | zero => exact hv
  | succ j => exact hmac_length _ _
theorem dbo_length (k v : List UInt8) (hv : v.length = 32) (j : Nat) : (dbo k v j).length = 32 * j := by
  induction j with
  | zero => rfl
  | succ j ih => rw [dbo, List.length_append, ih, dbv_length k v hv]; omega
theorem dbv_succ (k v x y : List UInt8) (j : Nat) (hx : dbv k v j = x) (hy : hmac k x = y) : dbv k v (j + 1) = y := by subst hx hy; rfl
theorem dbo_succ (k v x y : List UInt8) (j : Nat) (hx : dbv k v (j + 1) = x) (hy : dbo k v j = y) : dbo k v (j + 1) = y ++ x := by subst hx hy; rfl
/-- A source that is asked, dba of its rounds. -/
def dba (s : List UInt8 × List UInt8) (more : List UInt8) : List UInt8 × List UInt8 := if more = [] then s else stir s more
/-- How many rounds. -/
def rnds (n : Nat) : Nat := (n + 31) / 32
/-- What a source that is asked is behind it. -/
def served (s : List UInt8 × List UInt8) (n : Nat) (more : List UInt8) : List UInt8 × List UInt8 := stir ((dba s more).1, dbv (dba s more).1 (dba s more).2 (rnds n)) more
/-- What a source that is asked tells. -/
def told (s : List UInt8 × List UInt8) (n : Nat) (more : List UInt8) : List UInt8 := (dbo (dba s more).1 (dba s more).2 (rnds n)).take n
theorem byteCells_append (a b : List UInt8) : Lib.byteCells a ++ Lib.strCells ⟨b.toArray⟩ = Lib.byteCells (a ++ b) := by simp [Lib.byteCells, Lib.strCells]
theorem byteCells_length (a : List UInt8) : (Lib.byteCells a).length = a.length := by simp [Lib.byteCells]
theorem builder_below {B b : Nat} {bs : List Value} {w w' : World} (h : Lib.IsBuilder 94 5 B b bs w) (hb : Below w.heap.size w w') : Lib.IsBuilder 94 5 B b bs w' := by
  have go : ∀ p, Lib.BuilderAt 94 5 B b p bs w → Lib.BuilderAt 94 5 B b p bs w' := by
    intro p h
    have hlt := h.lt
    obtain ⟨hB, v, hv, hown, hne⟩ := h
    exact ⟨hB, v, (hb.block b hlt).trans hv, hown.kept (row := none) ⟨hb.os, hb.tape, hb.output, hb.size, fun k hk _ => hb.block k hk⟩ (Classical.em _), hne⟩
  exact h.imp (go _) (go _)
theorem builder_set {B b : Nat} {bs : List Value} {w : World} (h : Lib.IsBuilder 94 5 B b bs w) (p : Addr) (hp : p.block < B) (x : Value) : Lib.IsBuilder 94 5 B b bs (w.setCell p x) := by
  have go : ∀ q, Lib.BuilderAt 94 5 B b q bs w → Lib.BuilderAt 94 5 B b q bs (w.setCell p x) := by
    intro q h
    obtain ⟨hB, v, hv, hown, hne⟩ := h
    refine ⟨hB, v, ?_, ?_, hne⟩
    · rw [Below.heap_setCell _ _ _ _ (by omega)]
      exact hv
    · refine hown.kept (row := some p.block) ⟨rfl, rfl, rfl, by simp [World.setCell], fun k _ hk => Below.heap_setCell _ _ _ _ (fun e => hk (by simp [e]))⟩ (Or.inr ?_)
      intro e
      have := (hown.lt _ e).1
      omega
  exact h.imp (go _) (go _)
theorem builder_lt {B b : Nat} {bs : List Value} {w : World} (h : Lib.IsBuilder 94 5 B b bs w) : B ≤ b ∧ b < w.heap.size := by
  rcases h with h | h
  · exact ⟨h.1, h.lt⟩
  · exact ⟨h.1, h.lt⟩
theorem builder_only {B b c : Nat} {bs : List Value} {w w' : World} (h : Lib.IsBuilder 94 5 B b bs w) (ho : Only c w w') (hc : c < B) : Lib.IsBuilder 94 5 B b bs w' := by
  have go : ∀ p, Lib.BuilderAt 94 5 B b p bs w → Lib.BuilderAt 94 5 B b p bs w' := by
    intro p h
    have hlt := h.lt
    obtain ⟨hB, v, hv, hown, hne⟩ := h
    refine ⟨hB, v, (ho.block b hlt (by omega)).trans hv, hown.kept (row := some c) ⟨ho.os, ho.tape, ho.output, ho.size, fun k hk hne => ho.block k hk (fun e => hne (by rw [e]))⟩ (Or.inr ?_), hne⟩
    intro e
    have := (hown.lt _ e).1
    omega
  exact h.imp (go _) (go _)
theorem text_cut (l : List UInt8) (n : Nat) : (⟨l.toArray⟩ : ByteArray).extract 0 n = ⟨(l.take n).toArray⟩ := by
  apply ByteArray.ext
  simp [ByteArray.data_extract]
theorem len_any (B b : Nat) (l : List UInt8) (L : Nat) (hl : l.length = L) (w : World) (h : Lib.IsBuilder 94 5 B b (Lib.byteCells l) w) :
    Calls Try.prog 64 #[.pointer (some ⟨b, 0, none⟩)] w fun e w' => e = .returned (.int .i64 L) ∧ w = w' := by
  subst hl
  refine (Shl.Builder_Len B b _ w h).mono ?_
  rw [byteCells_length]
  rintro e w1 ⟨rfl, rfl⟩
  exact ⟨rfl, rfl⟩
theorem write_any (B b : Nat) (l s : List UInt8) (w : World) (h : Lib.IsBuilder 94 5 B b (Lib.byteCells l) w) (hlen : l.length + s.length ≤ 140737488355328) (hBw : B ≤ w.heap.size) :
    Calls Try.prog 65 #[.pointer (some ⟨b, 0, none⟩), .string ⟨s.toArray⟩] w fun e w' => e = .returned (.tuple #[.int .i64 s.length, .nilIface]) ∧ Lib.IsBuilder 94 5 B b (Lib.byteCells (l ++ s)) w' ∧ Below B w w' := by
  refine (Shl.Builder_WriteString B b _ ⟨s.toArray⟩ w h (by rw [byteCells_length]; exact hlen) hBw).mono ?_
  rw [byteCells_append]
  rintro e w1 ⟨rfl, h1, h2⟩
  exact ⟨rfl, .inr h1, h2⟩
attribute [local irreducible] hmac stir stir1 dbv dbo told served dba
set_option maxHeartbeats 8000000 in
set_option maxRecDepth 100000 in
theorem bytes_nil (k v more k1 v1 : List UInt8) (t n : Nat) (b : Nat) (w : World) (hb : Blk.Is w b (sc k v t) 76) (hk : k.length = 32) (_hv : v.length = 32) (ht : t < 1000) (hn : n ≤ 8192) (hm : more.length ≤ 1024) (hne : more = []) (hah : dba (k, v) more = (k1, v1)) (hk1 : k1.length = 32) (hv1 : v1.length = 32) :
    Calls Try.prog 43 #[.pointer (some ⟨b, 0, none⟩), .int .i64 n, .string ⟨more.toArray⟩] w fun e w' => e = .returned (.tuple #[.string ⟨(told (k, v) n more).toArray⟩, .int .i64 0]) ∧ Blk.Is w' b (sc (served (k, v) n more).1 (served (k, v) n more).2 ((t : Int) + 1)) 76 ∧ Only b w w' := by
  have HB := Lib.hid hb
  have HA := Lib.hid hah
  have hbl := hb.lt
  obtain ⟨R, hR⟩ : ∃ R, rnds n = R := ⟨_, rfl⟩
  have hR1 : n ≤ 32 * R := by rw [← hR]; unfold rnds; omega
  have hR2 : 32 * R < n + 32 := by rw [← hR]; unfold rnds; omega
  have HR := Lib.hid hR
  have c3 : w.cell? ⟨b, 2, none⟩ = some (.int .i64 t) := hb.cell 2
  have d1 : decide ((n : Int) < 0) = false := decide_eq_false (by omega)
  have d2 : decide ((n : Int) > 8192) = false := decide_eq_false (by omega)
  have d3 : decide ((more.length : Int) > 1024) = false := decide_eq_false (by omega)
  have d4 : decide ((t : Int) ≥ 1000) = false := decide_eq_false (by omega)
  have d5 : (more != []) = false := by simpa using hne
  have d6 : more.isEmpty = true := by simpa using hne
  have hkk : k = k1 ∧ v = v1 := by
    have : dba (k, v) more = (k, v) := by unfold dba; rw [if_pos hne]
    rw [this] at hah
    injection hah with a1 a2
    exact ⟨a1, a2⟩
  clear hb hah hR hne
  obtain ⟨hkk1, hkk2⟩ := hkk
  obtain ⟨w0, hw0⟩ : ∃ w0, w0 = w := ⟨_, rfl⟩
  have o1 : Only b w w := Only.refl b w
  have hb1 : Blk.Is w b (sc k1 v1 t) 76 := by rw [← hkk1, ← hkk2]; exact HB.out
  have HKK := Lib.hid (And.intro hkk1 hkk2)
  clear hkk1 hkk2 hw0
  go_enter Try.func43, Try.ntmps43
  go_wp2_with fail
  refine (given_yes k v t b _ HB.out hk).mono ?_
  rintro e w1 ⟨rfl, rfl⟩
  have HO1 := Lib.hid o1
  have HB1 := Lib.hid hb1
  clear o1 hb1
  have hi := Lib.fresh_isBuilder 94 5 w
  have ba := HB1.out.alloc (.cells #[.pointer none, .slice none 0 0] 94)
  have oa := HO1.out.alloc (.cells #[.pointer none, .slice none 0 0] 94)
  obtain ⟨B, hB⟩ : ∃ B, B = w.heap.size := ⟨_, rfl⟩
  have hbB : b < B := by rw [hB]; exact HB1.out.lt
  have hwB : w.heap.size ≤ B := by rw [hB]; exact HO1.out.size
  rw [← hB] at hi
  have HI := Lib.hid hi
  have BA := Lib.hid ba
  have OA := Lib.hid oa
  clear hi ba oa HO1 HB1
  go_wp2_with fail
  rw [← hB]
  go_loopg [] R (fun j wr => ∃ i : Nat, i + j = R ∧ Lib.IsBuilder 94 5 B B (Lib.byteCells (dbo k1 v1 i)) wr ∧ Blk.Is wr b (sc k1 (dbv k1 v1 i) t) 76 ∧ Only b w wr)
  case atStart => exact ⟨0, by omega, (by rw [dbo]; exact HI.out), (by rw [dbv]; exact BA.out), OA.out⟩
  case round =>
    clear HI BA OA hB
    obtain ⟨i, hij, hI, hb2, o2⟩ := hrel
    obtain ⟨x, hx⟩ : ∃ x, dbv k1 v1 i = x := ⟨_, rfl⟩
    obtain ⟨y, hy⟩ : ∃ y, dbo k1 v1 i = y := ⟨_, rfl⟩
    rw [hx] at hb2
    rw [hy] at hI
    have hxl : x.length = 32 := by rw [← hx]; exact dbv_length k1 v1 hv1 i
    have hyl : y.length = 32 * i := by rw [← hy]; exact dbo_length k1 v1 hv1 i
    obtain ⟨L, hL⟩ : ∃ L, L = 32 * i := ⟨_, rfl⟩
    rw [← hL] at hyl
    have HX := Lib.hid hx
    have HY := Lib.hid hy
    have HI := Lib.hid hI
    have HB2 := Lib.hid hb2
    have HO2 := Lib.hid o2
    clear hx hy hI hb2 o2
    go_wp2_with fail
    refine (len_any B B y L hyl wr HI.out).mono ?_
    rintro e w2 ⟨rfl, rfl⟩
    by_cases hc : i < R
    · have hcd : decide ((L : Int) < (n : Int)) = true := decide_eq_true (by omega)
      go_wp2_with fail
      have q0 := Cls.Wd.cell (w0 := wr.drew) (p := ⟨b, 0, none⟩) (v := .string ⟨k1.toArray⟩) (HB2.out.cell 0)
      have q1 := Cls.Wd.cell (w0 := wr.drew) (p := ⟨b, 1, none⟩) (v := .string ⟨x.toArray⟩) (HB2.out.cell 1)
      refine Cls.region_tail (S := Cls.Kept _) 12 (by kernel_rfl) (by kernel_rfl) (Below.refl _ _) ?_
      simp only [List.take_succ_cons, List.take_zero, List.drop_succ_cons, List.drop_zero]
      iterate 9 (go_big_quiet_step (fail))
      go_big_quiet_step ((go_at_call 27; with_reducible refine Cls.calls_kept (hsum_any k1 x _ (by omega) (by omega))))
      iterate 2 (go_big_quiet_step (fail))
      refine wpQuiet_nil ?_
      intro w4 hw4
      generalize hz : hmac k1 x = z
      have HZ := Lib.hid hz
      have hzl : z.length = 32 := by rw [← hz]; exact hmac_length _ _
      have i4 := Blk.Is.below (w := wr.drew) HB2.out hw4
      have f4 := i4.frozen 1
      have c4 : w4.cell? ⟨b, 1, none⟩ = some (.string ⟨x.toArray⟩) := i4.cell 1
      have o4 : Only b w w4 := (HO2.out.drew).trans (Only.of hw4)
      have i5 := i4.set 1 (.string ⟨z.toArray⟩)
      have o5 := o4.setCell (p := ⟨b, 1, none⟩) rfl (.string ⟨z.toArray⟩)
      have b5 := builder_set (builder_below (w := wr.drew) HI.out hw4) ⟨b, 1, none⟩ hbB (.string ⟨z.toArray⟩)
      have I5 := Lib.hid i5
      have O5 := Lib.hid o5
      have B5 := Lib.hid b5
      clear hz hw4 i4 o4 i5 o5 b5 q0 q1 HI HB2 HO2
      go_wp2_with fail
      clear f4 c4
      generalize w4.setCell ⟨b, 1, none⟩ (.string ⟨z.toArray⟩) = w5 at I5 O5 B5 ⊢
      have c5 : w5.cell? ⟨b, 1, none⟩ = some (.string ⟨z.toArray⟩) := I5.out.cell 1
      have hs5 := (builder_lt B5.out).2
      go_wp2_with fail
      refine (write_any B B y z w5 B5.out (by omega) (by omega)).mono ?_
      rintro e w6 ⟨rfl, b6, k6⟩
      have i6 := I5.out.keep k6 hbB
      have o6 := O5.out.belowB k6 hwB
      have e1 := dbv_succ k1 v1 x z i HX.out HZ.out
      have e2 := dbo_succ k1 v1 z y i e1 HY.out
      rw [← e1] at i6
      rw [← e2] at b6
      have I6 := Lib.hid i6
      have O6 := Lib.hid o6
      have B6 := Lib.hid b6
      clear e1 e2 i6 o6 b6 I5 O5 B5 k6 HX HY HZ c5 hs5
      go_wp2_with fail
      go_roundg (R - (i + 1))
      case measure => omega
      case rel => exact ⟨i + 1, by omega, B6.out, I6.out, O6.out⟩
    · have hcd : decide ((L : Int) < (n : Int)) = false := decide_eq_false (by omega)
      obtain rfl : i = R := by omega
      go_wp2_with fail
      refine (stirs_any k1 x more t b wr HB2.out (by omega) (by omega) (by omega)).mono ?_
      rintro e w3 ⟨rfl, hb3, o3⟩
      rw [show stir (k1, x) more = served (k, v) n more by unfold served; rw [HA.out, HR.out, ← HX.out]] at hb3
      generalize hsv : served (k, v) n more = sv at hb3
      have HSV := Lib.hid hsv
      clear hsv
      have c3 : w3.cell? ⟨b, 2, none⟩ = some (.int .i64 t) := hb3.cell 2
      have f3 := hb3.frozen 2
      have hb4 := hb3.set 2 (.int .i64 ((t : Int) + 1))
      have o4 := (HO2.out.trans o3).setCell (p := ⟨b, 2, none⟩) rfl (.int .i64 ((t : Int) + 1))
      have b3 : Lib.IsBuilder 94 5 B B (Lib.byteCells y) w3 := builder_only HI.out o3 hbB
      have b4 := builder_set b3 ⟨b, 2, none⟩ hbB (.int .i64 ((t : Int) + 1))
      have hs4 := (builder_lt b4).2
      have I4 := Lib.hid hb4
      have O4 := Lib.hid o4
      have B4 := Lib.hid b4
      clear hb3 o3 hb4 o4 b3 b4 HI HB2 HO2
      have ht2 : (t : Int) + 1 ≤ 1000 := by omega
      go_wp2_with fail
      clear c3 f3
      generalize w3.setCell ⟨b, 2, none⟩ (.int .i64 ((t : Int) + 1)) = w4 at I4 O4 B4 hs4 ⊢
      refine (Shl.Builder_String_any B B y w4 B4.out (by omega)).mono ?_
      rintro e w5 ⟨rfl, k5⟩
      have i5 := I4.out.keep k5 hbB
      have o5 := O4.out.belowB k5 hwB
      have I5 := Lib.hid i5
      have O5 := Lib.hid o5
      clear i5 o5 I4 O4 B4 k5
      have g1 : (n : Int) ≤ (y.length : Int) := by rw [hyl]; omega
      have etold : told (k, v) n more = y.take n := by unfold told; rw [HA.out, HR.out, ← HY.out]
      have HT := Lib.hid etold
      clear etold
      have HTC := Lib.hid (text_cut y n)
      go_wp2
      exact bodyPost_ret (results_pair rfl _ _ _ _ rfl rfl) rfl ⟨by rw [HT.out, ← HTC.out]; rfl, (by rw [HSV.out]; exact I5.out), O5.out⟩
set_option maxHeartbeats 8000000 in
set_option maxRecDepth 100000 in
theorem bytes_cons (k v more k1 v1 : List UInt8) (t n : Nat) (b : Nat) (w : World) (hb : Blk.Is w b (sc k v t) 76) (hk : k.length = 32) (hv : v.length = 32) (ht : t < 1000) (hn : n ≤ 8192) (hm : more.length ≤ 1024) (hne : more ≠ []) (hah : dba (k, v) more = (k1, v1)) (hk1 : k1.length = 32) (hv1 : v1.length = 32) :
    Calls Try.prog 43 #[.pointer (some ⟨b, 0, none⟩), .int .i64 n, .string ⟨more.toArray⟩] w fun e w' => e = .returned (.tuple #[.string ⟨(told (k, v) n more).toArray⟩, .int .i64 0]) ∧ Blk.Is w' b (sc (served (k, v) n more).1 (served (k, v) n more).2 ((t : Int) + 1)) 76 ∧ Only b w w' := by
  have HB := Lib.hid hb
  have HA := Lib.hid hah
  have hbl := hb.lt
  obtain ⟨R, hR⟩ : ∃ R, rnds n = R := ⟨_, rfl⟩
  have hR1 : n ≤ 32 * R := by rw [← hR]; unfold rnds; omega
  have hR2 : 32 * R < n + 32 := by rw [← hR]; unfold rnds; omega
  have HR := Lib.hid hR
  have c3 : w.cell? ⟨b, 2, none⟩ = some (.int .i64 t) := hb.cell 2
  have d1 : decide ((n : Int) < 0) = false := decide_eq_false (by omega)
  have d2 : decide ((n : Int) > 8192) = false := decide_eq_false (by omega)
  have d3 : decide ((more.length : Int) > 1024) = false := decide_eq_false (by omega)
  have d4 : decide ((t : Int) ≥ 1000) = false := decide_eq_false (by omega)
  have d5 : (more != []) = true := by simpa using hne
  have d6 : more.isEmpty = false := by simpa using hne
  clear hb hah hR
  go_enter Try.func43, Try.ntmps43
  go_wp2_with fail
  refine (given_yes k v t b _ HB.out hk).mono ?_
  rintro e w1 ⟨rfl, rfl⟩
  go_wp2_with fail
  refine (stirs_any k v more t b _ HB.out (by omega) (by omega) (by omega)).mono ?_
  rintro e w1 ⟨rfl, hb1, o1⟩
  rw [show stir (k, v) more = (k1, v1) by rw [← HA.out]; unfold dba; rw [if_neg hne]] at hb1
  replace hb1 : Blk.Is w1 b (sc k1 v1 t) 76 := hb1
  clear HB c3
  have HO1 := Lib.hid o1
  have HB1 := Lib.hid hb1
  clear o1 hb1
  have hi := Lib.fresh_isBuilder 94 5 w1
  have ba := HB1.out.alloc (.cells #[.pointer none, .slice none 0 0] 94)
  have oa := HO1.out.alloc (.cells #[.pointer none, .slice none 0 0] 94)
  obtain ⟨B, hB⟩ : ∃ B, B = w1.heap.size := ⟨_, rfl⟩
  have hbB : b < B := by rw [hB]; exact HB1.out.lt
  have hwB : w.heap.size ≤ B := by rw [hB]; exact HO1.out.size
  rw [← hB] at hi
  have HI := Lib.hid hi
  have BA := Lib.hid ba
  have OA := Lib.hid oa
  clear hi ba oa HO1 HB1
  go_wp2_with fail
  rw [← hB]
  go_loopg [] R (fun j wr => ∃ i : Nat, i + j = R ∧ Lib.IsBuilder 94 5 B B (Lib.byteCells (dbo k1 v1 i)) wr ∧ Blk.Is wr b (sc k1 (dbv k1 v1 i) t) 76 ∧ Only b w wr)
  case atStart => exact ⟨0, by omega, (by rw [dbo]; exact HI.out), (by rw [dbv]; exact BA.out), OA.out⟩
  case round =>
    clear HI BA OA hB
    obtain ⟨i, hij, hI, hb2, o2⟩ := hrel
    obtain ⟨x, hx⟩ : ∃ x, dbv k1 v1 i = x := ⟨_, rfl⟩
    obtain ⟨y, hy⟩ : ∃ y, dbo k1 v1 i = y := ⟨_, rfl⟩
    rw [hx] at hb2
    rw [hy] at hI
    have hxl : x.length = 32 := by rw [← hx]; exact dbv_length k1 v1 hv1 i
    have hyl : y.length = 32 * i := by rw [← hy]; exact dbo_length k1 v1 hv1 i
    obtain ⟨L, hL⟩ : ∃ L, L = 32 * i := ⟨_, rfl⟩
    rw [← hL] at hyl
    have HX := Lib.hid hx
    have HY := Lib.hid hy
    have HI := Lib.hid hI
    have HB2 := Lib.hid hb2
    have HO2 := Lib.hid o2
    clear hx hy hI hb2 o2
    go_wp2_with fail
    refine (len_any B B y L hyl wr HI.out).mono ?_
    rintro e w2 ⟨rfl, rfl⟩
    by_cases hc : i < R
    · have hcd : decide ((L : Int) < (n : Int)) = true := decide_eq_true (by omega)
      go_wp2_with fail
      have q0 := Cls.Wd.cell (w0 := wr.drew) (p := ⟨b, 0, none⟩) (v := .string ⟨k1.toArray⟩) (HB2.out.cell 0)
      have q1 := Cls.Wd.cell (w0 := wr.drew) (p := ⟨b, 1, none⟩) (v := .string ⟨x.toArray⟩) (HB2.out.cell 1)
      refine Cls.region_tail (S := Cls.Kept _) 12 (by kernel_rfl) (by kernel_rfl) (Below.refl _ _) ?_
      simp only [List.take_succ_cons, List.take_zero, List.drop_succ_cons, List.drop_zero]
      iterate 9 (go_big_quiet_step (fail))
      go_big_quiet_step ((go_at_call 27; with_reducible refine Cls.calls_kept (hsum_any k1 x _ (by omega) (by omega))))
      iterate 2 (go_big_quiet_step (fail))
      refine wpQuiet_nil ?_
      intro w4 hw4
      generalize hz : hmac k1 x = z
      have HZ := Lib.hid hz
      have hzl : z.length = 32 := by rw [← hz]; exact hmac_length _ _
      have i4 := Blk.Is.below (w := wr.drew) HB2.out hw4
      have f4 := i4.frozen 1
      have c4 : w4.cell? ⟨b, 1, none⟩ = some (.string ⟨x.toArray⟩) := i4.cell 1
      have o4 : Only b w w4 := (HO2.out.drew).trans (Only.of hw4)
      have i5 := i4.set 1 (.string ⟨z.toArray⟩)
      have o5 := o4.setCell (p := ⟨b, 1, none⟩) rfl (.string ⟨z.toArray⟩)
      have b5 := builder_set (builder_below (w := wr.drew) HI.out hw4) ⟨b, 1, none⟩ hbB (.string ⟨z.toArray⟩)
      have I5 := Lib.hid i5
      have O5 := Lib.hid o5
      have B5 := Lib.hid b5
      clear hz hw4 i4 o4 i5 o5 b5 q0 q1 HI HB2 HO2
      go_wp2_with fail
      clear f4 c4
      generalize w4.setCell ⟨b, 1, none⟩ (.string ⟨z.toArray⟩) = w5 at I5 O5 B5 ⊢
      have c5 : w5.cell? ⟨b, 1, none⟩ = some (.string ⟨z.toArray⟩) := I5.out.cell 1
      have hs5 := (builder_lt B5.out).2
      go_wp2_with fail
      refine (write_any B B y z w5 B5.out (by omega) (by omega)).mono ?_
      rintro e w6 ⟨rfl, b6, k6⟩
      have i6 := I5.out.keep k6 hbB
      have o6 := O5.out.belowB k6 hwB
      have e1 := dbv_succ k1 v1 x z i HX.out HZ.out
      have e2 := dbo_succ k1 v1 z y i e1 HY.out
      rw [← e1] at i6
      rw [← e2] at b6
      have I6 := Lib.hid i6
      have O6 := Lib.hid o6
      have B6 := Lib.hid b6
      clear e1 e2 i6 o6 b6 I5 O5 B5 k6 HX HY HZ c5 hs5
      go_wp2_with fail
      go_roundg (R - (i + 1))
      case measure => omega
      case rel => exact ⟨i + 1, by omega, B6.out, I6.out, O6.out⟩
    · have hcd : decide ((L : Int) < (n : Int)) = false := decide_eq_false (by omega)
      obtain rfl : i = R := by omega
      go_wp2_with fail
      refine (stirs_any k1 x more t b wr HB2.out (by omega) (by omega) (by omega)).mono ?_
      rintro e w3 ⟨rfl, hb3, o3⟩
      rw [show stir (k1, x) more = served (k, v) n more by unfold served; rw [HA.out, HR.out, ← HX.out]] at hb3
      generalize hsv : served (k, v) n more = sv at hb3
      have HSV := Lib.hid hsv
      clear hsv
      have c3 : w3.cell? ⟨b, 2, none⟩ = some (.int .i64 t) := hb3.cell 2
      have f3 := hb3.frozen 2
      have hb4 := hb3.set 2 (.int .i64 ((t : Int) + 1))
      have o4 := (HO2.out.trans o3).setCell (p := ⟨b, 2, none⟩) rfl (.int .i64 ((t : Int) + 1))
      have b3 : Lib.IsBuilder 94 5 B B (Lib.byteCells y) w3 := builder_only HI.out o3 hbB
      have b4 := builder_set b3 ⟨b, 2, none⟩ hbB (.int .i64 ((t : Int) + 1))
      have hs4 := (builder_lt b4).2
      have I4 := Lib.hid hb4
      have O4 := Lib.hid o4
      have B4 := Lib.hid b4
      clear hb3 o3 hb4 o4 b3 b4 HI HB2 HO2
      have ht2 : (t : Int) + 1 ≤ 1000 := by omega
      go_wp2_with fail
      clear c3 f3
      generalize w3.setCell ⟨b, 2, none⟩ (.int .i64 ((t : Int) + 1)) = w4 at I4 O4 B4 hs4 ⊢
      refine (Shl.Builder_String_any B B y w4 B4.out (by omega)).mono ?_
      rintro e w5 ⟨rfl, k5⟩
      have i5 := I4.out.keep k5 hbB
      have o5 := O4.out.belowB k5 hwB
      have I5 := Lib.hid i5
      have O5 := Lib.hid o5
      clear i5 o5 I4 O4 B4 k5
      have g1 : (n : Int) ≤ (y.length : Int) := by rw [hyl]; omega
      have etold : told (k, v) n more = y.take n := by unfold told; rw [HA.out, HR.out, ← HY.out]
      have HT := Lib.hid etold
      clear etold
      have HTC := Lib.hid (text_cut y n)
      go_wp2
      exact bodyPost_ret (results_pair rfl _ _ _ _ rfl rfl) rfl ⟨by rw [HT.out, ← HTC.out]; rfl, (by rw [HSV.out]; exact I5.out), O5.out⟩
theorem bytes_any (k v more : List UInt8) (t n : Nat) (b : Nat) (w : World) (hb : Blk.Is w b (sc k v t) 76) (hk : k.length = 32) (hv : v.length = 32) (ht : t < 1000) (hn : n ≤ 8192) (hm : more.length ≤ 1024) :
    Calls Try.prog 43 #[.pointer (some ⟨b, 0, none⟩), .int .i64 n, .string ⟨more.toArray⟩] w fun e w' => e = .returned (.tuple #[.string ⟨(told (k, v) n more).toArray⟩, .int .i64 0]) ∧ Blk.Is w' b (sc (served (k, v) n more).1 (served (k, v) n more).2 ((t : Int) + 1)) 76 ∧ Only b w w' := by
  by_cases h : more = []
  · exact bytes_nil k v more k v t n b w hb hk hv ht hn hm h (by unfold dba; rw [if_pos h]) hk hv
  · have hl := stir_length (k, v) more
    exact bytes_cons k v more (stir (k, v) more).1 (stir (k, v) more).2 t n b w hb hk hv ht hn hm h (by unfold dba; rw [if_neg h]) hl.1 hl.2
/-- Can so many bytes be asked for? -/
def asks (n : Int) (more : List UInt8) : Prop := 0 ≤ n ∧ n ≤ 8192 ∧ more.length ≤ 1024
instance (n : Int) (more : List UInt8) : Decidable (asks n more) := by unfold asks; infer_instance
set_option maxHeartbeats 4000000 in
set_option maxRecDepth 100000 in
theorem bytes_off (p : Option Addr) (n : Int) (x : List UInt8) (w : World) (h : Off w p) :
    Calls Try.prog 43 #[.pointer p, .int .i64 n, .string ⟨x.toArray⟩] w fun e w' => e = .returned (.tuple #[.string ⟨#[]⟩, .int .i64 1]) ∧ w = w' := by
  have HS := Lib.hid h
  clear h
  go_enter Try.func43, Try.ntmps43
  go_wp2_with fail
  refine (given_no p _ HS.out).mono ?_
  rintro e w1 ⟨rfl, rfl⟩
  go_wp2
  exact bodyPost_ret (results_pair rfl _ _ _ _ rfl rfl) rfl ⟨rfl, rfl⟩
set_option maxHeartbeats 4000000 in
set_option maxRecDepth 100000 in
theorem bytes_no (k v x : List UInt8) (t n : Int) (b : Nat) (w : World) (hb : Blk.Is w b (sc k v t) 76) (hk : k.length = 32) (h : ¬ asks n x) :
    Calls Try.prog 43 #[.pointer (some ⟨b, 0, none⟩), .int .i64 n, .string ⟨x.toArray⟩] w fun e w' => e = .returned (.tuple #[.string ⟨#[]⟩, .int .i64 1]) ∧ w = w' := by
  have HB := Lib.hid hb
  clear hb
  by_cases h0 : n < 0
  · have d1 : decide (n < 0) = true := decide_eq_true h0
    clear h
    go_enter Try.func43, Try.ntmps43
    go_wp2_with fail
    refine (given_yes k v t b _ HB.out hk).mono ?_
    rintro e w1 ⟨rfl, rfl⟩
    go_wp2
    exact bodyPost_ret (results_pair rfl _ _ _ _ rfl rfl) rfl ⟨rfl, rfl⟩
  · have d1 : decide (n < 0) = false := decide_eq_false h0
    by_cases h1 : n > 8192
    · have d2 : decide (n > 8192) = true := decide_eq_true h1
      clear h
      go_enter Try.func43, Try.ntmps43
      go_wp2_with fail
      refine (given_yes k v t b _ HB.out hk).mono ?_
      rintro e w1 ⟨rfl, rfl⟩
      go_wp2
      exact bodyPost_ret (results_pair rfl _ _ _ _ rfl rfl) rfl ⟨rfl, rfl⟩
    · have d2 : decide (n > 8192) = false := decide_eq_false h1
      have d3 : decide ((x.length : Int) > 1024) = true := decide_eq_true (by unfold asks at h; omega)
      clear h
      go_enter Try.func43, Try.ntmps43
      go_wp2_with fail
      refine (given_yes k v t b _ HB.out hk).mono ?_
      rintro e w1 ⟨rfl, rfl⟩
      go_wp2
      exact bodyPost_ret (results_pair rfl _ _ _ _ rfl rfl) rfl ⟨rfl, rfl⟩
set_option maxHeartbeats 4000000 in
set_option maxRecDepth 100000 in
theorem bytes_end (k v x : List UInt8) (t : Nat) (n : Int) (b : Nat) (w : World) (hb : Blk.Is w b (sc k v t) 76) (hk : k.length = 32) (h : asks n x) (ht : 1000 ≤ t) :
    Calls Try.prog 43 #[.pointer (some ⟨b, 0, none⟩), .int .i64 n, .string ⟨x.toArray⟩] w fun e w' => e = .returned (.tuple #[.string ⟨#[]⟩, .int .i64 5]) ∧ w = w' := by
  have HB := Lib.hid hb
  have c3 : w.cell? ⟨b, 2, none⟩ = some (.int .i64 t) := hb.cell 2
  have d1 : decide (n < 0) = false := decide_eq_false (by have := h.1; omega)
  have d2 : decide (n > 8192) = false := decide_eq_false (by have := h.2.1; omega)
  have d3 : decide ((x.length : Int) > 1024) = false := decide_eq_false (by have := h.2.2; omega)
  have d4 : decide ((t : Int) ≥ 1000) = true := decide_eq_true (by omega)
  clear hb h
  go_enter Try.func43, Try.ntmps43
  go_wp2_with fail
  refine (given_yes k v t b _ HB.out hk).mono ?_
  rintro e w1 ⟨rfl, rfl⟩
  go_wp2
  exact bodyPost_ret (results_pair rfl _ _ _ _ rfl rfl) rfl ⟨rfl, rfl⟩
end Go.Proofs.Yticegglphmgoaaa.Sha
