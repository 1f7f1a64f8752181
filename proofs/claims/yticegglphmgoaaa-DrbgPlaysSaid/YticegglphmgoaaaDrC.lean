/- A source of bytes: made, fed, asked how often it may still be asked. Conditions: those that are named. -/
import Derived.Test.YticegglphmgoaaaDrB
namespace Go.Proofs.Yticegglphmgoaaa.Sha
open Go.RowKit
open Blk (nats)
/-- The key of a source before its seed. -/
def key0 : List UInt8 := List.replicate 32 0
/-- The value of a source before its seed. -/
def val0 : List UInt8 := List.replicate 32 1
theorem key0_length : key0.length = 32 := by decide
theorem val0_length : val0.length = 32 := by decide
theorem Only.belowB {b B : Nat} {w w' w'' : World} (h : Only b w w') (k : Below B w' w'') (hB : w.heap.size ≤ B) : Only b w w'' :=
  ⟨k.os.trans h.os, k.tape.trans h.tape, k.output.trans h.output, Nat.le_trans h.size k.size, fun i hi hne => (k.block i (by omega)).trans (h.block i hi hne)⟩
theorem results_pair {P : Program} {fn : Func} {t u : Tmp} (h : fn.results = #[.tmp t, .tmp u]) (tmps : Array Value) (w : World) (x y : Value) (hx : tmps.getD t undef = x) (hy : tmps.getD u undef = y) : (results fn tmps).run P w = .ok (.tuple #[x, y]) w := by
  rw [results_tmp2 h, hx, hy]
attribute [local irreducible] hmac stir stir1
set_option maxHeartbeats 4000000 in
set_option maxRecDepth 100000 in
theorem fill_any (c : UInt8) (l : List UInt8) (hl : List.replicate 32 c = l) (w : World) : Calls Try.prog 61 #[.string ⟨#[c]⟩, .int .i64 32] w fun e w' => e = .returned (.string ⟨l.toArray⟩) ∧ Below w.heap.size w w' := by
  subst hl
  have h := Shl.strings_Repeat ⟨#[c]⟩ 32 w (by decide) (by show 1 * 32 ≤ _; decide)
  have e : Lib.repeatL (⟨#[c]⟩ : ByteArray).data.toList 32 = List.replicate 32 c := rfl
  rw [e] at h
  exact h
set_option maxHeartbeats 4000000 in
set_option maxRecDepth 100000 in
theorem new_yes (x : List UInt8) (w : World) (h : seedy x) : Calls Try.prog 42 #[.string ⟨x.toArray⟩] w fun e w' => ∃ g, e = .returned (.tuple #[.pointer (some ⟨g, 0, none⟩), .int .i64 0]) ∧ Blk.Is w' g (sc (stir (key0, val0) x).1 (stir (key0, val0) x).2 0) 76 ∧ w.heap.size ≤ g ∧ Below w.heap.size w w' := by
  have HS := Lib.hid h
  have hx : x.length < 274877906944 := by have := h.2; omega
  obtain ⟨k0, hk0⟩ : ∃ k0, key0 = k0 := ⟨_, rfl⟩
  obtain ⟨v0, hv0⟩ : ∃ v0, val0 = v0 := ⟨_, rfl⟩
  rw [hk0, hv0]
  have hkl : k0.length = 32 := by rw [← hk0]; exact key0_length
  have hvl : v0.length = 32 := by rw [← hv0]; exact val0_length
  have HK := Lib.hid hk0
  have HV := Lib.hid hv0
  clear h hk0 hv0
  go_enter Try.func42, Try.ntmps42
  go_wp2_with fail
  refine (seeds_yes x _ HS.out).mono ?_
  rintro e w1 ⟨rfl, rfl⟩
  go_wp2_with fail
  refine (fill_any 0 k0 (by rw [← HK.out]; rfl) _).mono ?_
  rintro e w1 ⟨rfl, k1⟩
  go_wp2_with fail
  refine (fill_any 1 v0 (by rw [← HV.out]; rfl) _).mono ?_
  rintro e w2 ⟨rfl, k2⟩
  have k2 := k1.trans (k2.mono k1.size)
  have hn := Blk.new w2 (sc k0 v0 0) 76
  have kn := k2.alloc k2.size (.cells (sc k0 v0 0).toArray 76)
  have HN := Lib.hid hn
  have HKN := Lib.hid kn
  clear hn kn k1
  obtain ⟨g, hg⟩ : ∃ g, g = w2.heap.size := ⟨_, rfl⟩
  have hgl : w.heap.size ≤ g := by rw [hg]; exact k2.size
  go_wp2_with fail
  rw [← hg] at HN ⊢
  refine (stirs_any k0 v0 x 0 g _ HN.out (by omega) (by omega) hx).mono ?_
  rintro e w3 ⟨rfl, hb3, o3⟩
  have HB3 := Lib.hid hb3
  have k3 := HKN.out.trans (o3.below hgl HKN.out.size)
  clear hb3 o3 HKN HN hg
  go_wp2
  exact bodyPost_ret (results_pair rfl _ _ _ _ rfl rfl) rfl ⟨g, rfl, HB3.out, hgl, k3⟩
set_option maxHeartbeats 4000000 in
set_option maxRecDepth 100000 in
theorem new_no (x : List UInt8) (w : World) (h : ¬ seedy x) : Calls Try.prog 42 #[.string ⟨x.toArray⟩] w fun e w' => e = .returned (.tuple #[.pointer none, .int .i64 1]) ∧ w = w' := by
  have HS := Lib.hid h
  clear h
  go_enter Try.func42, Try.ntmps42
  go_wp2_with fail
  refine (seeds_no x _ HS.out).mono ?_
  rintro e w1 ⟨rfl, rfl⟩
  go_wp2
  exact bodyPost_ret (results_pair rfl _ _ _ _ rfl rfl) rfl ⟨rfl, rfl⟩
set_option maxHeartbeats 4000000 in
set_option maxRecDepth 100000 in
theorem reseed_yes (k v x : List UInt8) (n : Int) (b : Nat) (w : World) (hb : Blk.Is w b (sc k v n) 76) (hk : k.length = 32) (hv : v.length = 32) (h : seedy x) :
    Calls Try.prog 46 #[.pointer (some ⟨b, 0, none⟩), .string ⟨x.toArray⟩] w fun e w' => e = .returned (.int .i64 0) ∧ Blk.Is w' b (sc (stir (k, v) x).1 (stir (k, v) x).2 0) 76 ∧ Only b w w' := by
  have HS := Lib.hid h
  have HB := Lib.hid hb
  have hx : x.length < 274877906944 := by have := h.2; omega
  clear h hb
  go_enter Try.func46, Try.ntmps46
  go_wp2_with fail
  refine (given_yes k v n b _ HB.out hk).mono ?_
  rintro e w1 ⟨rfl, rfl⟩
  go_wp2_with fail
  refine (seeds_yes x _ HS.out).mono ?_
  rintro e w1 ⟨rfl, rfl⟩
  go_wp2_with fail
  refine (stirs_any k v x n b _ HB.out (by omega) (by omega) hx).mono ?_
  rintro e w3 ⟨rfl, hb3, o3⟩
  have f3 := hb3.frozen 2
  have c3 : w3.cell? ⟨b, 2, none⟩ = some (.int .i64 n) := hb3.cell 2
  have h4 := hb3.set 2 (.int .i64 0)
  have o4 := o3.setCell (p := ⟨b, 2, none⟩) rfl (.int .i64 0)
  have H4 := Lib.hid h4
  clear hb3 o3 HB h4
  go_wp2
  exact bodyPost_ret (results_tmp rfl _ _ _) rfl ⟨rfl, H4.out, o4⟩
set_option maxHeartbeats 4000000 in
set_option maxRecDepth 100000 in
theorem reseed_no (k v x : List UInt8) (n : Int) (b : Nat) (w : World) (hb : Blk.Is w b (sc k v n) 76) (hk : k.length = 32) (h : ¬ seedy x) :
    Calls Try.prog 46 #[.pointer (some ⟨b, 0, none⟩), .string ⟨x.toArray⟩] w fun e w' => e = .returned (.int .i64 1) ∧ w = w' := by
  have HS := Lib.hid h
  have HB := Lib.hid hb
  clear h hb
  go_enter Try.func46, Try.ntmps46
  go_wp2_with fail
  refine (given_yes k v n b _ HB.out hk).mono ?_
  rintro e w1 ⟨rfl, rfl⟩
  go_wp2_with fail
  refine (seeds_no x _ HS.out).mono ?_
  rintro e w1 ⟨rfl, rfl⟩
  go_wp2
  exact bodyPost_ret (results_tmp rfl _ _ _) rfl ⟨rfl, rfl⟩
/-- A source that is none. -/
def Off (w : World) (p : Option Addr) : Prop := p = none ∨ ∃ b, p = some ⟨b, 0, none⟩ ∧ w.cell? ⟨b, 0, none⟩ = some (.string ⟨#[]⟩)
theorem given_no (p : Option Addr) (w : World) (h : Off w p) : Calls Try.prog 63 #[.pointer p] w fun e w' => e = .returned (.bool false) ∧ w = w' := by
  rcases h with rfl | ⟨b, rfl, c⟩
  · exact given_nil w
  · exact given_off b w c
set_option maxHeartbeats 4000000 in
set_option maxRecDepth 100000 in
theorem reseed_off (p : Option Addr) (x : List UInt8) (w : World) (h : Off w p) :
    Calls Try.prog 46 #[.pointer p, .string ⟨x.toArray⟩] w fun e w' => e = .returned (.int .i64 1) ∧ w = w' := by
  have HS := Lib.hid h
  clear h
  go_enter Try.func46, Try.ntmps46
  go_wp2_with fail
  refine (given_no p _ HS.out).mono ?_
  rintro e w1 ⟨rfl, rfl⟩
  go_wp2
  exact bodyPost_ret (results_tmp rfl _ _ _) rfl ⟨rfl, rfl⟩
set_option maxHeartbeats 4000000 in
set_option maxRecDepth 100000 in
theorem left_off (p : Option Addr) (w : World) (h : Off w p) :
    Calls Try.prog 48 #[.pointer p] w fun e w' => e = .returned (.int .i64 0) ∧ w = w' := by
  have HS := Lib.hid h
  clear h
  go_enter Try.func48, Try.ntmps48
  go_wp2_with fail
  refine (given_no p _ HS.out).mono ?_
  rintro e w1 ⟨rfl, rfl⟩
  go_wp2
  exact bodyPost_ret (results_tmp rfl _ _ _) rfl ⟨rfl, rfl⟩
set_option maxHeartbeats 4000000 in
set_option maxRecDepth 100000 in
theorem left_yes (k v : List UInt8) (n : Nat) (b : Nat) (w : World) (hb : Blk.Is w b (sc k v n) 76) (hk : k.length = 32) (hn : n ≤ 1000) :
    Calls Try.prog 48 #[.pointer (some ⟨b, 0, none⟩)] w fun e w' => e = .returned (.int .i64 (1000 - (n : Int))) ∧ w = w' := by
  have HB := Lib.hid hb
  have c3 : w.cell? ⟨b, 2, none⟩ = some (.int .i64 n) := hb.cell 2
  clear hb
  go_enter Try.func48, Try.ntmps48
  go_wp2_with fail
  refine (given_yes k v n b _ HB.out hk).mono ?_
  rintro e w1 ⟨rfl, rfl⟩
  go_wp2
  exact bodyPost_ret (results_tmp rfl _ _ _) rfl ⟨rfl, rfl⟩
end Go.Proofs.Yticegglphmgoaaa.Sha
