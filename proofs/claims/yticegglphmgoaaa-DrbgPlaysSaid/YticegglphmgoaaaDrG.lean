/- Short forms of the source's contracts; the first bytes of one source, computed; the check 'awake' of the statements. Conditions: those that are named. -/
import Derived.Test.YticegglphmgoaaaDrF
import Derived.BigQuiet
namespace Go.Proofs.Yticegglphmgoaaa.Sha
open Go.RowKit
open Blk (nats)
theorem told_length (k v more : List UInt8) (n : Nat) (hv : v.length = 32) : (told (k, v) n more).length = n := by
  unfold told
  have h : (dba (k, v) more).2.length = 32 := by
    unfold dba
    split
    · exact hv
    · exact (stir_length _ _).2
  rw [List.length_take, dbo_length _ _ h]
  unfold rnds
  omega
theorem served_length (s : List UInt8 × List UInt8) (n : Nat) (more : List UInt8) : (served s n more).1.length = 32 ∧ (served s n more).2.length = 32 := stir_length _ _
theorem bytes_to (k v more out k' v' : List UInt8) (t n : Nat) (T N T' : Int) (hT : T = t) (hN : N = n) (hT' : T' = t + 1) (hout : told (k, v) n more = out) (hs : served (k, v) n more = (k', v')) (b : Nat) (w : World) (hb : Blk.Is w b (sc k v T) 76) (hk : k.length = 32) (hv : v.length = 32) (ht : t < 1000) (hn : n ≤ 8192) (hm : more.length ≤ 1024) :
    Calls Try.prog 43 #[.pointer (some ⟨b, 0, none⟩), .int .i64 N, .string ⟨more.toArray⟩] w fun e w' => e = .returned (.tuple #[.string ⟨out.toArray⟩, .int .i64 0]) ∧ Blk.Is w' b (sc k' v' T') 76 ∧ Only b w w' := by
  subst hT hN hT' hout
  have h := bytes_any k v more t n b w hb hk hv ht hn hm
  rw [hs] at h
  exact h
theorem new_to (x k v : List UInt8) (hs : stir (key0, val0) x = (k, v)) (w : World) (h : seedy x) : Calls Try.prog 42 #[.string ⟨x.toArray⟩] w fun e w' => ∃ g, e = .returned (.tuple #[.pointer (some ⟨g, 0, none⟩), .int .i64 0]) ∧ Blk.Is w' g (sc k v 0) 76 ∧ w.heap.size ≤ g ∧ Below w.heap.size w w' := by
  have h := new_yes x w h
  rw [hs] at h
  exact h
theorem reseed_to (k v x k' v' : List UInt8) (hs : stir (k, v) x = (k', v')) (n : Int) (b : Nat) (w : World) (hb : Blk.Is w b (sc k v n) 76) (hk : k.length = 32) (hv : v.length = 32) (h : seedy x) :
    Calls Try.prog 46 #[.pointer (some ⟨b, 0, none⟩), .string ⟨x.toArray⟩] w fun e w' => e = .returned (.int .i64 0) ∧ Blk.Is w' b (sc k' v' 0) 76 ∧ Only b w w' := by
  have h := reseed_yes k v x n b w hb hk hv h
  rw [hs] at h
  exact h
theorem left_to (k v : List UInt8) (t : Nat) (T R : Int) (hT : T = t) (hR : R = 1000 - T) (b : Nat) (w : World) (hb : Blk.Is w b (sc k v T) 76) (hk : k.length = 32) (hn : t ≤ 1000) :
    Calls Try.prog 48 #[.pointer (some ⟨b, 0, none⟩)] w fun e w' => e = .returned (.int .i64 R) ∧ w = w' := by
  subst hR hT
  exact left_yes k v t b w hb hk hn
theorem told_head (k v : List UInt8) : (told (k, v) 40 []).take 32 = hmac k v := by
  have h : told (k, v) 40 [] = (([] ++ hmac k v) ++ hmac k (hmac k v)).take 40 := rfl
  have hl := hmac_length k v
  rw [h, List.take_take, show min 32 40 = 32 by decide, List.nil_append]
  rw [List.take_append_of_le_length (by omega), List.take_of_length_le (by omega)]
theorem served_is (k v : List UInt8) : served (k, v) 40 [] = stir1 0 (k, hmac k (hmac k v)) [] := rfl
def sd : List UInt8 := [97, 32, 115, 101, 101, 100, 32, 111, 102, 32, 115, 105, 120, 116, 101, 101, 110]
def zk1 : List UInt8 := [136, 142, 36, 233, 79, 201, 162, 27, 114, 41, 252, 237, 215, 247, 5, 251, 252, 242, 78, 150, 236, 179, 10, 35, 68, 126, 165, 131, 58, 24, 89, 160]
def zv1 : List UInt8 := [27, 125, 136, 189, 251, 3, 44, 82, 81, 62, 49, 119, 103, 221, 168, 28, 72, 106, 222, 184, 124, 50, 157, 129, 76, 224, 132, 50, 147, 227, 113, 6]
def zk2 : List UInt8 := [170, 68, 33, 243, 155, 36, 100, 26, 125, 129, 6, 238, 196, 176, 189, 148, 104, 178, 123, 152, 23, 59, 54, 247, 120, 255, 248, 44, 176, 39, 237, 73]
def zv2 : List UInt8 := [69, 123, 78, 53, 160, 48, 7, 87, 102, 202, 252, 94, 125, 132, 192, 239, 1, 79, 175, 227, 47, 159, 9, 14, 185, 213, 105, 82, 232, 81, 140, 242]
def za1 : List UInt8 := [118, 97, 104, 62, 140, 162, 209, 214, 156, 225, 77, 98, 14, 152, 241, 118, 148, 230, 42, 27, 223, 143, 49, 220, 159, 54, 56, 183, 187, 141, 35, 243]
def za2 : List UInt8 := [160, 143, 49, 49, 53, 36, 31, 211, 236, 247, 214, 48, 22, 223, 71, 195, 56, 200, 136, 193, 232, 122, 124, 174, 124, 128, 34, 64, 200, 186, 96, 178]
def zk3 : List UInt8 := [221, 77, 217, 201, 232, 182, 63, 99, 97, 251, 218, 32, 93, 42, 133, 76, 237, 76, 244, 223, 88, 59, 21, 145, 138, 0, 78, 89, 15, 99, 215, 36]
def zv3 : List UInt8 := [185, 101, 71, 155, 14, 10, 71, 166, 196, 189, 7, 15, 213, 85, 109, 245, 160, 140, 67, 216, 109, 62, 179, 223, 10, 155, 237, 18, 249, 80, 158, 240]
def zb1 : List UInt8 := [70, 138, 225, 149, 31, 195, 86, 128, 155, 224, 24, 91, 244, 28, 146, 181, 193, 187, 52, 195, 188, 83, 53, 215, 83, 190, 93, 27, 49, 38, 240, 169]
theorem ev_k1 : hmac (key0) (val0 ++ 0 :: sd) = zk1 := by decide +kernel
theorem ev_v1 : hmac (zk1) (val0) = zv1 := by decide +kernel
theorem ev_k2 : hmac (zk1) (zv1 ++ 1 :: sd) = zk2 := by decide +kernel
theorem ev_v2 : hmac (zk2) (zv1) = zv2 := by decide +kernel
theorem ev_a1 : hmac (zk2) (zv2) = za1 := by decide +kernel
theorem ev_a2 : hmac (zk2) (za1) = za2 := by decide +kernel
theorem ev_k3 : hmac (zk2) (za2 ++ 0 :: []) = zk3 := by decide +kernel
theorem ev_v3 : hmac (zk3) (za2) = zv3 := by decide +kernel
theorem ev_b1 : hmac (zk3) (zv3) = zb1 := by decide +kernel
theorem made_sd : stir (key0, val0) sd = (zk2, zv2) := by
  rw [stir_cons _ _ (by decide), stir1_mk 0 key0 val0 sd _ zk1 zv1 rfl ev_k1 ev_v1, stir1_mk 1 zk1 zv1 sd _ zk2 zv2 rfl ev_k2 ev_v2]
theorem served_sd : served (zk2, zv2) 40 [] = (zk3, zv3) := by
  rw [served_is, ev_a1, ev_a2, stir1_mk 0 zk2 za2 [] _ zk3 zv3 rfl ev_k3 ev_v3]
theorem told_ne : told (zk2, zv2) 40 [] ≠ told (zk3, zv3) 40 [] := by
  intro h
  have h1 := congrArg (List.take 32) h
  rw [told_head, told_head, ev_a1, ev_b1] at h1
  exact absurd h1 (by decide)
attribute [local irreducible] hmac stir stir1 dbv dbo told served dba sd zk2 zv2 zk3 zv3
set_option maxHeartbeats 4000000 in
set_option maxRecDepth 100000 in
theorem dawake_any (w : World) : Calls Try.prog 41 #[] w fun e w' => e = .returned (.bool true) ∧ Below w.heap.size w w' := by
  obtain ⟨a, ha⟩ : ∃ a, told (zk2, zv2) 40 [] = a := ⟨_, rfl⟩
  obtain ⟨b, hb⟩ : ∃ b, told (zk3, zv3) 40 [] = b := ⟨_, rfl⟩
  have hne : a ≠ b := by rw [← ha, ← hb]; exact told_ne
  have hal : a.length = 40 := by rw [← ha]; exact told_length _ _ _ _ (by decide +kernel)
  have hbl : b.length = 40 := by rw [← hb]; exact told_length _ _ _ _ (by decide +kernel)
  have hab : (a == b) = false := by simpa using hne
  obtain ⟨q, hq⟩ : ∃ q, served (zk3, zv3) 40 [] = q := ⟨_, rfl⟩
  have hql : q.1.length = 32 := by rw [← hq]; exact (served_length _ _ _).1
  have N1 := new_to sd zk2 zv2 made_sd
  rw [show sd = [97, 32, 115, 101, 101, 100, 32, 111, 102, 32, 115, 105, 120, 116, 101, 101, 110] from by unfold sd; rfl] at N1
  have HN1 := Lib.hid N1
  have HA := Lib.hid ha
  have HB := Lib.hid hb
  have HQ := Lib.hid hq
  have HNE := Lib.hid hne
  clear ha hb hne hq N1
  go_enter Try.func41, Try.ntmps41
  go_wp2_with fail
  refine (HN1.out _ (by decide)).mono ?_
  rintro e w1 ⟨g, rfl, hg1, hwg, k1⟩
  have G1 := Lib.hid hg1
  clear hg1 HN1
  go_wp2_with fail
  refine (new_no [115, 104, 111, 114, 116] w1 (by decide)).mono ?_
  rintro e w2 ⟨rfl, rfl⟩
  go_wp2_with fail
  refine (left_to zk2 zv2 0 0 1000 rfl rfl g w1 G1.out (by decide +kernel) (by decide)).mono ?_
  rintro e w2 ⟨rfl, rfl⟩
  go_wp2_with fail
  refine (bytes_to zk2 zv2 [] a zk3 zv3 0 40 0 40 1 rfl rfl rfl HA.out served_sd g w1 G1.out (by decide +kernel) (by decide +kernel) (by decide) (by decide) (by decide)).mono ?_
  rintro e w2 ⟨rfl, hg2, o2⟩
  have G2 := Lib.hid hg2
  have k2 := k1.trans (o2.below hwg k1.size)
  clear hg2 o2 G1 k1
  go_wp2_with fail
  refine (bytes_to zk3 zv3 [] b q.1 q.2 1 40 1 40 2 rfl rfl rfl HB.out HQ.out g w2 G2.out (by decide +kernel) (by decide +kernel) (by decide) (by decide) (by decide)).mono ?_
  rintro e w3 ⟨rfl, hg3, o3⟩
  have G3 := Lib.hid hg3
  have k3 := k2.trans (o3.below hwg k2.size)
  clear hg3 o3 G2 k2
  go_wp2_with fail
  refine (left_to q.1 q.2 2 2 998 rfl rfl g w3 G3.out hql (by decide)).mono ?_
  rintro e w4 ⟨rfl, rfl⟩
  go_wp2
  exact bodyPost_ret (results_tmp rfl _ _ _) rfl ⟨rfl, k3⟩
end Go.Proofs.Yticegglphmgoaaa.Sha
