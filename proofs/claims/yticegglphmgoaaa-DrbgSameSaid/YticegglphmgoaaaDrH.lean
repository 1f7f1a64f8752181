/- The same seeds lead to the same bytes, fewer are the beginning of more: plain, and walked. No conditions. -/
import Derived.Test.YticegglphmgoaaaDrG
namespace Go.Proofs.Yticegglphmgoaaa.Sha
open Go.RowKit
open Blk (nats)
theorem dbo_take (k v : List UInt8) (hv : v.length = 32) (R d : Nat) : (dbo k v (R + d)).take (32 * R) = dbo k v R := by
  induction d with
  | zero => rw [List.take_of_length_le (by rw [dbo_length k v hv]; exact Nat.le_refl _)]; rfl
  | succ d ih =>
    rw [← Nat.add_assoc, dbo, List.take_append_of_le_length (by rw [dbo_length k v hv]; omega), ih]
theorem told_take (k v : List UInt8) (hv : v.length = 32) (n m : Nat) (h : n ≤ m) : (told (k, v) m []).take n = told (k, v) n [] := by
  have ha : dba (k, v) [] = (k, v) := by unfold dba; rw [if_pos rfl]
  unfold told
  rw [ha]
  obtain ⟨d, hd⟩ : ∃ d, rnds m = rnds n + d := ⟨rnds m - rnds n, by unfold rnds; omega⟩
  have hr : n ≤ 32 * rnds n := by unfold rnds; omega
  have hq : ∀ l : List UInt8, l.take n = (l.take (32 * rnds n)).take n := fun l => by rw [List.take_take, Nat.min_eq_left hr]
  rw [List.take_take, Nat.min_eq_left h, hd, hq (dbo k v (rnds n + d)), dbo_take k v hv]
theorem served_rnds (s : List UInt8 × List UInt8) (n m : Nat) (h : rnds n = rnds m) : served s n [] = served s m [] := by unfold served; rw [h]
attribute [local irreducible] hmac stir stir1 dbv dbo told served dba
set_option maxHeartbeats 8000000 in
set_option maxRecDepth 100000 in
theorem same_walk (x p q c d k v k1 v1 k2 v2 k3 v3 k4 v4 : List UInt8) (n m : Nat) (w : World) (hs : 16 ≤ x.length ∧ x.length ≤ 256) (hn : n ≤ 255) (hm : m ≤ 255)
    (h1 : stir (key0, val0) x = (k, v)) (hk : k.length = 32) (hv : v.length = 32) (hp : told (k, v) n [] = p) (hq : told (k, v) m [] = q) (hpl : p.length = n) (hql : q.length = m) (hpq : p.take (min n m) = q.take (min n m))
    (h2 : served (k, v) n [] = (k1, v1)) (h3 : served (k, v) m [] = (k2, v2)) (l1 : k1.length = 32 ∧ v1.length = 32) (l2 : k2.length = 32 ∧ v2.length = 32)
    (hc : told (k1, v1) 9 [109, 111, 114, 101] = c) (hd : told (k2, v2) 9 [109, 111, 114, 101] = d) (h4 : served (k1, v1) 9 [109, 111, 114, 101] = (k3, v3)) (h5 : served (k2, v2) 9 [109, 111, 114, 101] = (k4, v4)) (hcd : rnds n = rnds m → c = d) :
    Calls Try.prog 14 #[.string ⟨x.toArray⟩, .int .u8 n, .int .u8 m] w fun e w' => e = .returned (.bool true) ∧ Below w.heap.size w w' := by
  have H1 := Lib.hid h1
  have HP := Lib.hid hp
  have HQ := Lib.hid hq
  have H2 := Lib.hid h2
  have H3 := Lib.hid h3
  have HC := Lib.hid hc
  have HD := Lib.hid hd
  have H4 := Lib.hid h4
  have H5 := Lib.hid h5
  have HPQ := Lib.hid hpq
  have HCD := Lib.hid hcd
  have hsd : Hid (seedy x) := Lib.hid ⟨hs.1, by omega⟩
  have d1 : decide ((x.length : Int) < 16) = false := decide_eq_false (by omega)
  have d2 : decide ((x.length : Int) > 256) = false := decide_eq_false (by omega)
  clear h1 hp hq h2 h3 hc hd h4 h5 hpq hcd hs
  go_enter Try.func14, Try.ntmps14
  go_wp2_with fail
  refine (new_to x k v H1.out _ hsd.out).mono ?_
  rintro e w1 ⟨g, rfl, hg1, hwg, k1'⟩
  have G1 := Lib.hid hg1
  clear hg1
  go_wp2_with fail
  refine (new_to x k v H1.out w1 hsd.out).mono ?_
  rintro e w2 ⟨h, rfl, hh2, hwh, k2'⟩
  have hgh : g ≠ h := by have := G1.out.lt; omega
  have G2 := Lib.hid (G1.out.below k2')
  have J2 := Lib.hid hh2
  have hwh : w.heap.size ≤ h := Nat.le_trans k1'.size hwh
  have k2' := k1'.trans (k2'.mono k1'.size)
  clear hh2 G1 k1'
  go_wp2_with fail
  refine (bytes_to k v [] p k1 v1 0 n 0 n 1 rfl rfl rfl HP.out H2.out g w2 G2.out hk hv (by decide) (by omega) (by decide)).mono ?_
  rintro e w3 ⟨rfl, hg3, o3⟩
  have G3 := Lib.hid hg3
  have J3 := Lib.hid (J2.out.only o3 (fun e => hgh e.symm))
  have k3' := k2'.trans (o3.below hwg k2'.size)
  clear hg3 o3 G2 J2 k2'
  go_wp2_with fail
  refine (bytes_to k v [] q k2 v2 0 m 0 m 1 rfl rfl rfl HQ.out H3.out h w3 J3.out hk hv (by decide) (by omega) (by decide)).mono ?_
  rintro e w4 ⟨rfl, hj4, o4⟩
  have J4 := Lib.hid hj4
  have G4 := Lib.hid (G3.out.only o4 hgh)
  have k4' := k3'.trans (o4.below hwh k3'.size)
  clear hj4 o4 G3 J3 k3'
  have e1 : ((p.length : Int) != (n : Int)) = false := by simp [hpl]
  have e2 : ((q.length : Int) != (m : Int)) = false := by simp [hql]
  go_upto_region 10 with (fail)
  obtain ⟨K, hK⟩ : ∃ K : Nat, K = min n m := ⟨_, rfl⟩
  have hKi : (min (n : Int) (m : Int)) = (K : Int) := by omega
  rw [hKi]
  have hKn : (K : Int) ≤ (n : Int) := by omega
  have hKm : (K : Int) ≤ (m : Int) := by omega
  obtain ⟨r, hr⟩ : ∃ r, p.take K = r := ⟨_, rfl⟩
  have ex1 : (⟨p.toArray⟩ : ByteArray).extract 0 K = ⟨r.toArray⟩ := by rw [text_cut, hr]
  have ex2 : (⟨q.toArray⟩ : ByteArray).extract 0 K = ⟨r.toArray⟩ := by rw [text_cut, hK, ← HPQ.out, ← hK, hr]
  clear hr hK hKi
  go_quiet (fail)
  have k5' : Below w.heap.size w (w4.drewN nq) := k4'.trans ⟨rfl, rfl, rfl, Nat.le_refl _, fun _ _ => rfl⟩
  have G5 : Hid (Blk.Is (w4.drewN nq) g (sc k1 v1 1) 76) := Lib.hid (G4.out.drewN nq)
  have J5 : Hid (Blk.Is (w4.drewN nq) h (sc k2 v2 1) 76) := Lib.hid (J4.out.drewN nq)
  clear G4 J4 k4' ex1 ex2
  go_upto_region 12 with (fail)
  generalize w4.drewN nq = w5 at k5' G5 J5 ⊢
  go_wp2_with fail
  refine (bytes_to k1 v1 [109, 111, 114, 101] c k3 v3 1 9 1 9 2 rfl rfl rfl HC.out H4.out g w5 G5.out l1.1 l1.2 (by decide) (by decide) (by decide)).mono ?_
  rintro e w6 ⟨rfl, hg6, o6⟩
  have J6 := Lib.hid (J5.out.only o6 (fun e => hgh e.symm))
  have k6' := k5'.trans (o6.below hwg k5'.size)
  clear hg6 o6 G5 J5 k5'
  go_wp2_with fail
  refine (bytes_to k2 v2 [109, 111, 114, 101] d k4 v4 1 9 1 9 2 rfl rfl rfl HD.out H5.out h w6 J6.out l2.1 l2.2 (by decide) (by decide) (by decide)).mono ?_
  rintro e w7 ⟨rfl, hj7, o7⟩
  have k7' := k6'.trans (o7.below hwh k6'.size)
  clear hj7 o7 J6 k6'
  by_cases hR : rnds n = rnds m
  · have hcd := HCD.out hR
    subst hcd
    have hR1 : ((n : Int) + 31) / 32 = ((m : Int) + 31) / 32 := by unfold rnds at hR; omega
    have hR2 : (((n : Int) + 31) / 32 == ((m : Int) + 31) / 32) = true := by simpa using hR1
    have HRR := Lib.hid hR
    clear hR1 hR
    go_wp2_with fail
    refine (dawake_any _).mono ?_
    rintro e w8 ⟨rfl, k8⟩
    have k8 := k7'.trans (k8.mono k7'.size)
    go_wp2
    exact bodyPost_ret (results_tmp rfl _ _ _) rfl ⟨rfl, k8⟩
  · have hR1 : ¬ ((n : Int) + 31) / 32 = ((m : Int) + 31) / 32 := by unfold rnds at hR; omega
    have hR2 : (((n : Int) + 31) / 32 == ((m : Int) + 31) / 32) = false := by simpa using hR1
    clear hR1 hR
    go_wp2_with fail
    refine (dawake_any _).mono ?_
    rintro e w8 ⟨rfl, k8⟩
    have k8 := k7'.trans (k8.mono k7'.size)
    go_wp2
    exact bodyPost_ret (results_tmp rfl _ _ _) rfl ⟨rfl, k8⟩
set_option maxHeartbeats 4000000 in
set_option maxRecDepth 100000 in
theorem drbgSame_any (a : ByteArray) (n m : Int) (w : World) (hn : 0 ≤ n ∧ n ≤ 255) (hm : 0 ≤ m ∧ m ≤ 255) : Calls Try.prog 14 #[.string a, .int .u8 n, .int .u8 m] w fun e w' => e = .returned (.bool true) ∧ Below w.heap.size w w' := by
  obtain ⟨x, rfl⟩ : ∃ s : List UInt8, a = ⟨s.toArray⟩ := ⟨a.data.toList, rfl⟩
  obtain ⟨n, rfl⟩ : ∃ q : Nat, n = q := ⟨n.toNat, by omega⟩
  obtain ⟨m, rfl⟩ : ∃ q : Nat, m = q := ⟨m.toNat, by omega⟩
  by_cases h0 : x.length < 16
  · have d1 : decide ((x.length : Int) < 16) = true := decide_eq_true (by omega)
    clear h0
    go_enter Try.func14, Try.ntmps14
    go_wp2_with fail
    refine (dawake_any _).mono ?_
    rintro e w1 ⟨rfl, k1⟩
    go_wp2
    exact bodyPost_ret (results_tmp rfl _ _ _) rfl ⟨rfl, k1⟩
  · by_cases h1 : x.length > 256
    · have d1 : decide ((x.length : Int) < 16) = false := decide_eq_false (by omega)
      have d2 : decide ((x.length : Int) > 256) = true := decide_eq_true (by omega)
      clear h0 h1
      go_enter Try.func14, Try.ntmps14
      go_wp2_with fail
      refine (dawake_any _).mono ?_
      rintro e w1 ⟨rfl, k1⟩
      go_wp2
      exact bodyPost_ret (results_tmp rfl _ _ _) rfl ⟨rfl, k1⟩
    · have hl := stir_length (key0, val0) x
      have hv := hl.2
      obtain ⟨⟨k, v⟩, hkv⟩ : ∃ s, stir (key0, val0) x = s := ⟨_, rfl⟩
      rw [hkv] at hl hv
      have l1 := served_length (k, v) n []
      have l2 := served_length (k, v) m []
      have hmin : ∀ j, j ≤ n → j ≤ m → (told (k, v) n []).take j = (told (k, v) m []).take j := fun j h1 h2 => by
        rw [told_take k v hv j n h1, told_take k v hv j m h2]
      refine same_walk x (told (k, v) n []) (told (k, v) m []) _ _ k v _ _ _ _ _ _ _ _ n m w ⟨by omega, by omega⟩ (by omega) (by omega) hkv hl.1 hv rfl rfl (told_length k v [] n hv) (told_length k v [] m hv) (hmin _ (Nat.min_le_left _ _) (Nat.min_le_right _ _)) rfl rfl l1 l2 rfl rfl rfl rfl ?_
      intro h
      rw [served_rnds (k, v) n m h]
end Go.Proofs.Yticegglphmgoaaa.Sha
