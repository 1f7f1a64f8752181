/- A step of no system is refused, whatever it is; whether steps are few, as something that the executor knows. No condition. -/
import Derived.Test.YtphfjhpgcdmonaaGreatDoorTeA
import Derived.Test.YtphfjhpgcdmonaaGreatDoorTfA
import Derived.WalkKit
import Derived.Below
import Derived.Tactics
import Derived.Tactics2
namespace Go.Proofs.YtphfjhpgcdmonaaGreatDoor.Tn
open Go Go.RowKit Exe Ef
set_option maxRecDepth 100000
theorem calls_of {g : FuncId} {args : List Value} {v : Value} (h : FlatCall Tryz.prog g args v) (he : ∀ w, (callFunc g args.toArray).run Tryz.prog w = .ok (.enter g args.toArray) w) (w : World) : Calls Tryz.prog g args.toArray w fun e w' => e = .returned v ∧ Below w.heap.size w w' := by
  rcases h w with h | ⟨w', h, _⟩
  · exact h.2
  · rw [he] at h
    cases h
theorem do_nil (a b : Int) (k v : ByteArray) (w : World) : Calls Tryz.prog 36 #[.pointer none, .int .i64 a, .int .i64 b, .string k, .string v] w fun e w' => e = .returned (.int .i64 1) ∧ Below w.heap.size w w' :=
  calls_of (args := [.pointer none, .int .i64 a, .int .i64 b, .string k, .string v]) (flat_call sound4 rfl rfl (fun r => by kernel_rfl)) (Tryz.call36 _) w
theorem deliver_nil (a : Int) (w : World) : Calls Tryz.prog 37 #[.pointer none, .int .i64 a] w fun e w' => e = .returned (.int .i64 1) ∧ Below w.heap.size w w' :=
  match a with
  | .ofNat a => calls_of (args := [.pointer none, .int .i64 (.ofNat a)]) (flat_call sound4 rfl rfl (fun r => by kernel_rfl)) (Tryz.call37 _) w
  | .negSucc a => calls_of (args := [.pointer none, .int .i64 (.negSucc a)]) (flat_call sound4 rfl rfl (fun r => by kernel_rfl)) (Tryz.call37 _) w
theorem drop_nil (a : Int) (w : World) : Calls Tryz.prog 38 #[.pointer none, .int .i64 a] w fun e w' => e = .returned (.int .i64 1) ∧ Below w.heap.size w w' :=
  match a with
  | .ofNat a => calls_of (args := [.pointer none, .int .i64 (.ofNat a)]) (flat_call sound4 rfl rfl (fun r => by kernel_rfl)) (Tryz.call38 _) w
  | .negSucc a => calls_of (args := [.pointer none, .int .i64 (.negSucc a)]) (flat_call sound4 rfl rfl (fun r => by kernel_rfl)) (Tryz.call38 _) w
theorem twice_nil (a : Int) (w : World) : Calls Tryz.prog 39 #[.pointer none, .int .i64 a] w fun e w' => e = .returned (.int .i64 1) ∧ Below w.heap.size w w' :=
  match a with
  | .ofNat a => calls_of (args := [.pointer none, .int .i64 (.ofNat a)]) (flat_call sound4 rfl rfl (fun r => by kernel_rfl)) (Tryz.call39 _) w
  | .negSucc a => calls_of (args := [.pointer none, .int .i64 (.negSucc a)]) (flat_call sound4 rfl rfl (fun r => by kernel_rfl)) (Tryz.call39 _) w
theorem crash_nil (a : Int) (w : World) : Calls Tryz.prog 41 #[.pointer none, .int .i64 a] w fun e w' => e = .returned (.int .i64 1) ∧ Below w.heap.size w w' :=
  match a with
  | .ofNat a => calls_of (args := [.pointer none, .int .i64 (.ofNat a)]) (flat_call sound4 rfl rfl (fun r => by kernel_rfl)) (Tryz.call41 _) w
  | .negSucc a => calls_of (args := [.pointer none, .int .i64 (.negSucc a)]) (flat_call sound4 rfl rfl (fun r => by kernel_rfl)) (Tryz.call41 _) w
theorem tick_nil (a : Int) (w : World) : Calls Tryz.prog 42 #[.pointer none, .int .i64 a] w fun e w' => e = .returned (.int .i64 1) ∧ Below w.heap.size w w' :=
  match a with
  | .ofNat a => calls_of (args := [.pointer none, .int .i64 (.ofNat a)]) (flat_call sound4 rfl rfl (fun r => by kernel_rfl)) (Tryz.call42 _) w
  | .negSucc a => calls_of (args := [.pointer none, .int .i64 (.negSucc a)]) (flat_call sound4 rfl rfl (fun r => by kernel_rfl)) (Tryz.call42 _) w
theorem inject_nil (a b : Int) (k v : ByteArray) (w : World) : Calls Tryz.prog 40 #[.pointer none, .agg #[.int .i64 a, .int .i64 b, .string k, .string v]] w fun e w' => e = .returned (.int .i64 1) ∧ Below w.heap.size w w' :=
  calls_of (args := [.pointer none, .agg #[.int .i64 a, .int .i64 b, .string k, .string v]]) (flat_call sound4 rfl rfl (fun r => by kernel_rfl)) (Tryz.call40 _) w
/-- A step as a value. -/
abbrev stepV (kd a b : Int) (key val : ByteArray) (x y : Int) (bd tg : ByteArray) : Value := .agg #[.int .i64 kd, .int .i64 a, .int .i64 b, .string key, .string val, .int .i64 x, .int .i64 y, .string bd, .string tg]
set_option maxHeartbeats 4000000 in
theorem fdo_nil (kd a b : Int) (key val : ByteArray) (x y : Int) (bd tg : ByteArray) (w : World) :
    Calls Tryz.prog 16 #[.pointer none, stepV kd a b key val x y bd tg] w fun e w' => e = .returned (.int .i64 1) ∧ Below w.heap.size w w' := by
  go_enter Tryz.func16, Tryz.ntmps16
  go_wp2_with (first
    | (go_at_call 36; refine (do_nil _ _ _ _ _).mono ?_; rintro e w1 ⟨rfl, hb⟩)
    | (go_at_call 37; refine (deliver_nil _ _).mono ?_; rintro e w1 ⟨rfl, hb⟩)
    | (go_at_call 38; refine (drop_nil _ _).mono ?_; rintro e w1 ⟨rfl, hb⟩)
    | (go_at_call 39; refine (twice_nil _ _).mono ?_; rintro e w1 ⟨rfl, hb⟩)
    | (go_at_call 41; refine (crash_nil _ _).mono ?_; rintro e w1 ⟨rfl, hb⟩)
    | (go_at_call 42; refine (tick_nil _ _).mono ?_; rintro e w1 ⟨rfl, hb⟩)
    | (go_at_call 40; refine (inject_nil _ _ _ _ _).mono ?_; rintro e w1 ⟨rfl, hb⟩))
  all_goals first
    | exact bodyPost_ret (results_tmp rfl _ _ _) rfl ⟨rfl, ((Below.refl _ w).alloc (Nat.le_refl _) _).trans (hb.mono (by simp))⟩
    | exact bodyPost_ret (results_tmp rfl _ _ _) rfl ⟨rfl, (Below.refl _ w).alloc (Nat.le_refl _) _⟩
    | exact bodyPost_ret (results_tmp rfl _ _ _) rfl ⟨rfl, hb⟩
    | exact bodyPost_ret (results_tmp rfl _ _ _) rfl ⟨rfl, Below.refl _ _⟩
/-- fair.Do of no system. -/
noncomputable def doL : LeafF := fun args h q => match args with
  | [.pointer none, .agg cs] => match cs.toList with
    | [.int .i64 _, .int .i64 _, .int .i64 _, .string _, .string _, .int .i64 _, .int .i64 _, .string _, .string _] => q (.int .i64 1) h
    | _ => false
  | _ => false
theorem doL_ok : OneSound Tryz.prog 16 doL :=
  calls_one (Tryz.call16) fun args h k hr => by
    unfold doL at hr
    split at hr
    · rename_i cs
      split at hr
      · rename_i kd a b key val x y bd tg hl
        have e : cs = #[.int .i64 kd, .int .i64 a, .int .i64 b, .string key, .string val, .int .i64 x, .int .i64 y, .string bd, .string tg] := Array.toList_inj.1 hl
        subst e
        exact ⟨_, hr, rfl, rfl, fun w => fdo_nil kd a b key val x y bd tg w⟩
      · cases hr
    · cases hr
def doT (args : List Value) (_ : Hp) : Bool := match args with
  | .pointer none :: _ => true
  | _ => false
/-- Whether a text is that long at most. -/
def leB (s : ByteArray) (n : Nat) : Bool := Nat.ble s.data.toList.length n
theorem leB_iff {s : ByteArray} {n : Nat} : leB s n = true ↔ s.data.toList.length ≤ n := ⟨Nat.le_of_ble_eq_true, Nat.ble_eq_true_of_le⟩
noncomputable def fewB (key val bd tg : ByteArray) : Bool := Bool.rec false (Bool.rec false (Bool.rec false (leB tg 100) (leB bd 300)) (leB val 300)) (leB key 300)
theorem fewB_iff {key val bd tg : ByteArray} : fewB key val bd tg = true ↔ (leB key 300 = true ∧ leB val 300 = true ∧ leB bd 300 = true ∧ leB tg 100 = true) := by
  unfold fewB
  cases leB key 300 <;> cases leB val 300 <;> cases leB bd 300 <;> cases leB tg 100 <;> simp
/-- sacristyref39.Few of one step. -/
noncomputable def fewL : LeafF := fun args h q => match args with
  | [.slice (some ⟨i, 0, none⟩) 1 1, .int .i64 (.ofNat 1)] => match h.get i with
    | some b => match b.grow, b.cells with
      | false, [.int .i64 _, .int .i64 _, .int .i64 _, .string key, .string val, .int .i64 _, .int .i64 _, .string bd, .string tg] => q (.bool (fewB key val bd tg)) h
      | _, _ => false
    | none => false
  | _ => false
theorem fewL_ok : OneSound Tryz.prog 4 fewL := by
  intro args h k hr
  unfold fewL at hr
  split at hr
  · rename_i i
    split at hr
    · rename_i blk hg
      split at hr
      · rename_i kd a b key val x y bd tg e1 e2
        refine ⟨_, h, hr, fun E w args' W hA => .inl ⟨Tryz.call4 _ _, ?_⟩⟩
        match args', hA with
        | [v, m], hA =>
        obtain ⟨c, cap', hρ, rfl, _, hcap, _⟩ := hA.1.to_slice
        obtain rfl := hA.2.1.of_flat rfl
        obtain ⟨fr, _, hb, hfr⟩ := row_leaf W hg hρ e1 (by rw [e2]; rfl)
        have hbs := e2 ▸ hb
        let s : St := ⟨kd, a, b, key.data.toList, val.data.toList, x, y, bd.data.toList, tg.data.toList⟩
        have hst : Steps w (.slice (some ⟨c, 0, none⟩) 1 cap') [s] := by
          refine .inr ⟨⟨c, 0, none⟩, cap', rfl, by show 1 ≤ maxLen; decide, fun j t hj => ?_⟩
          match j, hj with
          | 0, hj =>
            obtain rfl : s = t := by simpa using hj
            constructor <;> simp [World.cell?, hbs, Addr.add, s]
          | j + 1, hj => simp at hj
        have key1 : fewB key val bd tg = decide (s.key.length ≤ 300 ∧ s.val.length ≤ 300 ∧ s.body.length ≤ 300 ∧ s.tag.length ≤ 100) := by
          rw [Bool.eq_iff_iff, fewB_iff, decide_eq_true_iff]
          simp only [leB_iff]
          exact Iff.rfl
        by_cases hf : s.Few
        · refine (few_yes _ [s] 1 w hst (Nat.le_refl 1) (by decide) (fun t ht => by simp at ht; subst ht; exact hf)).mono ?_
          rintro e w' ⟨rfl, rfl⟩
          have : fewB key val bd tg = true := by rw [key1]; exact decide_eq_true ⟨hf.1, hf.2, hf.3, hf.4⟩
          exact ⟨_, rfl, E, Grow.refl E h, by rw [this]; exact .leaf _ rfl, W⟩
        · refine (few_no _ [s] 1 w hst (by decide) (fun hn => hf (hn.2 s (by simp)))).mono ?_
          rintro e w' ⟨rfl, rfl⟩
          have : fewB key val bd tg = false := by rw [key1]; exact decide_eq_false fun hn => hf ⟨hn.1, hn.2.1, hn.2.2.1, hn.2.2.2⟩
          exact ⟨_, rfl, E, Grow.refl E h, by rw [this]; exact .leaf _ rfl, W⟩
      · cases hr
    · cases hr
  · cases hr
noncomputable def leaves8 : List (FuncId × LeafF) := (4, fewL) :: leaves6
theorem leaves8_ok : ∀ p ∈ leaves8, OneSound Tryz.prog p.1 p.2 := by
  intro p hp
  rcases List.mem_cons.1 hp with rfl | hp
  · exact fewL_ok
  · exact leaves6_ok p hp
theorem awake_tab : tabB run7 5 [([], .bool true)] = true := by
  unfold tabB
  simp only [List.all_cons, List.all_nil, Bool.and_true, Bool.and_eq_true]
  exact ⟨⟨trivial, rfl⟩, awake_run⟩
noncomputable def nodes8 : List (FuncId × NodeF) := (5, tabN 5 [([], .bool true)]) :: (16, elseK 16 doT doL) :: nodes7
theorem nodes8_ok : ∀ p ∈ nodes8, ∀ F, CallSound Tryz.prog F → OneSound Tryz.prog p.1 (p.2 F) := by
  intro p hp F hF
  rcases List.mem_cons.1 hp with rfl | hp
  · exact tabN_ok sound7 awake_tab F hF
  rcases List.mem_cons.1 hp with rfl | hp
  · exact elseK_ok doL_ok F hF
  · exact nodes7_ok p hp F hF
noncomputable def K8 : KnownC := KnownC.of leaves8 nodes8
theorem K8_ok : KnownSound Tryz.prog K8 := known_ok Ea.meth_ok leaves8_ok nodes8_ok
noncomputable abbrev run8 : CallC := callK Tryz.prog K8 (execK Tryz.prog K8 100000)
theorem sound8 : CallSound Tryz.prog run8 := Ea.sound K8_ok 100000
end Go.Proofs.YtphfjhpgcdmonaaGreatDoor.Tn
