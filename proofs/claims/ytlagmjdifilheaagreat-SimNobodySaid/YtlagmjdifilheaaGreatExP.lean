/- The executor made for the kernel: each operation's reading. Condition: what is said of the calls. -/
import Derived.Test.YtlagmjdifilheaaGreatExO
namespace Go.Proofs.YtlagmjdifilheaaGreat.Exe
open Go Go.RowKit
section one
variable {P : Program} {B : Nat → Prop} {w0 : World} {F : CallC} {L n : Nat} {e : T4 W} {h : Hp} {q : T4 W → Hp → Bool}
theorem val_u {x : Operand} {a : Nat} (hx : (kv L n x).at e = .u a) : evK L n e x = .int .u64 (.ofNat a) := by unfold evK; rw [hx]; rfl
theorem val_i {x : Operand} {a : Nat} (hx : (kv L n x).at e = .i a) : evK L n e x = .int .i64 (.ofNat a) := by unfold evK; rw [hx]; rfl
theorem val_p {x : Operand} {i off : Nat} (hx : (kv L n x).at e = .p i off) : evK L n e x = .pointer (some ⟨i, off, none⟩) := by unfold evK; rw [hx]; rfl
/-- What an operation's reading says: a value, a heap, and the rest runs on. -/
def One (P : Program) (F : CallC) (L n : Nat) (e : T4 W) (h : Hp) (q : T4 W → Hp → Bool) (o : Oper) (d : KD) (k : KC) : Prop := ∃ (v : W) (h' : Hp), OpF P (evK L n e) o h v.val h' ∧ runK P F L n k (d.put e v) h' q = true
theorem One.quiet {o : Oper} {d : KD} {k : KC} {v : W} (hq : opQ P h (evK L n e) o.op = some v.val) (hr : runK P F L n k (d.put e v) h q = true) : One P F L n e h q o d k := ⟨v, h, .inl ⟨hq, rfl⟩, hr⟩
theorem quiet_one {o : Oper} {d : KD} {k : KC} (hr : runK P F L n (.quiet o.op d k) e h q = true) : One P F L n e h q o d k := by
  have hr' : (match opQ P h (evK L n e) o.op with
    | some v => runK P F L n k (d.put e (toW v)) h q
    | none => false) = true := hr
  cases hq : opQ P h (evK L n e) o.op with
  | none => rw [hq] at hr'; cases hr'
  | some v =>
    rw [hq] at hr'
    exact One.quiet (v := toW v) (by rw [toW_val]; exact hq) hr'
theorem loud_one {o : Oper} {d : KD} {k : KC} (hr : runK P F L n (.loud o.op d k) e h q = true) : One P F L n e h q o d k := by
  have hr' : (match opL P h (evK L n e) o.op with
    | some (v, h') => runK P F L n k (d.put e (toW v)) h' q
    | none => false) = true := hr
  cases hq : opL P h (evK L n e) o.op with
  | none => rw [hq] at hr'; cases hr'
  | some p =>
    obtain ⟨v, h'⟩ := p
    rw [hq] at hr'
    exact ⟨toW v, h', .inr (.inl (by rw [toW_val]; exact hq)), hr'⟩
theorem arU_one {f : Nat → Nat → Nat} {x y : Operand} {o : Oper} {d : KD} {k : KC} (hf : ∀ a b, evK L n e x = .int .u64 (.ofNat a) → evK L n e y = .int .u64 (.ofNat b) → opQ P h (evK L n e) o.op = some (.int .u64 (.ofNat (f a b))))
    (hr : runK P F L n (.arU f (kv L n x) (kv L n y) d k) e h q = true) : One P F L n e h q o d k := by
  have hr' : (W.rec (motive := fun _ => Bool) (fun a => W.rec (motive := fun _ => Bool) (fun b => runK P F L n k (d.put e (.u (f a b))) h q) (fun _ => false) (fun _ => false) (fun _ _ => false) (fun _ => false) ((kv L n y).at e)) (fun _ => false) (fun _ => false) (fun _ _ => false) (fun _ => false) ((kv L n x).at e) : Bool) = true := hr
  cases hxv : (kv L n x).at e with
  | u a =>
    rw [hxv] at hr'
    cases hyv : (kv L n y).at e with
    | u b => rw [hyv] at hr'; exact One.quiet (v := .u (f a b)) (hf a b (val_u hxv) (val_u hyv)) hr'
    | _ => rw [hyv] at hr'; cases hr'
  | _ => rw [hxv] at hr'; cases hr'
theorem shU_one {f : Nat → Nat → Nat} {x y : Operand} {o : Oper} {d : KD} {k : KC} (hf : ∀ a b κ, evK L n e x = .int .u64 (.ofNat a) → evK L n e y = .int κ (.ofNat b) → opQ P h (evK L n e) o.op = some (.int .u64 (.ofNat (f a b))))
    (hr : runK P F L n (.shU f (kv L n x) (kv L n y) d k) e h q = true) : One P F L n e h q o d k := by
  have hr' : (W.rec (motive := fun _ => Bool) (fun a => W.rec (motive := fun _ => Bool) (fun b => runK P F L n k (d.put e (.u (f a b))) h q) (fun b => runK P F L n k (d.put e (.u (f a b))) h q) (fun _ => false) (fun _ _ => false) (fun _ => false) ((kv L n y).at e)) (fun _ => false) (fun _ => false) (fun _ _ => false) (fun _ => false) ((kv L n x).at e) : Bool) = true := hr
  cases hxv : (kv L n x).at e with
  | u a =>
    rw [hxv] at hr'
    cases hyv : (kv L n y).at e with
    | u b => rw [hyv] at hr'; exact One.quiet (v := .u (f a b)) (hf a b _ (val_u hxv) (val_u hyv)) hr'
    | i b => rw [hyv] at hr'; exact One.quiet (v := .u (f a b)) (hf a b _ (val_u hxv) (val_i hyv)) hr'
    | _ => rw [hyv] at hr'; cases hr'
  | _ => rw [hxv] at hr'; cases hr'
theorem divU_one {f : Nat → Nat → Nat} {x y : Operand} {o : Oper} {d : KD} {k : KC} (hf : ∀ a b, Nat.beq b 0 = false → evK L n e x = .int .u64 (.ofNat a) → evK L n e y = .int .u64 (.ofNat b) → opQ P h (evK L n e) o.op = some (.int .u64 (.ofNat (f a b))))
    (hr : runK P F L n (.divU f (kv L n x) (kv L n y) d k) e h q = true) : One P F L n e h q o d k := by
  have hr' : (W.rec (motive := fun _ => Bool) (fun a => W.rec (motive := fun _ => Bool) (fun b => Bool.rec (runK P F L n k (d.put e (.u (f a b))) h q) false (Nat.beq b 0)) (fun _ => false) (fun _ => false) (fun _ _ => false) (fun _ => false) ((kv L n y).at e)) (fun _ => false) (fun _ => false) (fun _ _ => false) (fun _ => false) ((kv L n x).at e) : Bool) = true := hr
  cases hxv : (kv L n x).at e with
  | u a =>
    rw [hxv] at hr'
    cases hyv : (kv L n y).at e with
    | u b =>
      rw [hyv] at hr'
      dsimp only at hr'
      cases hb : Nat.beq b 0 with
      | true => rw [hb] at hr'; cases hr'
      | false => rw [hb] at hr'; exact One.quiet (v := .u (f a b)) (hf a b hb (val_u hxv) (val_u hyv)) hr'
    | _ => rw [hyv] at hr'; cases hr'
  | _ => rw [hxv] at hr'; cases hr'
theorem slow_one {o : Oper} {d : KD} {k : KC} (hr : (match opQ P h (evK L n e) o.op with
    | some v => runK P F L n k (d.put e (toW v)) h q
    | none => false) = true) : One P F L n e h q o d k := quiet_one hr
theorem arI_one {f : Nat → Nat → Nat} {x y : Operand} {o : Oper} {d : KD} {k : KC} (hf : ∀ a b, f a b ≤ 9223372036854775807 → evK L n e x = .int .i64 (.ofNat a) → evK L n e y = .int .i64 (.ofNat b) → opQ P h (evK L n e) o.op = some (.int .i64 (.ofNat (f a b))))
    (hr : runK P F L n (.arI f (kv L n x) (kv L n y) o.op d k) e h q = true) : One P F L n e h q o d k := by
  have hr' : (let slow := match opQ P h (evK L n e) o.op with
      | some v => runK P F L n k (d.put e (toW v)) h q
      | none => false
    W.rec (motive := fun _ => Bool) (fun _ => slow) (fun a => W.rec (motive := fun _ => Bool) (fun _ => slow) (fun b => Bool.rec slow (runK P F L n k (d.put e (.i (f a b))) h q) (Nat.ble (f a b) 9223372036854775807)) (fun _ => slow) (fun _ _ => slow) (fun _ => slow) ((kv L n y).at e)) (fun _ => slow) (fun _ _ => slow) (fun _ => slow) ((kv L n x).at e) : Bool) = true := hr
  dsimp only at hr'
  cases hxv : (kv L n x).at e with
  | i a =>
    rw [hxv] at hr'
    cases hyv : (kv L n y).at e with
    | i b =>
      rw [hyv] at hr'
      cases hb : Nat.ble (f a b) 9223372036854775807 with
      | true =>
        dsimp only at hr'
        rw [hb] at hr'
        exact One.quiet (v := .i (f a b)) (hf a b (Nat.le_of_ble_eq_true hb) (val_i hxv) (val_i hyv)) hr'
      | false =>
        dsimp only at hr'
        rw [hb] at hr'
        exact slow_one hr'
    | _ => rw [hyv] at hr'; exact slow_one hr'
  | _ => rw [hxv] at hr'; exact slow_one hr'
theorem bool_one {o : Oper} {d : KD} {k : KC} {c : Bool} (hq : opQ P h (evK L n e) o.op = some (.bool c)) (hr : (Bool.rec (runK P F L n k (d.put e (.b false)) h q) (runK P F L n k (d.put e (.b true)) h q) c : Bool) = true) : One P F L n e h q o d k := by
  cases c with
  | true => exact One.quiet (v := .b true) hq hr
  | false => exact One.quiet (v := .b false) hq hr
theorem cmp_one {f : Nat → Nat → Bool} {x y : Operand} {o : Oper} {d : KD} {k : KC} (hf : ∀ a b κ, evK L n e x = .int κ (.ofNat a) → evK L n e y = .int κ (.ofNat b) → opQ P h (evK L n e) o.op = some (.bool (f a b)))
    (hr : runK P F L n (.cmp f (kv L n x) (kv L n y) o.op d k) e h q = true) : One P F L n e h q o d k := by
  have hr' : (let slow := match opQ P h (evK L n e) o.op with
      | some v => runK P F L n k (d.put e (toW v)) h q
      | none => false
    W.rec (motive := fun _ => Bool) (fun a => W.rec (motive := fun _ => Bool) (fun b => Bool.rec (runK P F L n k (d.put e (.b false)) h q) (runK P F L n k (d.put e (.b true)) h q) (f a b)) (fun _ => slow) (fun _ => slow) (fun _ _ => slow) (fun _ => slow) ((kv L n y).at e))
      (fun a => W.rec (motive := fun _ => Bool) (fun _ => slow) (fun b => Bool.rec (runK P F L n k (d.put e (.b false)) h q) (runK P F L n k (d.put e (.b true)) h q) (f a b)) (fun _ => slow) (fun _ _ => slow) (fun _ => slow) ((kv L n y).at e)) (fun _ => slow) (fun _ _ => slow) (fun _ => slow) ((kv L n x).at e) : Bool) = true := hr
  dsimp only at hr'
  cases hxv : (kv L n x).at e with
  | u a =>
    rw [hxv] at hr'
    cases hyv : (kv L n y).at e with
    | u b => rw [hyv] at hr'; exact bool_one (hf a b _ (val_u hxv) (val_u hyv)) hr'
    | _ => rw [hyv] at hr'; exact slow_one hr'
  | i a =>
    rw [hxv] at hr'
    cases hyv : (kv L n y).at e with
    | i b => rw [hyv] at hr'; exact bool_one (hf a b _ (val_i hxv) (val_i hyv)) hr'
    | _ => rw [hyv] at hr'; exact slow_one hr'
  | _ => rw [hxv] at hr'; exact slow_one hr'
theorem binP_int {op : BinOp} {t : TypeId} {x y : Operand} {k k' : IntKind} {m n : Int} : binP P op t x y (.int k m) (.int k' n) = binQ P op t x y (.int k m) (.int k' n) := rfl
theorem bin_one {o : Oper} {op : BinOp} {t : TypeId} {x y : Operand} {yt : TypeId} {d : KD} {k : KC} (hop : o.op = .binOp op t x y yt)
    (hr : runK P F L n (binK P L n o.op op t x y d k) e h q = true) : One P F L n e h q o d k := by
  have hQ : opQ P h (evK L n e) o.op = binP P op t x y (evK L n e x) (evK L n e y) := by rw [hop]; rfl
  unfold binK at hr
  split at hr
  · split at hr
    · exact arU_one (fun a b h1 h2 => by rw [hQ, h1, h2, binP_int]; exact u_add) hr
    · exact arU_one (fun a b h1 h2 => by rw [hQ, h1, h2, binP_int]; exact u_sub) hr
    · exact arU_one (fun a b h1 h2 => by rw [hQ, h1, h2, binP_int]; exact u_mul) hr
    · exact arU_one (fun a b h1 h2 => by rw [hQ, h1, h2, binP_int]; exact u_and) hr
    · exact arU_one (fun a b h1 h2 => by rw [hQ, h1, h2, binP_int]; exact u_or) hr
    · exact arU_one (fun a b h1 h2 => by rw [hQ, h1, h2, binP_int]; exact u_xor) hr
    · exact shU_one (fun a b κ h1 h2 => by rw [hQ, h1, h2, binP_int]; exact u_shl) hr
    · exact shU_one (fun a b κ h1 h2 => by rw [hQ, h1, h2, binP_int]; exact u_shr) hr
    · exact divU_one (fun a b h0 h1 h2 => by rw [hQ, h1, h2, binP_int]; exact u_quo h0) hr
    · exact divU_one (fun a b h0 h1 h2 => by rw [hQ, h1, h2, binP_int]; exact u_rem h0) hr
    · exact cmp_one (fun a b κ h1 h2 => by rw [hQ, h1, h2, binP_int]; exact c_eql κ) hr
    · exact cmp_one (fun a b κ h1 h2 => by rw [hQ, h1, h2, binP_int]; exact c_neq κ) hr
    · exact cmp_one (fun a b κ h1 h2 => by rw [hQ, h1, h2, binP_int]; exact c_lss κ) hr
    · exact cmp_one (fun a b κ h1 h2 => by rw [hQ, h1, h2, binP_int]; exact c_leq κ) hr
    · exact cmp_one (fun a b κ h1 h2 => by rw [hQ, h1, h2, binP_int]; exact c_gtr κ) hr
    · exact cmp_one (fun a b κ h1 h2 => by rw [hQ, h1, h2, binP_int]; exact c_geq κ) hr
    · exact quiet_one hr
  · split at hr
    · exact arI_one (fun a b h0 h1 h2 => by rw [hQ, h1, h2, binP_int]; exact i_add h0) hr
    · exact arI_one (fun a b h0 h1 h2 => by rw [hQ, h1, h2, binP_int]; exact i_sub h0) hr
    · exact arI_one (fun a b h0 h1 h2 => by rw [hQ, h1, h2, binP_int]; exact i_mul h0) hr
    · exact arI_one (fun a b h0 h1 h2 => by rw [hQ, h1, h2, binP_int]; exact i_quo h0) hr
    · exact arI_one (fun a b h0 h1 h2 => by rw [hQ, h1, h2, binP_int]; exact i_rem h0) hr
    · exact cmp_one (fun a b κ h1 h2 => by rw [hQ, h1, h2, binP_int]; exact c_eql κ) hr
    · exact cmp_one (fun a b κ h1 h2 => by rw [hQ, h1, h2, binP_int]; exact c_neq κ) hr
    · exact cmp_one (fun a b κ h1 h2 => by rw [hQ, h1, h2, binP_int]; exact c_lss κ) hr
    · exact cmp_one (fun a b κ h1 h2 => by rw [hQ, h1, h2, binP_int]; exact c_leq κ) hr
    · exact cmp_one (fun a b κ h1 h2 => by rw [hQ, h1, h2, binP_int]; exact c_gtr κ) hr
    · exact cmp_one (fun a b κ h1 h2 => by rw [hQ, h1, h2, binP_int]; exact c_geq κ) hr
    · exact quiet_one hr
  · exact quiet_one hr
theorem mv_one {x : Operand} {o : Oper} {d : KD} {k : KC} (hop : o.op = .move x ∨ o.op = .assign x) (hr : runK P F L n (.mv (kv L n x) d k) e h q = true) : One P F L n e h q o d k := by
  have hr' : runK P F L n k (d.put e ((kv L n x).at e)) h q = true := hr
  refine One.quiet (v := (kv L n x).at e) ?_ hr'
  rcases hop with h | h <;> rw [h] <;> rfl
theorem fa_one {s : TypeId} {x : Operand} {f : Nat} {fields : Array Field} {fd : Field} {z : Nat} {o : Oper} {d : KD} {k : KC} (hop : o.op = .fieldAddr s x f) (hu : P.underlying s = some (.struct fields)) (hf : fields[f]? = some fd) (hz : szQ P fd.type = some (z + 1))
    (hr : runK P F L n (.fa fd.offset (kv L n x) d k) e h q = true) : One P F L n e h q o d k := by
  have hr' : (W.rec (motive := fun _ => Bool) (fun _ => false) (fun _ => false) (fun _ => false) (fun i o => runK P F L n k (d.put e (.p i (Nat.add o fd.offset))) h q) (fun _ => false) ((kv L n x).at e) : Bool) = true := hr
  cases hxv : (kv L n x).at e with
  | p i off =>
    rw [hxv] at hr'
    refine One.quiet (v := .p i (Nat.add off fd.offset)) ?_ hr'
    rw [hop]
    show fieldAddrQ P s (evK L n e x) f = _
    rw [val_p hxv]
    unfold fieldAddrQ
    simp only [hu, hf, hz]
    rfl
  | _ => rw [hxv] at hr'; cases hr'
theorem ia_one {t et : TypeId} {x i : Operand} {len z : Nat} {o : Oper} {d : KD} {k : KC} (hop : o.op = .indexAddr t x i) (hu : P.underlying t = some (.array len et)) (hz : szQ P et = some z)
    (hr : runK P F L n (.ia len z (kv L n x) (kv L n i) d k) e h q = true) : One P F L n e h q o d k := by
  have hr' : (W.rec (motive := fun _ => Bool) (fun _ => false) (fun _ => false) (fun _ => false)
    (fun b o => W.rec (motive := fun _ => Bool) (fun _ => false) (fun j => Bool.rec false (runK P F L n k (d.put e (.p b (Nat.add o (Nat.mul j z)))) h q) (Nat.ble (Nat.succ j) len)) (fun _ => false) (fun _ _ => false) (fun _ => false) ((kv L n i).at e)) (fun _ => false) ((kv L n x).at e) : Bool) = true := hr
  cases hxv : (kv L n x).at e with
  | p b off =>
    rw [hxv] at hr'
    cases hiv : (kv L n i).at e with
    | i j =>
      rw [hiv] at hr'
      dsimp only at hr'
      cases hb : Nat.ble (Nat.succ j) len with
      | false => rw [hb] at hr'; cases hr'
      | true =>
        rw [hb] at hr'
        refine One.quiet (v := .p b (Nat.add off (Nat.mul j z))) ?_ hr'
        rw [hop]
        show indexAddrQ P t (evK L n e x) (evK L n e i) = _
        rw [val_p hxv, val_i hiv]
        unfold indexAddrQ
        have hlt : j < len := Nat.le_of_ble_eq_true hb
        have hc : 0 ≤ Int.ofNat j ∧ Int.ofNat j < (len : Int) := by
          simp only [Int.ofNat_eq_natCast]
          omega
        simp only [hu]
        rw [if_pos hc, hz]
        rfl
    | _ => rw [hiv] at hr'; cases hr'
  | _ => rw [hxv] at hr'; cases hr'
theorem ld_one {t : TypeId} {x : Operand} {o : Oper} {d : KD} {k : KC} (hop : o.op = .load t x) (ha : aggQ P t = some false)
    (hr : runK P F L n (.ld (kv L n x) d k) e h q = true) : One P F L n e h q o d k := by
  have hr' : ldK h ((kv L n x).at e) (fun v => runK P F L n k (d.put e v) h q) = true := hr
  cases hxv : (kv L n x).at e with
  | p i off =>
    rw [hxv] at hr'
    have hr2 : (h.find i fun b => b.raw.find off fun v => runK P F L n k (d.put e v) h q) = true := hr'
    obtain ⟨b, hb, hb2⟩ := Hp.find_get hr2
    obtain ⟨v, hv, hv2⟩ := Row.find_at hb2
    refine One.quiet (v := v) ?_ hv2
    rw [hop]
    show loadQ P h t (evK L n e x) = _
    rw [val_p hxv]
    unfold loadQ
    simp only [ha, hb, hv, Option.bind_some, Option.map_some]
  | _ => rw [hxv] at hr'; cases hr'
theorem normW_eq (v : W) : normW v = toW v.val := by cases v <;> rfl
theorem oneB_eq (v : W) : oneB v = cellB v.val := by cases v <;> rfl
theorem cells_one {v : Value} (h : cellB v = true) : v.cells = #[v] := by cases v <;> first | rfl | simp [cellB] at h
theorem st_one {t : TypeId} {x y : Operand} {o : Oper} {d : KD} {k : KC} (hop : o.op = .store t x y) (hz : szQ P t = some 1)
    (hr : runK P F L n (.st (kv L n x) (kv L n y) d k) e h q = true) : One P F L n e h q o d k := by
  have hr' : stK h ((kv L n x).at e) ((kv L n y).at e) (fun h' => runK P F L n k (d.put e (.o undef)) h' q) = true := hr
  cases hxv : (kv L n x).at e with
  | p i off =>
    rw [hxv] at hr'
    have hr2 : (h.find i fun b => Bool.rec false (Bool.rec false (runK P F L n k (d.put e (.o undef)) (h.set i ⟨b.raw.set off (normW ((kv L n y).at e)), b.elem, b.grow⟩) q) (oneB ((kv L n y).at e))) (Nat.ble (Nat.succ off) b.raw.len)) = true := hr'
    obtain ⟨b, hb, hb2⟩ := Hp.find_get hr2
    cases h1 : Nat.ble (Nat.succ off) b.raw.len with
    | false => rw [h1] at hb2; cases hb2
    | true =>
      rw [h1] at hb2
      cases h2 : oneB ((kv L n y).at e) with
      | false => rw [h2] at hb2; cases hb2
      | true =>
        rw [h2] at hb2
        have hv : cellB (evK L n e y) = true := by rw [← h2, oneB_eq]; rfl
        refine ⟨.o undef, _, .inr (.inl ?_), hb2⟩
        rw [hop, normW_eq]
        show (storeL P h t (evK L n e x) (evK L n e y)).map (fun h' => (undef, h')) = _
        rw [val_p hxv]
        unfold storeL
        simp only [hz, cells_one hv]
        have h3 : (Nat.ble (off + [evK L n e y].length) b.raw.len && [evK L n e y].all cellB) = true := by
          rw [show Nat.ble (off + [evK L n e y].length) b.raw.len = true from h1]
          simp [hv]
        have hs : storeCellsL h i off [evK L n e y] = some (h.set i (b.putAll off [evK L n e y])) := by
          unfold storeCellsL
          simp only [hb]
          rw [h3]
          rfl
        simp only [List.size_toArray, List.length_cons, List.length_nil, hs, if_true, Option.map_some]
        rfl
  | _ => rw [hxv] at hr'; cases hr'
theorem call_one (hF : CallSound P F) {f : Operand} {xs : Array Operand} {ats : Array TypeId} {o : Oper} {d : KD} {k : KC} (hop : o.op = .call { callee := .value f, args := xs, argTypes := ats })
    (hr : runK P F L n (.call (kv L n f) (xs.toList.map (kv L n)) d k) e h q = true) : One P F L n e h q o d k := by
  have hr' : (match ((kv L n f).at e).val with
    | .func (.func g) first captured => F g (first.toList ++ (xs.toList.map (kv L n)).map (fun x => (x.at e).val) ++ captured.toList) h (fun v h' => runK P F L n k (d.put e (toW v)) h' q)
    | _ => false) = true := hr
  split at hr'
  · rename_i g fs cs hf
    rw [List.map_map] at hr'
    obtain ⟨v, h', h1, h2⟩ := callT hF hop hf hr'
    exact ⟨toW v, h', .inr (.inr ⟨⟨_, _, _, hop⟩, by rw [toW_val]; exact h2⟩), h1⟩
  · cases hr'
theorem ext_one {x : Operand} {i : Nat} {o : Oper} {d : KD} {k : KC} (hop : o.op = .extract x i) (hr : runK P F L n (.ext (kv L n x) i d k) e h q = true) : One P F L n e h q o d k := by
  have hr' : (W.rec (motive := fun _ => Bool) (fun _ => false) (fun _ => false) (fun _ => false) (fun _ _ => false) (fun v => match v with
    | .tuple vs => match vs.toList[i]? with
      | some u => runK P F L n k (d.put e (toW u)) h q
      | none => false
    | _ => false) ((kv L n x).at e) : Bool) = true := hr
  cases hxv : (kv L n x).at e with
  | o v =>
    rw [hxv] at hr'
    dsimp only at hr'
    split at hr'
    · rename_i vs
      cases hu : vs.toList[i]? with
      | none => rw [hu] at hr'; cases hr'
      | some u =>
        rw [hu] at hr'
        refine One.quiet (v := toW u) ?_ hr'
        rw [hop, toW_val]
        have hv : evK L n e x = .tuple vs := by unfold evK; rw [hxv]; rfl
        simp only [opQ, hv, hu]
    · cases hr'
  | _ => rw [hxv] at hr'; cases hr'
theorem nilc_one {x : Operand} {o : Oper} {d : KD} {k : KC} (hop : o.op = .nilCheck x) (hr : runK P F L n (.nilc (kv L n x) o.op d k) e h q = true) : One P F L n e h q o d k := by
  have hr' : (W.rec (motive := fun _ => Bool) (fun _ => false) (fun _ => false) (fun _ => false) (fun i off => runK P F L n k (d.put e (.p i off)) h q) (fun _ => match opQ P h (evK L n e) o.op with
    | some v => runK P F L n k (d.put e (toW v)) h q
    | none => false) ((kv L n x).at e) : Bool) = true := hr
  cases hxv : (kv L n x).at e with
  | p i off =>
    rw [hxv] at hr'
    refine One.quiet (v := .p i off) ?_ hr'
    rw [hop]
    simp only [opQ, val_p hxv]
    rfl
  | o v => rw [hxv] at hr'; exact slow_one hr'
  | _ => rw [hxv] at hr'; cases hr'
theorem ldn_one {t : TypeId} {z : Nat} {x : Operand} {o : Oper} {d : KD} {k : KC} (hop : o.op = .load t x) (ha : aggQ P t = some true) (hz : szQ P t = some z) (hr : runK P F L n (.ldn z (kv L n x) d k) e h q = true) : One P F L n e h q o d k := by
  have hr' : (W.rec (motive := fun _ => Bool) (fun _ => false) (fun _ => false) (fun _ => false)
    (fun i off => h.find i fun b => Bool.rec false (runK P F L n k (d.put e (.o (.agg (b.raw.sub off z).toArray))) h q) (Nat.ble (Nat.add off z) b.raw.len)) (fun _ => false) ((kv L n x).at e) : Bool) = true := hr
  cases hxv : (kv L n x).at e with
  | p i off =>
    rw [hxv] at hr'
    obtain ⟨b, hb, hb2⟩ := Hp.find_get hr'
    cases hl : Nat.ble (Nat.add off z) b.raw.len with
    | false => rw [hl] at hb2; cases hb2
    | true =>
      rw [hl] at hb2
      refine One.quiet (v := .o (.agg (b.raw.sub off z).toArray)) ?_ hb2
      rw [hop]
      show loadQ P h t (evK L n e x) = _
      rw [val_p hxv]
      unfold loadQ cellsAt
      simp only [ha, hz, hb]
      rw [show Nat.ble (off + z) b.raw.len = true from hl]
      rfl
  | _ => rw [hxv] at hr'; cases hr'
theorem stn_one {t : TypeId} {z : Nat} {x y : Operand} {o : Oper} {d : KD} {k : KC} (hop : o.op = .store t x y) (hz : szQ P t = some z) (hz0 : z ≠ 0) (hr : runK P F L n (.stn z (kv L n x) (kv L n y) d k) e h q = true) : One P F L n e h q o d k := by
  have hr' : (W.rec (motive := fun _ => Bool) (fun _ => false) (fun _ => false) (fun _ => false)
    (fun i off => match ((kv L n y).at e).val with
      | .agg cs => h.find i fun b => Bool.rec false (runK P F L n k (d.put e (.o undef)) (h.set i (b.putAll off cs.toList)) q) (Nat.beq cs.size z && Nat.ble (off + cs.toList.length) b.raw.len && cs.toList.all cellB)
      | _ => false) (fun _ => false) ((kv L n x).at e) : Bool) = true := hr
  cases hxv : (kv L n x).at e with
  | p i off =>
    rw [hxv] at hr'
    dsimp only at hr'
    split at hr'
    · rename_i cs hy
      have hy' : evK L n e y = .agg cs := hy
      obtain ⟨b, hb, hb2⟩ := Hp.find_get hr'
      cases hc : (Nat.beq cs.size z && Nat.ble (off + cs.toList.length) b.raw.len && cs.toList.all cellB) with
      | false => rw [hc] at hb2; cases hb2
      | true =>
        rw [hc] at hb2
        simp only [Bool.and_eq_true] at hc
        refine ⟨.o undef, _, .inr (.inl ?_), hb2⟩
        rw [hop]
        show (storeL P h t (evK L n e x) (evK L n e y)).map (fun h' => (undef, h')) = _
        rw [val_p hxv, hy']
        unfold storeL
        have hcs : (Value.agg cs).cells = cs := rfl
        have hsz : cs.size = z := Nat.eq_of_beq_eq_true hc.1.1
        simp only [hz, hcs]
        rw [if_pos hsz]
        have hs : storeCellsL h i off cs.toList = some (h.set i (b.putAll off cs.toList)) := by
          unfold storeCellsL
          cases hl : cs.toList with
          | nil =>
            have : cs.size = 0 := by rw [← Array.length_toList, hl]; rfl
            exact absurd (this.symm.trans hsz).symm hz0
          | cons c r =>
            simp only [hb]
            rw [← hl, hc.1.2, hc.2]
            rfl
        rw [hs]
        rfl
    · cases hr'
  | _ => rw [hxv] at hr'; cases hr'
theorem alloc_one {b : Blk} {o : Oper} {d : KD} {k : KC} (hop : ∀ i h', h.alloc b = some (i, h') → opL P h (evK L n e) o.op = some (.pointer (some ⟨i, 0, none⟩), h')) (hr : (match h.alloc b with
    | some (i, h') => runK P F L n k (d.put e (.p i 0)) h' q
    | none => false) = true) : One P F L n e h q o d k := by
  cases ha : h.alloc b with
  | none => rw [ha] at hr; cases hr
  | some p =>
    obtain ⟨i, h'⟩ := p
    rw [ha] at hr
    exact ⟨.p i 0, h', .inr (.inl (hop i h' ha)), hr⟩
theorem op_one (hF : CallSound P F) {o : Oper} {d : KD} {k : KC} (hr : runK P F L n (opK P L n o.op d k) e h q = true) : One P F L n e h q o d k := by
  generalize hop : o.op = op at hr
  unfold opK at hr
  split at hr
  · exact mv_one (.inl hop) hr
  · exact mv_one (.inr hop) hr
  · exact bin_one hop (by rw [hop]; exact hr)
  · split at hr
    · rename_i fields hu
      split at hr
      · rename_i fd hf
        split at hr
        · rename_i z hz
          exact fa_one hop hu hf hz hr
        · exact quiet_one (by rw [hop]; exact hr)
      · exact quiet_one (by rw [hop]; exact hr)
    · exact quiet_one (by rw [hop]; exact hr)
  · split at hr
    · rename_i len et hu
      split at hr
      · rename_i z hz
        exact ia_one hop hu hz hr
      · exact quiet_one (by rw [hop]; exact hr)
    · exact quiet_one (by rw [hop]; exact hr)
  · split at hr
    · rename_i ha
      exact ld_one hop ha hr
    · rename_i z ha hz
      exact ldn_one hop ha hz hr
    · exact quiet_one (by rw [hop]; exact hr)
  · split at hr
    · rename_i ha hz
      exact st_one hop hz hr
    · rename_i z ha hz
      exact stn_one hop hz (by omega) hr
    · exact loud_one (by rw [hop]; exact hr)
  · exact ext_one hop hr
  · exact nilc_one hop (by rw [hop]; exact hr)
  · split at hr
    · rename_i z hz
      refine alloc_one (fun i h' ha => ?_) hr
      rw [hop]
      simp only [opL, hz, Option.bind_some, ha, Option.map_some]
    · cases hr
  · rename_i t x
    refine alloc_one (b := Blk.of (evK L n e x).cells.toList t false) (fun i h' ha => ?_) hr
    rw [hop]
    simp only [opL, ha, Option.map_some]
  all_goals first
    | exact loud_one (by rw [hop]; exact hr)
    | exact quiet_one (by rw [hop]; exact hr)
    | exact call_one hF hop hr
    | (split at hr <;> first | exact loud_one (by rw [hop]; exact hr) | exact quiet_one (by rw [hop]; exact hr))
end one
end Go.Proofs.YtlagmjdifilheaaGreat.Exe
