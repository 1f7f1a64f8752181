/- More operations that change nothing, and all of them: what the executor tells of them is what the model does. No condition. -/
import Derived.Test.YtlagmjdifilheaaGreatExD
import Derived.Lib.Builder
import Derived.Laws.BytesString
import Derived.Laws.Cover3
namespace Go.Proofs.YtlagmjdifilheaaGreat.Exe
open Go Go.RowKit
section quiet
variable {E : Env} {P : Program} {B : Nat → Prop} {w0 w : World} {h : Hp} {η : Operand → Value} {a : Act}
theorem eqGuard_ok {op : BinOp} {t : TypeId} {x y : Operand} {u v : Value} (hi : ∀ a b, ¬ (u = .agg a ∧ v = .agg b)) (hn : ¬ (u = .nilIface ∧ v = .nilIface)) : (eqGuard op t x y u v).run P w = .ok () w := by
  cases op <;> (try rfl) <;> (cases u <;> cases v <;> first | rfl | exact absurd ⟨rfl, rfl⟩ hn | exact absurd ⟨rfl, rfl⟩ (hi _ _))
theorem bind_leaf {o : Option Value} {r : Value} (h : (o.bind fun r => if leafB r then some r else none) = some r) : o = some r ∧ leafB r = true := by
  cases o with
  | none => cases h
  | some v =>
    simp only [Option.bind_some] at h
    split at h
    · rename_i hl; cases h; exact ⟨rfl, hl⟩
    · cases h
theorem nilEq_ok {d : TypeDesc} {t : TypeId} {u v u' v' : Value} {r : Bool} (hq : nilEqQ d u v = some r) (hu : Rel E u u') (hv : Rel E v v') (ht : P.underlying t = some d) :
    (Op.equal t u' v').run P w = .ok r w ∧ (∀ a b, ¬ (u' = .agg a ∧ v' = .agg b)) ∧ ¬ (u' = .nilIface ∧ v' = .nilIface) ∧ (∀ t, binOp .eql t u' v' = (do pure (.bool (← Op.equal t u' v')))) ∧ (∀ t, binOp .neq t u' v' = (do pure (.bool (!(← Op.equal t u' v'))))) := by
  obtain ⟨n, hE⟩ : ∃ n, ∀ x y, Op.equal t x y = Op.equalIn (n + 1) t x y := ⟨9999, fun _ _ => rfl⟩
  unfold nilEqQ at hq
  split at hq
  · cases hq
    obtain ⟨i, b, _, _, rfl⟩ := hu.to_ptr'
    obtain rfl := hv.of_leaf rfl
    exact ⟨(by rw [hE]; simp [Op.equalIn, run_und ht]), (by rintro a b ⟨e, _⟩; cases e), (by rintro ⟨e, _⟩; cases e), (fun _ => rfl), (fun _ => rfl)⟩
  · cases hq
    obtain ⟨i, b, _, _, rfl⟩ := hv.to_ptr'
    obtain rfl := hu.of_leaf rfl
    exact ⟨(by rw [hE]; simp [Op.equalIn, run_und ht]), (by rintro a b ⟨e, _⟩; cases e), (by rintro ⟨e, _⟩; cases e), (fun _ => rfl), (fun _ => rfl)⟩
  · cases hq
    obtain ⟨a', cap', rfl, _, hs⟩ := hu.to_slice'
    obtain ⟨i, b, _, _, rfl, _⟩ := hs _ rfl
    obtain rfl := hv.of_leaf rfl
    exact ⟨(by rw [hE]; simp [Op.equalIn, run_und ht]), (by rintro a b ⟨e, _⟩; cases e), (by rintro ⟨e, _⟩; cases e), (fun _ => rfl), (fun _ => rfl)⟩
  · cases hq
    obtain ⟨a', cap', rfl, _, hs⟩ := hv.to_slice'
    obtain ⟨i, b, _, _, rfl, _⟩ := hs _ rfl
    obtain rfl := hu.of_leaf rfl
    exact ⟨(by rw [hE]; simp [Op.equalIn, run_und ht]), (by rintro a b ⟨e, _⟩; cases e), (by rintro ⟨e, _⟩; cases e), (fun _ => rfl), (fun _ => rfl)⟩
  · cases hq
    obtain ⟨xs, ys, rfl, _⟩ := hu.to_func
    obtain rfl := hv.of_leaf rfl
    exact ⟨(by rw [hE]; simp [Op.equalIn, run_und ht]), (by rintro a b ⟨e, _⟩; cases e), (by rintro ⟨e, _⟩; cases e), (fun _ => rfl), (fun _ => rfl)⟩
  · cases hq
    obtain ⟨xs, ys, rfl, _⟩ := hv.to_func
    obtain rfl := hu.of_leaf rfl
    exact ⟨(by rw [hE]; simp [Op.equalIn, run_und ht]), (by rintro a b ⟨e, _⟩; cases e), (by rintro ⟨e, _⟩; cases e), (fun _ => rfl), (fun _ => rfl)⟩
  · cases hq
theorem binQ_ok {op : BinOp} {t : TypeId} {x y : Operand} {u v u' v' r : Value} (hq : binQ P op t x y u v = some r) (hu : Rel E u u') (hv : Rel E v v') :
    ∃ z, Rel E r z ∧ (do eqGuard op t x y u' v'; binOp op t u' v' : Sem Value).run P w = .ok z w := by
  unfold binQ at hq
  split at hq
  · obtain rfl := hu.of_int
    obtain rfl := hv.of_int
    obtain ⟨h1, h2⟩ := bind_leaf hq
    refine ⟨r, .leaf _ h2, ?_⟩
    rw [Sem.run_bind, eqGuard_ok (by rintro a b ⟨e, _⟩; cases e) (by rintro ⟨e, _⟩; cases e)]
    exact pureRun_run h1
  · rename_i s1 s2
    obtain rfl := hu.of_string
    obtain rfl := hv.of_string
    have hg : (eqGuard op t x y (.string s1) (.string s2)).run P w = .ok () w := eqGuard_ok (by rintro a b ⟨e, _⟩; cases e) (by rintro ⟨e, _⟩; cases e)
    have key : ∀ z, (binOp op t (.string s1) (.string s2)).run P w = .ok z w → (do eqGuard op t x y (.string s1) (.string s2); binOp op t (.string s1) (.string s2) : Sem Value).run P w = .ok z w := fun z hz => by
      rw [Sem.run_bind, hg]; exact hz
    cases op <;> simp only at hq <;> try cases hq
    · -- '+'
      split at hq
      · rename_i hs
        cases hq
        refine ⟨_, .leaf _ rfl, key _ ?_⟩
        have happ : s1 ++ s2 = ⟨(s1.data.toList ++ s2.data.toList).toArray⟩ := by
          apply ByteArray.ext
          apply Array.toList_inj.1
          simp
        have hlt : ¬ (((s1.size + s2.size : Nat) : Int) > IntKind.i64.max) := by
          have : (IntKind.i64.max : Int) = 9223372036854775807 := rfl
          omega
        simp only [binOp, Op.stringOp]
        rw [if_neg hlt, happ]
        rfl
      · cases hq
    all_goals
      refine ⟨_, .leaf _ rfl, key _ ?_⟩
      simp [binOp, Op.stringOp, ByteArray.toList_eq]
  · split at hq
    · rename_i hf
      simp only [Bool.and_eq_true] at hf
      obtain rfl := hu.of_flat hf.1
      obtain rfl := hv.of_flat hf.2
      obtain ⟨h1, h2⟩ := bind_leaf hq
      exact ⟨r, .leaf _ h2, pureRun_run h1⟩
    · cases hd : P.underlying t with
      | none => simp [hd] at hq
      | some d =>
        simp only [hd, Option.bind_some] at hq
        split at hq
        · cases hb : nilEqQ d u v with
          | none => simp [hb] at hq
          | some b =>
            simp only [hb, Option.map_some, Option.some.injEq] at hq
            subst hq
            obtain ⟨h1, h2, h3, h4, _⟩ := nilEq_ok (w := w) hb hu hv hd
            refine ⟨_, .leaf _ rfl, ?_⟩
            rw [Sem.run_bind, eqGuard_ok h2 h3, Result.andThen_ok, h4]
            simp [h1]
        · cases hb : nilEqQ d u v with
          | none => simp [hb] at hq
          | some b =>
            simp only [hb, Option.map_some, Option.some.injEq] at hq
            subst hq
            obtain ⟨h1, h2, h3, _, h5⟩ := nilEq_ok (w := w) hb hu hv hd
            refine ⟨_, .leaf _ rfl, ?_⟩
            rw [Sem.run_bind, eqGuard_ok h2 h3, Result.andThen_ok, h5]
            simp [h1]
        · cases hq
theorem binP_ok {op : BinOp} {t : TypeId} {x y : Operand} {u v u' v' r : Value} (hq : binP P op t x y u v = some r) (hu : Rel E u u') (hv : Rel E v v') :
    ∃ z, Rel E r z ∧ (do eqGuard op t x y u' v'; binOp op t u' v' : Sem Value).run P w = .ok z w := by
  unfold binP at hq
  split at hq
  · rename_i r' hs
    cases hq
    unfold samePtr at hs
    split at hs
    · rename_i i o j p
      split at hs
      · rename_i e hd
        split at hs
        · rename_i hc
          obtain ⟨rfl, rfl, hz⟩ := hc
          obtain ⟨b, h1, rfl⟩ := hu.to_ptr
          obtain ⟨b', h2, rfl⟩ := hv.to_ptr
          obtain rfl : b = b' := Option.some.inj (h1.symm.trans h2)
          have hg : (eqGuard op t x y (.pointer (some ⟨b, o, none⟩)) (.pointer (some ⟨b, o, none⟩))).run P w = .ok () w := eqGuard_ok (by rintro a b ⟨e, _⟩; cases e) (by rintro ⟨e, _⟩; cases e)
          obtain ⟨ti, hti⟩ : ∃ ti, P.info? e = some ti := by
            unfold szQ at hz
            cases hi : P.info? e with
            | none => simp [hi] at hz
            | some i => exact ⟨i, rfl⟩
          have hn := Lib.run_neq_ptr_same (w := w) ⟨b, o, none⟩ hd hti
          split at hs
          · cases hs
            refine ⟨_, .leaf _ rfl, ?_⟩
            rw [Sem.run_bind, hg, Result.andThen_ok]
            have h3 : ∀ d : Nat, (Op.equalIn (d + 1) t (.pointer (some ⟨b, o, none⟩)) (.pointer (some ⟨b, o, none⟩))).run P w = .ok true w := fun d => by
              simp [Op.equalIn, run_underlying hd, sizeOf, typeInfo, hti, run_sameAddr_same]
            simp only [binOp]
            simp [Op.equal, Op.maxDepth, h3 9999]
          · cases hs
            refine ⟨_, .leaf _ rfl, ?_⟩
            rw [Sem.run_bind, hg, Result.andThen_ok]
            exact hn
          · cases hs
        · cases hs
      · cases hs
    · cases hs
  · exact binQ_ok hq hu hv
theorem bytesOf_some : ∀ {cs : List Value} {bs : List UInt8}, bytesOf cs = some bs → ∃ ns : List Int, cs = ns.map (Value.int .u8) ∧ bs = ns.map fun n => UInt8.ofNat n.toNat
  | [], bs, hq => by cases hq; exact ⟨[], rfl, rfl⟩
  | v :: cs, bs, hq => by
    unfold bytesOf at hq
    split at hq
    · rename_i e; cases e
    · rename_i n vs e
      cases e
      cases hb : bytesOf cs with
      | none => simp [hb] at hq
      | some bs' =>
        simp only [hb, Option.map_some, Option.some.injEq] at hq
        obtain ⟨ns, rfl, rfl⟩ := bytesOf_some hb
        exact ⟨n :: ns, rfl, hq.symm⟩
    · cases hq
theorem bytesX_cells : ∀ {cs : List Value} {bs : List UInt8}, bytesX cs = some bs → cs = bs.map fun x => Value.int .u8 x.toNat
  | [], bs, hq => by cases hq; rfl
  | v :: cs, bs, hq => by
    unfold bytesX at hq
    split at hq
    · rename_i e; cases e
    · rename_i n vs e
      cases e
      split at hq
      · rename_i hn
        cases hb : bytesX cs with
        | none => simp [hb] at hq
        | some bs' =>
          simp only [hb, Option.map_some, Option.some.injEq] at hq
          subst hq
          rw [List.map_cons, ← bytesX_cells hb]
          congr 2
          show Int.ofNat n = ((UInt8.ofNat n).toNat : Int)
          rw [UInt8.toNat_ofNat', Nat.mod_eq_of_lt hn]
          rfl
      · cases hq
    · cases hq
theorem push_fold : ∀ (ns : List Int) (s : ByteArray), ns.foldl (fun r n => r.push (UInt8.ofNat n.toNat)) s = ⟨(s.data.toList ++ ns.map fun n => UInt8.ofNat n.toNat).toArray⟩
  | [], s => by simp
  | n :: ns, s => by
    rw [List.foldl_cons, push_fold ns]
    simp [ByteArray.push]
theorem convQ_ok (W : WR E P B w0 w h) {src dst : TypeId} {v x r : Value} (hq : convQ P h src dst v = some r) (hr : Rel E v x) : ∃ z, Rel E r z ∧ (convert src dst x).run P w = .ok z w := by
  unfold convQ at hq
  split at hq
  · rename_i e len cap hs hd
    obtain rfl := hr.of_leaf rfl
    split at hq
    · rename_i he
      cases hq
      refine ⟨_, .leaf _ rfl, ?_⟩
      rw [run_convert_bytes_string w src dst e _ _ _ hs he hd]
      rfl
    · cases hq
  · rename_i e i off len cap hs hd
    obtain ⟨b, cap', hρ, rfl, _⟩ := hr.to_slice
    split at hq
    · rename_i he
      cases hc : cellsAt h i off len with
      | none => simp [hc] at hq
      | some cs =>
        cases hb : bytesOf cs with
        | none => simp [hc, hb] at hq
        | some bs =>
          simp only [hc, Option.bind_some, hb, Option.map_some, Option.some.injEq] at hq
          subst hq
          obtain ⟨cs', _, h3, _, h4⟩ := run_cells W hρ hc
          obtain ⟨ns, rfl, rfl⟩ := bytesOf_some hb
          have : cs' = ns.map (Value.int .u8) := h3.of_leaf (by simp [leafB])
          subst this
          refine ⟨_, .leaf _ rfl, ?_⟩
          rw [run_convert_bytes_string w src dst e _ _ _ hs he hd, run_bytesToString w _ len cap' ns h4, push_fold]
          simp
    · cases hq
  · split at hq
    · rename_i hl
      obtain rfl := hr.of_leaf hl
      obtain ⟨h1, h2⟩ := bind_leaf hq
      exact ⟨r, .leaf _ h2, pureRun_run h1⟩
    · cases hq
theorem shape_cells {w : World} {b : Nat} {cs : Array Value} {t : TypeId} {fr : Nat × Nat} (hb : w.heap[b]? = some (.cells cs t fr)) : w.shape? b = some (t, cs.size) := by simp [World.shape?, hb]
theorem convP_ok (W : WR E P B w0 w h) {src dst : TypeId} {v x r : Value} (hq : convP P h src dst v = some r) (hr : Rel E v x) : ∃ y, Rel E r y ∧ (convert src dst x).run P w = .ok y w := by
  unfold convP at hq
  split at hq
  · rename_i i off
    obtain ⟨b, hρ, rfl⟩ := hr.to_ptr
    split at hq
    · rename_i t hs hd
      split at hq
      · rename_i z blk hz hb
        cases hlt : Nat.blt off blk.raw.len with
        | false => rw [hlt] at hq; cases hq
        | true =>
          rw [hlt] at hq
          cases hq
          obtain ⟨cs, fr, _, h3, _, h5, _, _⟩ := W.row hb hρ
          have hle : off < blk.cells.length := by rw [Blk.length]; exact Nat.le_of_ble_eq_true hlt
          have hsz : blk.cells.length ≤ cs.size := by
            have := h5.length
            rw [List.length_take] at this
            simp at this
            omega
          obtain ⟨ti, hti, hz'⟩ : ∃ ti, P.info? t = some ti ∧ ti.size = z + 1 := by
            unfold szQ at hz
            cases hi : P.info? t with
            | none => simp [hi] at hz
            | some i => exact ⟨i, rfl, by simpa [hi] using hz⟩
          exact ⟨_, .ptr i b off hρ, Lib.run_to_unsafe w ⟨b, off, none⟩ hs hd hti (by omega) (shape_cells h3) (by show off < cs.size; omega)⟩
      · cases hq
    · rename_i u hs hd
      split at hq
      · rename_i z blk hz hb
        cases hl : (!blk.grow && liesAt P P.depth blk.elem (blk.raw.len / P.cellsOf blk.elem) off u 1) with
        | false => rw [hl] at hq; cases hq
        | true =>
          rw [hl] at hq
          cases hq
          simp only [Bool.and_eq_true, Bool.not_eq_true'] at hl
          obtain ⟨cs, fr, _, h3, _, _, h6, _⟩ := W.row hb hρ
          have hsz := h6 hl.1
          rw [Blk.length] at hsz
          obtain ⟨ti, hti⟩ : ∃ ti, P.info? u = some ti := by
            unfold szQ at hz
            cases hi : P.info? u with
            | none => simp [hi] at hz
            | some i => exact ⟨i, rfl⟩
          exact ⟨_, .ptr i b off hρ, Lib.run_from_unsafe w ⟨b, off, none⟩ hs hd hti (shape_cells h3) (by rw [hsz]; exact hl.2)⟩
      · cases hq
    · cases hq
  · exact convQ_ok W hq hr
end quiet
end Go.Proofs.YtlagmjdifilheaaGreat.Exe
