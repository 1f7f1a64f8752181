/- Functions that are known at some arguments: tables, each row told by a run. Condition: that the executor is sound. -/
import Derived.Test.YtlagmjdifilheaaGreatExAb
namespace Go.Proofs.YtlagmjdifilheaaGreat.Exe
open Go Go.RowKit
section
variable {P : Program} {F : CallC}
def S (ns : List Nat) : Value := .string ⟨(ns.map UInt8.ofNat).toArray⟩
/-- Lists that are the same, as far as it is told. -/
def eqVL : List Value → List Value → Bool
  | [], [] => true
  | a :: l, b :: m => eqV a b && eqVL l m
  | _, _ => false
theorem eqVL_eq : ∀ {u v : List Value}, eqVL u v = true → u = v
  | [], [], _ => rfl
  | a :: l, b :: m, h => by
    simp only [eqVL, Bool.and_eq_true] at h
    rw [eqV_eq h.1, eqVL_eq h.2]
  | [], _ :: _, h => by cases h
  | _ :: _, [], h => by cases h
/-- The same, tuples of tuples and aggregates too. -/
def eqW : Value → Value → Bool
  | .tuple xs, .tuple ys => eqVL xs.toList ys.toList
  | u, v => eqV u v
theorem eqW_eq {u v : Value} (h : eqW u v = true) : u = v := by
  unfold eqW at h
  split at h
  · rw [Array.toList_inj.1 (eqVL_eq h)]
  · exact eqV_eq h
abbrev Tab := List (List Value × Value)
def Tab.look : Tab → List Value → Option Value
  | [], _ => none
  | (a, v) :: t, args => bif eqVL args a then some v else Tab.look t args
theorem Tab.look_mem : ∀ {t : Tab} {args : List Value} {v : Value}, t.look args = some v → (args, v) ∈ t
  | [], _, _, h => by cases h
  | (a, v') :: t, args, v, h => by
    unfold Tab.look at h
    cases he : eqVL args a with
    | true =>
      rw [he] at h
      cases h
      rw [eqVL_eq he]
      exact List.mem_cons_self
    | false =>
      rw [he] at h
      exact List.mem_cons_of_mem _ (Tab.look_mem h)
noncomputable def tabC (t : Tab) : LeafF := fun args h q => match t.look args with
  | some v => q v h
  | none => false
/-- Whether a table's rows are what a run tells. -/
noncomputable def tabB (F : CallC) (g : FuncId) (t : Tab) : Bool := t.all fun p => p.1.all flatB && flatB p.2 && F g p.1 Hp.none fun v _ => eqW v p.2
theorem flat_eq (hF : CallSound P F) {g : FuncId} {args : List Value} {v : Value} (ha : args.all flatB = true) (hv : flatB v = true) (hr : F g args Hp.none (fun v' _ => eqW v' v) = true) : FlatCall P g args v := by
  intro w
  obtain ⟨v', h', hk, hS⟩ := hF g args Hp.none _ hr
  obtain rfl := eqW_eq hk
  rcases hS _ w args (WR.none w) (flat_self ha) with ⟨h2, h3⟩ | ⟨x, h2, E', _, h4, h5⟩
  · refine .inl ⟨h2, Calls.mono h3 fun e w' he => ?_⟩
    obtain ⟨x, rfl, E', _, h4, h5⟩ := he
    exact ⟨by rw [h4.of_flat hv], h5.below.below⟩
  · exact .inr ⟨w, by rw [← h4.of_flat hv]; exact h2, rfl⟩
theorem tab_ok (hF : CallSound P F) {g : FuncId} {t : Tab} (ht : tabB F g t = true) : OneSound P g (tabC t) := by
  refine flat_one fun args h k hr => ?_
  unfold tabC at hr
  cases hl : t.look args with
  | none => rw [hl] at hr; cases hr
  | some v =>
    rw [hl] at hr
    have h1 := List.all_eq_true.1 ht _ (Tab.look_mem hl)
    simp only [Bool.and_eq_true] at h1
    exact ⟨v, hr, h1.1.1, h1.1.2, flat_eq hF h1.1.1 h1.1.2 h1.2⟩
theorem tab_append {g : FuncId} {t t' : Tab} (ht : tabB F g t = true) (ht' : tabB F g t' = true) : tabB F g (t ++ t') = true := by
  unfold tabB
  rw [List.all_append]
  simp only [Bool.and_eq_true]
  exact ⟨ht, ht'⟩
end
end Go.Proofs.YtlagmjdifilheaaGreat.Exe
