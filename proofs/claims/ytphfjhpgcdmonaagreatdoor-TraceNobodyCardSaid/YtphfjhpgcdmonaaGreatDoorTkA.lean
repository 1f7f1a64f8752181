/- What is known where a system begins. No condition. -/
import Derived.Test.YtphfjhpgcdmonaaGreatDoorTaA
import Derived.Test.YtphfjhpgcdmonaaGreatDoorTbA
import Derived.Test.YtphfjhpgcdmonaaGreatDoorMg2
import Derived.Test.YtphfjhpgcdmonaaGreatDoorShaS
namespace Go.Proofs.YtphfjhpgcdmonaaGreatDoor.Ef
open Go Go.RowKit Exe Ec Ed Ee Eb
set_option maxRecDepth 100000
noncomputable def tabN (g : FuncId) (t : Tab) : NodeF := elseK g (fun args _ => (t.look args).isSome) (tabC t)
theorem tabN_ok {F' : CallC} (hF' : CallSound Tryz.prog F') {g : FuncId} {t : Tab} (ht : tabB F' g t = true) (F : CallC) (hF : CallSound Tryz.prog F) : OneSound Tryz.prog g (tabN g t F) := elseK_ok (tab_ok hF' ht) F hF
theorem noZero_ok : OneSound Tryz.prog 186 (noZeroF 5) := by
  have h : (Tryz.prog.info? 5).map (·.size) = some 1 := by kernel_rfl
  obtain ⟨info, hi, hs⟩ := Option.map_eq_some_iff.1 h
  exact noZeroF_ok (ps := #[3]) Tryz.underlying74 hi hs fun args w => run_callFunc_extern Tryz.func186 (by kernel_rfl) (by kernel_rfl) (by kernel_rfl) (by kernel_rfl) args w
noncomputable def leaves6 : List (FuncId × LeafF) := (190, Sha.sumL) :: (186, noZeroF 5) :: leaves4
theorem leaves6_ok : ∀ p ∈ leaves6, OneSound Tryz.prog p.1 p.2 := by
  intro p hp
  rcases List.mem_cons.1 hp with rfl | hp
  · exact Sha.sumL_ok
  rcases List.mem_cons.1 hp with rfl | hp
  · exact noZero_ok
  · exact leaves4_ok p hp
noncomputable def nodes6 : List (FuncId × NodeF) := nodes4 ++ [(124, tabN 124 tabSmall), (125, tabN 125 tabStep), (168, tabN 168 tabLess), (127, tabN 127 tabMul),
  (90, ptabN 90 235 ptabExp)]
theorem nodes6_ok : ∀ p ∈ nodes6, ∀ F, CallSound Tryz.prog F → OneSound Tryz.prog p.1 (p.2 F) := by
  intro p hp F hF
  rcases List.mem_append.1 hp with hp | hp
  · exact nodes4_ok p hp F hF
  simp only [List.mem_cons, List.not_mem_nil, or_false] at hp
  rcases hp with rfl | rfl | rfl | rfl | rfl
  · exact tabN_ok sound4 tabSmall_ok F hF
  · exact tabN_ok sound4 tabStep_ok F hF
  · exact tabN_ok sound4 tabLess_ok F hF
  · exact tabN_ok sound4 tabMul_ok F hF
  · exact ptab_ok sound4 ptabExp_ok F hF
noncomputable def K6 : KnownC := KnownC.of leaves6 nodes6
theorem K6_ok : KnownSound Tryz.prog K6 := known_ok Ea.meth_ok leaves6_ok nodes6_ok
noncomputable abbrev run6 : CallC := callK Tryz.prog K6 (execK Tryz.prog K6 100000)
theorem sound6 : CallSound Tryz.prog run6 := Ea.sound K6_ok 100000
end Go.Proofs.YtphfjhpgcdmonaaGreatDoor.Ef
