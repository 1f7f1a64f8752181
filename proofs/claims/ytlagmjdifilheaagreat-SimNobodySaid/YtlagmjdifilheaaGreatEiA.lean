/- The functions that are known in sim's own example. No condition. -/
import Derived.Test.YtlagmjdifilheaaGreatEg1A
import Derived.Test.YtlagmjdifilheaaGreatEg2A
import Derived.Test.YtlagmjdifilheaaGreatEg3A
import Derived.Test.YtlagmjdifilheaaGreatEg4A
import Derived.Test.YtlagmjdifilheaaGreatEnA
import Derived.Test.YtlagmjdifilheaaGreatElA
namespace Go.Proofs.YtlagmjdifilheaaGreat.Ef
open Go Go.RowKit Exe Ec Ed Ee Eb
set_option maxRecDepth 100000
noncomputable def tabSum : Tab := tabSum1 ++ (tabSum2 ++ (tabSum3 ++ tabSum4))
noncomputable def tabN (g : FuncId) (t : Tab) : NodeF := elseK g (fun args _ => (t.look args).isSome) (tabC t)
noncomputable def nodes5 : List (FuncId × NodeF) := nodes4 ++ [(157, tabN 157 tabSum), (118, tabN 118 tabSmall), (121, tabN 121 tabMul), (169, tabN 169 tabLess),
  (119, tabN 119 tabStep), (67, tabN 67 tabLow), (44, tabN 44 tabInt), (144, tabN 144 tabAdd), (187, tabN 187 tabInv),
  (145, ptabN 145 174 ptabMul), (62, ptabN 62 174 ptabExp), (128, ptabN 128 174 ptabM), (61, ptabN 61 174 ptabIn),
  (127, evalT 86 85), (51, takeT 109 167)]
noncomputable def K5 : KnownC := KnownC.of leaves4 nodes5
noncomputable abbrev run5 : CallC := callK Tryz.prog K5 (execK Tryz.prog K5 100000)

theorem tabSum_ok : tabB run4 157 tabSum = true := tab_append tabSum1_ok (tab_append tabSum2_ok (tab_append tabSum3_ok tabSum4_ok))
theorem tabN_ok {g : FuncId} {t : Tab} (ht : tabB run4 g t = true) (F : CallC) (hF : CallSound Tryz.prog F) : OneSound Tryz.prog g (tabN g t F) := elseK_ok (tab_ok sound4 ht) F hF
theorem nodes5_ok : ∀ p ∈ nodes5, ∀ F, CallSound Tryz.prog F → OneSound Tryz.prog p.1 (p.2 F) := by
  intro p hp F hF
  rcases List.mem_append.1 hp with hp | hp
  · exact nodes4_ok p hp F hF
  simp only [List.mem_cons, List.not_mem_nil, or_false] at hp
  rcases hp with rfl | rfl | rfl | rfl | rfl | rfl | rfl | rfl | rfl | rfl | rfl | rfl | rfl | rfl | rfl
  · exact tabN_ok tabSum_ok F hF
  · exact tabN_ok tabSmall_ok F hF
  · exact tabN_ok tabMul_ok F hF
  · exact tabN_ok tabLess_ok F hF
  · exact tabN_ok tabStep_ok F hF
  · exact tabN_ok tabLow_ok F hF
  · exact tabN_ok tabInt_ok F hF
  · exact tabN_ok tabAdd_ok F hF
  · exact tabN_ok tabInv_ok F hF
  · exact ptab_ok sound4 ptabMul_ok F hF
  · exact ptab_ok sound4 ptabExp_ok F hF
  · exact ptab_ok sound4 ptabM_ok F hF
  · exact ptab_ok sound4 ptabIn_ok F hF
  · exact Eh.evalT_ok F hF
  · exact En.takeT_ok F hF
theorem K5_ok : KnownSound Tryz.prog K5 := known_ok leaves4_ok nodes5_ok
theorem sound5 : CallSound Tryz.prog run5 := Ea.sound K5_ok 100000
end Go.Proofs.YtlagmjdifilheaaGreat.Ef
