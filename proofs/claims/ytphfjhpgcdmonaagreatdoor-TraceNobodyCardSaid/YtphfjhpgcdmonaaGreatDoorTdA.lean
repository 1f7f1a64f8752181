/- What is known where a system begins, tags and digits too. No condition. -/
import Derived.Test.YtphfjhpgcdmonaaGreatDoorTcA
namespace Go.Proofs.YtphfjhpgcdmonaaGreatDoor.Ef
open Go Go.RowKit Exe Ec Ed Ee Eb
set_option maxRecDepth 100000
noncomputable def nodes7 : List (FuncId × NodeF) := nodes6 ++ [(147, tabN 147 tabHSum), (148, tabN 148 tabHKey), (56, tabN 56 tabHex)]
theorem nodes7_ok : ∀ p ∈ nodes7, ∀ F, CallSound Tryz.prog F → OneSound Tryz.prog p.1 (p.2 F) := by
  intro p hp F hF
  rcases List.mem_append.1 hp with hp | hp
  · exact nodes6_ok p hp F hF
  simp only [List.mem_cons, List.not_mem_nil, or_false] at hp
  rcases hp with rfl | rfl | rfl
  · exact tabN_ok sound6 tabHSum_ok F hF
  · exact tabN_ok sound6 tabHKey_ok F hF
  · exact tabN_ok sound6 tabHex_ok F hF
noncomputable def K7 : KnownC := KnownC.of leaves6 nodes7
theorem K7_ok : KnownSound Tryz.prog K7 := known_ok Ea.meth_ok leaves6_ok nodes7_ok
noncomputable abbrev run7 : CallC := callK Tryz.prog K7 (execK Tryz.prog K7 100000)
theorem sound7 : CallSound Tryz.prog run7 := Ea.sound K7_ok 100000
end Go.Proofs.YtphfjhpgcdmonaaGreatDoor.Ef
