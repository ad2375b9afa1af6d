/- Chapter 23: GroupNumbers. -/
import Derived.Test.YtbjcfjnpjfdlhaaGreatGb
import Derived.Test.YtbjcfjnpjfdlhaaGreatGd
import Derived.Test.YtbjcfjnpjfdlhaaGreatGk
set_option linter.unusedVariables false
namespace Go.Proofs.YtbjcfjnpjfdlhaaGreat
open Go.RowKit Go.Ev
noncomputable def fnsG2 : FuncId → Option PrimF :=
  addPrim 14 (orP (ptP set1A g1H g1N g4V g4H g4N) (orP (ptP set2A g5H g5N g6V g6H g6N) (callP evG.call 14))) (addPrim 17 trueP fnsG)
theorem fnsG2_ok : FnOk Tryz.prog fnsG2 :=
  addPrim_ok (orP_ok (ptP_ok set1) (orP_ok (ptP_ok set2) (callP_ok callG_ok _))) (addPrim_ok (trueP_ok ⟨_, _, Tryz.func17, by kernel_rfl, rfl⟩ known_walk) fnsG_ok)
noncomputable def primsG2 : Prims := ⟨fnsG2, fun _ => none⟩
theorem primsG2_ok : PrimsOk Tryz.prog primsG2 := ⟨fnsG2_ok, fun gf s h => by cases h⟩
theorem groupNumbers_run : okRun ((evS Tryz.prog primsG2 100000 100000).call 4 [] heap0) = true := by kernel_rfl
theorem groupNumbers_walk (w : World) : Calls Tryz.prog 4 #[] w fun e w' => e = .returned (.bool true) ∧ Below w.heap.size w w' := run_true primsG2_ok groupNumbers_run w
#print axioms groupNumbers_walk
end Go.Proofs.YtbjcfjnpjfdlhaaGreat
