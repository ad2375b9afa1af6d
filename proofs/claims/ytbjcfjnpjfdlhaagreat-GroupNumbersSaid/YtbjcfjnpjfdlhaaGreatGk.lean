/- Chapter 23: known, by the kernel. -/
import Derived.Test.YtbjcfjnpjfdlhaaGreatGa
set_option linter.unusedVariables false
namespace Go.Proofs.YtbjcfjnpjfdlhaaGreat
open Go.RowKit Go.Ev
/-- a closed run that answers true -/
noncomputable def okRun (r : Option (AV × AH)) : Bool := match r with
  | some (.bool true, _) => true
  | _ => false
theorem okRun_some {r : Option (AV × AH)} (h : okRun r = true) : ∃ A, r = some (.bool true, A) := by
  unfold okRun at h
  split at h
  · exact ⟨_, rfl⟩
  · cases h
theorem run_true {f : FuncId} {prims : Prims} (hp : PrimsOk Tryz.prog prims) {d k : Nat} (h : okRun ((evS Tryz.prog prims d k).call f [] heap0) = true) (w : World) :
    Calls Tryz.prog f #[] w fun e w' => e = .returned (.bool true) ∧ Below w.heap.size w w' := by
  obtain ⟨A, hA⟩ := okRun_some h
  refine (closed noGor mixedG hp hA w).mono ?_
  rintro e w' ⟨E, v, rfl, hv, h1, h2, h3, h4, h5⟩
  simp only [VR] at hv
  subst hv
  exact ⟨rfl, h1, h2, h3, h4, h5⟩
theorem known_run : okRun ((evS Tryz.prog primsG 100000 100000).call 17 [] heap0) = true := by kernel_rfl
theorem known_walk (w : World) : Calls Tryz.prog 17 #[] w fun e w' => e = .returned (.bool true) ∧ Below w.heap.size w w' := run_true primsG_ok known_run w
#print axioms known_walk
end Go.Proofs.YtbjcfjnpjfdlhaaGreat
