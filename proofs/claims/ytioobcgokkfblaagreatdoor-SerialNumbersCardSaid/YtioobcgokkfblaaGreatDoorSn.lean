/- Chapter 22's runs, by the kernel. -/
import Derived.Test.YtioobcgokkfblaaGreatDoorPm
import Derived.KernelRfl
set_option linter.unusedVariables false
namespace Go.Proofs.YtioobcgokkfblaaGreatDoor
open Go.RowKit Go.Ev

noncomputable def fnsN : FuncId → Option PrimF := addPrim 35 cloneP fnsC
theorem fnsN_ok : FnOk Tryz.prog fnsN :=
  addPrim_ok (clone_prim Tryz.clone35 ⟨_, _, Tryz.func35, by kernel_rfl, rfl⟩) fnsC_ok
noncomputable def primsN : Prims := ⟨fnsN, fun f => bc (Nat.beq f 166) (some (2, some 2)) none⟩
theorem primsN_ok : PrimsOk Tryz.prog primsN := prims_of fnsN_ok
theorem serialNumbers_run : okRun ((evS Tryz.prog primsN 100000 100000).call 6 [] heap0) = true := by kernel_rfl
theorem serialNumbers_walk (w : World) : Calls Tryz.prog 6 #[] w fun e w' => e = .returned (.bool true) ∧ Below w.heap.size w w' := run_true primsN_ok serialNumbers_run w
#print axioms serialNumbers_walk
end Go.Proofs.YtioobcgokkfblaaGreatDoor
