/- conclavetop.awake answers true: by the kernel, the two calls of Settle as they are known. -/
import Derived.Test.YtcpmgjnlnaigbaaGreatDoorAs
import Derived.Test.YtcpmgjnlnaigbaaGreatDoorAt
set_option linter.unusedVariables false
namespace Go.Proofs.YtcpmgjnlnaigbaaGreatDoor
open Go.RowKit Go.Ev
noncomputable def fnsB : FuncId → Option PrimF := addPrim 32 (orP (ptP awA aw1H aw1N aw2V aw2H aw2N) (ptP awB aw3H aw3N aw4V aw4H aw4N)) fnsA
theorem fnsB_ok : FnOk Tryz.prog fnsB := addPrim_ok (orP_ok (ptP_ok awSet1) (ptP_ok awSet2)) fnsA_ok
noncomputable def primsB : Prims := ⟨fnsB, bkA⟩
theorem primsB_ok : PrimsOk Tryz.prog primsB := prims_of fnsB_ok
theorem awake_run : okRunA ((evS Tryz.prog primsB 100000 100000).call 13 [] heap0) = true := by kernel_rfl
theorem awake_walk (w : World) : Calls Tryz.prog 13 #[] w fun e w' => e = .returned (.bool true) ∧ Below w.heap.size w w' := runA_true primsB_ok awake_run w
#print axioms awake_walk
end Go.Proofs.YtcpmgjnlnaigbaaGreatDoor
