/- What is known of functions in the runs of chapter 16. -/
import Derived.Test.YtkkpgljekclokaaGreatDoorPm
set_option linter.unusedVariables false
namespace Go.Proofs.YtkkpgljekclokaaGreatDoor
open Go.RowKit Go.Ev
noncomputable def primsL : Prims := ⟨fnsC, fun f => bc (Nat.beq f 250) (some (2, some 2)) none⟩
theorem primsL_ok : PrimsOk Tryz.prog primsL := prims_of fnsC_ok
end Go.Proofs.YtkkpgljekclokaaGreatDoor
