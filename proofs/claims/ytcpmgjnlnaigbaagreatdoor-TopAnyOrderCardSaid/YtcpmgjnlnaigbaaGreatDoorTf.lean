/- The row TopAnyOrder: its closed facts, each by itself. -/
import Derived.Test.YtcpmgjnlnaigbaaGreatDoorRows
import Derived.JoinedOf
import Derived.KernelRfl
namespace Go.Proofs.YtcpmgjnlnaigbaaGreatDoor.topAnyOrder
set_option linter.unusedVariables false
set_option maxHeartbeats 4000000 in
set_option maxRecDepth 100000 in
theorem facts : joinedFacts Tryz.prog 3 Tryz.f3 (OpenSpec.ofChange Rows.topAnyOrderSpec).bare Rows.topAnyOrderRow = true := by
  unfold joinedFacts
  simp only [Bool.and_eq_true]
  repeat' apply And.intro
  all_goals (as_aux_lemma => kernel_rfl)
end Go.Proofs.YtcpmgjnlnaigbaaGreatDoor.topAnyOrder
