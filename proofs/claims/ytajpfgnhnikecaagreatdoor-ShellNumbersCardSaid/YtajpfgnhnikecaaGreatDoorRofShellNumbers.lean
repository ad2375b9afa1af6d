/- The row ShellNumbers: its closed facts, each by itself. -/
import Derived.Test.YtajpfgnhnikecaaGreatDoorRows
import Derived.JoinedOf
import Derived.KernelRfl
namespace Go.Proofs.YtajpfgnhnikecaaGreatDoor.shellNumbers
set_option linter.unusedVariables false
set_option maxHeartbeats 4000000 in
set_option maxRecDepth 100000 in
theorem facts : joinedFacts Tryz.prog 8 Tryz.f8 Rows.shellNumbersSpec Rows.shellNumbersRow = true := by
  unfold joinedFacts
  simp only [Bool.and_eq_true]
  repeat' apply And.intro
  all_goals (as_aux_lemma => kernel_rfl)
end Go.Proofs.YtajpfgnhnikecaaGreatDoor.shellNumbers
