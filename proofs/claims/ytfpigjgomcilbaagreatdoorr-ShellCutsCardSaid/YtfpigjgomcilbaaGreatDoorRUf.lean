/- The row ShellCuts: its closed facts, each by itself. -/
import Derived.Test.YtfpigjgomcilbaaGreatDoorRRows
import Derived.JoinedOf
import Derived.KernelRfl
namespace Go.Proofs.YtfpigjgomcilbaaGreatDoorR.shellCuts
set_option linter.unusedVariables false
set_option maxHeartbeats 4000000 in
set_option maxRecDepth 100000 in
theorem facts : joinedFacts Tryz.prog 4 Tryz.f4 (OpenSpec.ofChange Rows.shellCutsSpec).bare Rows.shellCutsRow = true := by
  unfold joinedFacts
  simp only [Bool.and_eq_true]
  repeat' apply And.intro
  all_goals (as_aux_lemma => kernel_rfl)
end Go.Proofs.YtfpigjgomcilbaaGreatDoorR.shellCuts
