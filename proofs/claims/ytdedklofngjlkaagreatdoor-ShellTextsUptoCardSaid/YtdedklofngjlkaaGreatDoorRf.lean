/- The row ShellTexts: its closed facts, each by itself. -/
import Derived.Test.YtdedklofngjlkaaGreatDoorRows
import Derived.JoinedOf
import Derived.KernelRfl
namespace Go.Proofs.YtdedklofngjlkaaGreatDoor.shellTexts
set_option linter.unusedVariables false
set_option maxHeartbeats 4000000 in
set_option maxRecDepth 100000 in
theorem facts : joinedFacts Tryz.prog 3 Tryz.f3 (Rows.OpenSpec.upto Rows.shellTextsSpec).bare Rows.shellTextsUptoRow = true := by
  unfold joinedFacts
  simp only [Bool.and_eq_true]
  repeat' apply And.intro
  all_goals (as_aux_lemma => kernel_rfl)
end Go.Proofs.YtdedklofngjlkaaGreatDoor.shellTexts
