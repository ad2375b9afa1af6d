/- The row ShellReads: its closed facts, each by itself. -/
import Derived.Test.YtekggipkfmleoaaGreatDoorRows
import Derived.JoinedOf
import Derived.KernelRfl
namespace Go.Proofs.YtekggipkfmleoaaGreatDoor.shellReads
set_option linter.unusedVariables false
set_option maxHeartbeats 4000000 in
set_option maxRecDepth 100000 in
theorem facts : joinedFacts Tryz.prog 3 Tryz.f3 (OpenSpec.ofChange Rows.shellReadsSpec).bare Rows.shellReadsRow = true := by
  unfold joinedFacts
  simp only [Bool.and_eq_true]
  repeat' apply And.intro
  all_goals (as_aux_lemma => kernel_rfl)
end Go.Proofs.YtekggipkfmleoaaGreatDoor.shellReads
