/- Chapter 26: known, by the kernel. -/
import Derived.Test.YtekggipkfmleoaaGreatDoorSa
set_option linter.unusedVariables false
namespace Go.Proofs.YtekggipkfmleoaaGreatDoor
open Go.RowKit Go.Ev
theorem known_run : okRun (evSh.call 12 [] (heapT 0)) = true := by kernel_rfl
theorem known_tab (w : World) (htab : Lib.TabIs Tryz.prog w tabName .u64 Lib.pow10Tab) : Calls Tryz.prog 12 #[] w fun e w' => e = .returned (.bool true) ∧ Below w.heap.size w w' := run_tab known_run w htab
#print axioms known_tab
end Go.Proofs.YtekggipkfmleoaaGreatDoor
