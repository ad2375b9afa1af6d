/- Chapter 26: ShellNumbers, by the kernel. -/
import Derived.Test.YtajpfgnhnikecaaGreatDoorSa
set_option linter.unusedVariables false
namespace Go.Proofs.YtajpfgnhnikecaaGreatDoor
open Go.RowKit Go.Ev
theorem shellNumbers_run : okRun (evSh.call 8 [] (heapT 0)) = true := by kernel_rfl
theorem shellNumbers_tab (w : World) (htab : Lib.TabIs Tryz.prog w tabName .u64 Lib.pow10Tab) : Calls Tryz.prog 8 #[] w fun e w' => e = .returned (.bool true) ∧ Below w.heap.size w w' := run_tab shellNumbers_run w htab
#print axioms shellNumbers_tab
end Go.Proofs.YtajpfgnhnikecaaGreatDoor
