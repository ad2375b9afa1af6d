/- Chapter 23: the second great call of Settle; known: by the kernel. -/
import Derived.Test.YtbjcfjnpjfdlhaaGreatGa
import Derived.Test.YtbjcfjnpjfdlhaaGreatG5
import Derived.Test.YtbjcfjnpjfdlhaaGreatG6
set_option linter.unusedVariables false
namespace Go.Proofs.YtbjcfjnpjfdlhaaGreat
open Go.RowKit Go.Ev
def set2A : List AV := [.ptr (some (1005, 0)), .int .i64 20000]
theorem set2_run : callB evG.call 14 set2A g5H g5N g6V g6H g6N = true := by kernel_rfl
theorem set2 : CallPt Tryz.prog 14 set2A (mkH g5H g5N) g6V (mkH g6H g6N) := callPt_run callG_ok set2_run
#print axioms set2
end Go.Proofs.YtbjcfjnpjfdlhaaGreat
