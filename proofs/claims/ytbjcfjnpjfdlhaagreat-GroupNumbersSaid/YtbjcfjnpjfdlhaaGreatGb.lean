/- Chapter 23: the first great call of Settle, in three pieces, by the kernel. -/
import Derived.Test.YtbjcfjnpjfdlhaaGreatG1
import Derived.Test.YtbjcfjnpjfdlhaaGreatG2
import Derived.Test.YtbjcfjnpjfdlhaaGreatG3
import Derived.Test.YtbjcfjnpjfdlhaaGreatG4
set_option linter.unusedVariables false
namespace Go.Proofs.YtbjcfjnpjfdlhaaGreat
open Go.RowKit Go.Ev
def set1A : List AV := [.ptr (some (1005, 0)), .int .i64 500]
theorem set1_first : firstS evG.code 0 165 setX set1A g1H g1N g2 = true := by kernel_rfl
theorem set1_mid : midS evG.code 0 165 setX g2 g3 = true := by kernel_rfl
theorem set1_last : lastS Tryz.prog evG.code 1000 0 setX g3 g4V g4H g4N = true := by kernel_rfl
theorem set1 : CallPt Tryz.prog 14 set1A (mkH g1H g1N) g4V (mkH g4H g4N) :=
  callPt_scope noGor codeG_ok setX_eq (by kernel_rfl) set1_first (goodS_mid codeG_ok set1_mid (goodS_last codeG_ok set1_last))
#print axioms set1
end Go.Proofs.YtbjcfjnpjfdlhaaGreat
