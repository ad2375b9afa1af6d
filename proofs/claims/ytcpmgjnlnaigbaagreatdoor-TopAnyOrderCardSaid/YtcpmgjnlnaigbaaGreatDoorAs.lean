/- conclavetop.awake: the first call of Settle, in four pieces, by the kernel. -/
import Derived.Test.YtcpmgjnlnaigbaaGreatDoorSt1
import Derived.Test.YtcpmgjnlnaigbaaGreatDoorSt2
set_option linter.unusedVariables false
namespace Go.Proofs.YtcpmgjnlnaigbaaGreatDoor
open Go.RowKit Go.Ev
def awA : List AV := [.ptr (some (1150, 0)), .int .i64 40000]
theorem s1_first : firstS evAw.code 0 7 setA awA aw1H aw1N aw1a = true := by kernel_rfl
theorem s1_mid1 : midS evAw.code 0 4 setA aw1a aw1b = true := by kernel_rfl
theorem s1_mid2 : midS evAw.code 0 1 setA aw1b aw1c = true := by kernel_rfl
theorem s1_last : lastS Tryz.prog evAw.code 1000 0 setA aw1c aw2V aw2H aw2N = true := by kernel_rfl
theorem awSet1 : CallPt Tryz.prog 32 awA (mkH aw1H aw1N) aw2V (mkH aw2H aw2N) :=
  callPt_scope noGorA codeA_ok setA_eq (by kernel_rfl) s1_first (goodS_mid codeA_ok s1_mid1 (goodS_mid codeA_ok s1_mid2 (goodS_last codeA_ok s1_last)))
#print axioms awSet1
end Go.Proofs.YtcpmgjnlnaigbaaGreatDoor
