/- conclavetop.awake: the second call of Settle, in three pieces, by the kernel. -/
import Derived.Test.YtcpmgjnlnaigbaaGreatDoorSt2
import Derived.Test.YtcpmgjnlnaigbaaGreatDoorSt3
set_option linter.unusedVariables false
namespace Go.Proofs.YtcpmgjnlnaigbaaGreatDoor
open Go.RowKit Go.Ev
def awB : List AV := [.ptr (some (1150, 0)), .int .i64 40000]
theorem s2_first : firstS evAw.code 0 3 setA awB aw3H aw3N aw3a = true := by kernel_rfl
theorem s2_mid : midS evAw.code 0 1 setA aw3a aw3b = true := by kernel_rfl
theorem s2_last : lastS Tryz.prog evAw.code 1000 0 setA aw3b aw4V aw4H aw4N = true := by kernel_rfl
theorem awSet2 : CallPt Tryz.prog 32 awB (mkH aw3H aw3N) aw4V (mkH aw4H aw4N) :=
  callPt_scope noGorA codeA_ok setA_eq (by kernel_rfl) s2_first (goodS_mid codeA_ok s2_mid (goodS_last codeA_ok s2_last))
#print axioms awSet2
end Go.Proofs.YtcpmgjnlnaigbaaGreatDoor
