/- Chapter 16's runs: the law, cut between the rounds of its great loop, piece for piece, by the kernel. -/
import Derived.Test.YtgjaicainmmdbaaGreatDoorN1
import Derived.Test.YtgjaicainmmdbaaGreatDoorN2
import Derived.Test.YtgjaicainmmdbaaGreatDoorN3
import Derived.Test.YtgjaicainmmdbaaGreatDoorN4
set_option linter.unusedVariables false
namespace Go.Proofs.YtgjaicainmmdbaaGreatDoor
open Go.RowKit Go.Ev
theorem n_first : firstB evN.code lawX.1 4 10 lawX.2.2 n1 = true := by kernel_rfl
theorem n_mid1 : midB evN.code lawX.1 10 parts.2.2.1 n1 n2 = true := by kernel_rfl
theorem n_mid2 : midB evN.code lawX.1 10 parts.2.2.1 n2 n3 = true := by kernel_rfl
theorem n_mid3 : midB evN.code lawX.1 8 parts.2.2.1 n3 n4 = true := by kernel_rfl
theorem n_last : lastB Tryz.prog evN.code lawX.1 1000 parts.2.1 parts.2.2.1 parts.2.2.2 lawX.2.1 n4 = true := by kernel_rfl
theorem shardNumbers_walk (w : World) : Calls Tryz.prog 3 #[] w fun e w' => e = .returned (.bool true) ∧ Below w.heap.size w w' :=
  law_first codeN_ok lawX_eq tailC_eq parts_eq n_first (good_mid codeN_ok n_mid1 (good_mid codeN_ok n_mid2 (good_mid codeN_ok n_mid3 (good_last codeN_ok n_last)))) w
#print axioms shardNumbers_walk
end Go.Proofs.YtgjaicainmmdbaaGreatDoor
