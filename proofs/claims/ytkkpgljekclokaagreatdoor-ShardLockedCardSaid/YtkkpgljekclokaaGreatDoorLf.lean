/- Chapter 16: runs of ShardLocked, by the kernel. -/
import Derived.Test.YtkkpgljekclokaaGreatDoorLp
import Derived.KernelRfl
set_option linter.unusedVariables false
namespace Go.Proofs.YtkkpgljekclokaaGreatDoor
open Go.RowKit Go.Ev
theorem lkAt_false_false (n : Int) : cutAt Tryz.prog primsL 100000 100000 9 13 3 [.bool false, .int .i64 n, .bool false] = some (.int .i64 (wthn n 0 4)) := by kernel_rfl
theorem lk_false_false_0 (n : Int) : cutRun Tryz.prog primsL 100000 100000 9 13 3 [.bool false, .int .i64 n, .bool false] (.int .i64 0) = true := by kernel_rfl
theorem lk_false_false_1 (n : Int) : cutRun Tryz.prog primsL 100000 100000 9 13 3 [.bool false, .int .i64 n, .bool false] (.int .i64 1) = true := by kernel_rfl
theorem lk_false_false_2 (n : Int) : cutRun Tryz.prog primsL 100000 100000 9 13 3 [.bool false, .int .i64 n, .bool false] (.int .i64 2) = true := by kernel_rfl
theorem lk_false_false_3 (n : Int) : cutRun Tryz.prog primsL 100000 100000 9 13 3 [.bool false, .int .i64 n, .bool false] (.int .i64 3) = true := by kernel_rfl
theorem lk_false_false_4 (n : Int) : cutRun Tryz.prog primsL 100000 100000 9 13 3 [.bool false, .int .i64 n, .bool false] (.int .i64 4) = true := by kernel_rfl
theorem lkAt_false_true (n : Int) : cutAt Tryz.prog primsL 100000 100000 9 13 3 [.bool false, .int .i64 n, .bool true] = some (.int .i64 (wthn n 0 4)) := by kernel_rfl
theorem lk_false_true_0 (n : Int) : cutRun Tryz.prog primsL 100000 100000 9 13 3 [.bool false, .int .i64 n, .bool true] (.int .i64 0) = true := by kernel_rfl
theorem lk_false_true_1 (n : Int) : cutRun Tryz.prog primsL 100000 100000 9 13 3 [.bool false, .int .i64 n, .bool true] (.int .i64 1) = true := by kernel_rfl
theorem lk_false_true_2 (n : Int) : cutRun Tryz.prog primsL 100000 100000 9 13 3 [.bool false, .int .i64 n, .bool true] (.int .i64 2) = true := by kernel_rfl
theorem lk_false_true_3 (n : Int) : cutRun Tryz.prog primsL 100000 100000 9 13 3 [.bool false, .int .i64 n, .bool true] (.int .i64 3) = true := by kernel_rfl
theorem lk_false_true_4 (n : Int) : cutRun Tryz.prog primsL 100000 100000 9 13 3 [.bool false, .int .i64 n, .bool true] (.int .i64 4) = true := by kernel_rfl
end Go.Proofs.YtkkpgljekclokaaGreatDoor
