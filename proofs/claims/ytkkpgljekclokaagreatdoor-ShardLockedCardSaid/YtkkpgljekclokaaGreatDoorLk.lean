/- Chapter 16: ShardLocked. -/
import Derived.Test.YtkkpgljekclokaaGreatDoorLf
import Derived.Test.YtkkpgljekclokaaGreatDoorLt
set_option linter.unusedVariables false
namespace Go.Proofs.YtkkpgljekclokaaGreatDoor
open Go.RowKit Go.Ev
theorem shardLocked_walk (b : Bool) (n : Int) (c : Bool) (w : World) : Calls Tryz.prog 3 #[.bool b, .int .i64 n, .bool c] w fun e w' => e = .returned (.bool true) ∧ Below w.heap.size w w' := by
  have hbd := wthn_bd n 0 4 (by omega)
  have len : ∀ x, funcOf Tryz.prog 3 = some x → 3 ≤ x.1 := fun x hx => by
    have := (show (match funcOf Tryz.prog 3 with | some x => Nat.ble 3 x.1 | none => true) = true by kernel_rfl)
    rw [hx] at this
    exact Nat.le_of_ble_eq_true this
  have go : ∀ (b c : Bool) (m : Int), wthn n 0 4 = m → cutAt Tryz.prog primsL 100000 100000 9 13 3 [.bool b, .int .i64 n, .bool c] = some (.int .i64 (wthn n 0 4)) → cutRun Tryz.prog primsL 100000 100000 9 13 3 [.bool b, .int .i64 n, .bool c] (.int .i64 m) = true →
      Calls Tryz.prog 3 #[.bool b, .int .i64 n, .bool c] w fun e w' => e = .returned (.bool true) ∧ Below w.heap.size w w' := fun b c m hm hat hrun =>
    cut_law (by kernel_rfl) (by kernel_rfl) primsL_ok (by kernel_rfl) (by omega) hrun (hm ▸ hat) (fun E => by simp [VRL, VR]) len w
  have key : wthn n 0 4 = 0 ∨ wthn n 0 4 = 1 ∨ wthn n 0 4 = 2 ∨ wthn n 0 4 = 3 ∨ wthn n 0 4 = 4 := by omega
  cases b <;> cases c <;> rcases key with h | h | h | h | h
  · exact go _ _ _ h (lkAt_false_false n) (lk_false_false_0 n)
  · exact go _ _ _ h (lkAt_false_false n) (lk_false_false_1 n)
  · exact go _ _ _ h (lkAt_false_false n) (lk_false_false_2 n)
  · exact go _ _ _ h (lkAt_false_false n) (lk_false_false_3 n)
  · exact go _ _ _ h (lkAt_false_false n) (lk_false_false_4 n)
  · exact go _ _ _ h (lkAt_false_true n) (lk_false_true_0 n)
  · exact go _ _ _ h (lkAt_false_true n) (lk_false_true_1 n)
  · exact go _ _ _ h (lkAt_false_true n) (lk_false_true_2 n)
  · exact go _ _ _ h (lkAt_false_true n) (lk_false_true_3 n)
  · exact go _ _ _ h (lkAt_false_true n) (lk_false_true_4 n)
  · exact go _ _ _ h (lkAt_true_false n) (lk_true_false_0 n)
  · exact go _ _ _ h (lkAt_true_false n) (lk_true_false_1 n)
  · exact go _ _ _ h (lkAt_true_false n) (lk_true_false_2 n)
  · exact go _ _ _ h (lkAt_true_false n) (lk_true_false_3 n)
  · exact go _ _ _ h (lkAt_true_false n) (lk_true_false_4 n)
  · exact go _ _ _ h (lkAt_true_true n) (lk_true_true_0 n)
  · exact go _ _ _ h (lkAt_true_true n) (lk_true_true_1 n)
  · exact go _ _ _ h (lkAt_true_true n) (lk_true_true_2 n)
  · exact go _ _ _ h (lkAt_true_true n) (lk_true_true_3 n)
  · exact go _ _ _ h (lkAt_true_true n) (lk_true_true_4 n)
#print axioms shardLocked_walk
end Go.Proofs.YtkkpgljekclokaaGreatDoor
