/- slices.Sorted over maps.Keys at this dump, whole numbers for keys, as known to the evaluator. -/
import Derived.Test.YtajpfgnhnikecaaGreatDoorIi
import Derived.Test.YtajpfgnhnikecaaGreatDoorEvSi
set_option linter.unusedVariables false
namespace Go.Proofs.YtajpfgnhnikecaaGreatDoor
open Go.RowKit Go.Maps Go.Sort Go.Shelf Go.Proofs Go.Ev

theorem sortsI316 (m : Nat) : AnyZI.SortsIn Tryz.prog Tryz.sortedI316_ren Fence.wide m :=
  ⟨fun blk off cap ss W hH hblk hsz => callsIn_wide.2 (AnyM.slices_Sort_int Tryz.sortI341 blk off cap ss W hH hblk hsz),
   fun p cap W => callsIn_wide.2 (AnyM.slices_Sort_int_none Tryz.sortI341 p cap W)⟩
theorem entersI316 : Go.Ev.Enters Tryz.prog 316 := ⟨_, _, Tryz.func316, by kernel_rfl, rfl⟩

set_option maxRecDepth 100000 in
theorem sortedOkI317 : SortedOk Tryz.prog keyInt 316 342 :=
  sortedOk_int (ρK := Tryz.keysI317_ren) Tryz.sortedI316 { Tryz.keysI317 with } (sortsI316 _) (enters_of Tryz.func341 (by kernel_rfl) rfl) entersI316 (enters_of Tryz.func342 (by kernel_rfl) rfl) (by kernel_rfl)

noncomputable def isKeysI (f : FuncId) : Bool := bc (Nat.beq f 342) true (false)
theorem isKeysI_ok (f : FuncId) (h : isKeysI f = true) : SortedOk Tryz.prog keyInt 316 f := by
  unfold isKeysI at h
  cases h342 : Nat.beq f 342 with
  | true => rw [Nat.beq_eq] at h342; subst h342; exact sortedOkI317
  | false =>
  rw [h342, bc_false] at h
  cases h
noncomputable def fSortedI : FuncId := 316
theorem sortedI_known : CallOk Tryz.prog fun g xs A => bc (Nat.beq g fSortedI) (sortedP fitInt isKeysI xs A) none := sorted_prim keyInt isKeysI_ok
end Go.Proofs.YtajpfgnhnikecaaGreatDoor
