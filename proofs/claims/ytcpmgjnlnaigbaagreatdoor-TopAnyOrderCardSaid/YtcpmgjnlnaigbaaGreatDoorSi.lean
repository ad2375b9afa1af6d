/- slices.Sorted over maps.Keys at this dump, whole numbers for keys, as known to the evaluator. -/
import Derived.Test.YtcpmgjnlnaigbaaGreatDoorIz
import Derived.Test.YtcpmgjnlnaigbaaGreatDoorEvSi
set_option linter.unusedVariables false
namespace Go.Proofs.YtcpmgjnlnaigbaaGreatDoor
open Go.RowKit Go.Maps Go.Sort Go.Shelf Go.Proofs Go.Ev

theorem sortsI256 (m : Nat) : AnyZI.SortsIn Tryz.prog Tryz.sortedI256_ren Fence.wide m :=
  ⟨fun blk off cap ss W hH hblk hsz => callsIn_wide.2 (AnyM.slices_Sort_int Tryz.sortI280 blk off cap ss W hH hblk hsz),
   fun p cap W => callsIn_wide.2 (AnyM.slices_Sort_int_none Tryz.sortI280 p cap W)⟩
theorem entersI256 : Go.Ev.Enters Tryz.prog 256 := ⟨_, _, Tryz.func256, by kernel_rfl, rfl⟩

set_option maxRecDepth 100000 in
theorem sortedOkI257 : SortedOk Tryz.prog keyInt 256 281 :=
  sortedOk_int (ρK := Tryz.keysI257_ren) Tryz.sortedI256 { Tryz.keysI257 with } (sortsI256 _) (enters_of Tryz.func280 (by kernel_rfl) rfl) entersI256 (enters_of Tryz.func281 (by kernel_rfl) rfl) (by kernel_rfl)

noncomputable def isKeysI (f : FuncId) : Bool := bc (Nat.beq f 281) true (false)
theorem isKeysI_ok (f : FuncId) (h : isKeysI f = true) : SortedOk Tryz.prog keyInt 256 f := by
  unfold isKeysI at h
  cases h281 : Nat.beq f 281 with
  | true => rw [Nat.beq_eq] at h281; subst h281; exact sortedOkI257
  | false =>
  rw [h281, bc_false] at h
  cases h
noncomputable def fSortedI : FuncId := 256
theorem sortedI_known : CallOk Tryz.prog fun g xs A => bc (Nat.beq g fSortedI) (sortedP fitInt isKeysI xs A) none := sorted_prim keyInt isKeysI_ok
end Go.Proofs.YtcpmgjnlnaigbaaGreatDoor
