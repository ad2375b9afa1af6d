/- slices.Sorted over maps.Keys at this dump, whole numbers for keys, as known to the evaluator. -/
import Derived.Test.YtdedklofngjlkaaGreatDoorIi
import Derived.Test.YtdedklofngjlkaaGreatDoorEvSi
set_option linter.unusedVariables false
namespace Go.Proofs.YtdedklofngjlkaaGreatDoor
open Go.RowKit Go.Maps Go.Sort Go.Shelf Go.Proofs Go.Ev

theorem sortsI281 (m : Nat) : AnyZI.SortsIn Tryz.prog Tryz.sortedI281_ren Fence.wide m :=
  ⟨fun blk off cap ss W hH hblk hsz => callsIn_wide.2 (AnyM.slices_Sort_int Tryz.sortI306 blk off cap ss W hH hblk hsz),
   fun p cap W => callsIn_wide.2 (AnyM.slices_Sort_int_none Tryz.sortI306 p cap W)⟩
theorem entersI281 : Go.Ev.Enters Tryz.prog 281 := ⟨_, _, Tryz.func281, by kernel_rfl, rfl⟩

set_option maxRecDepth 100000 in
theorem sortedOkI282 : SortedOk Tryz.prog keyInt 281 307 :=
  sortedOk_int (ρK := Tryz.keysI282_ren) Tryz.sortedI281 { Tryz.keysI282 with } (sortsI281 _) (enters_of Tryz.func306 (by kernel_rfl) rfl) entersI281 (enters_of Tryz.func307 (by kernel_rfl) rfl) (by kernel_rfl)

noncomputable def isKeysI (f : FuncId) : Bool := bc (Nat.beq f 307) true (false)
theorem isKeysI_ok (f : FuncId) (h : isKeysI f = true) : SortedOk Tryz.prog keyInt 281 f := by
  unfold isKeysI at h
  cases h307 : Nat.beq f 307 with
  | true => rw [Nat.beq_eq] at h307; subst h307; exact sortedOkI282
  | false =>
  rw [h307, bc_false] at h
  cases h
noncomputable def fSortedI : FuncId := 281
theorem sortedI_known : CallOk Tryz.prog fun g xs A => bc (Nat.beq g fSortedI) (sortedP fitInt isKeysI xs A) none := sorted_prim keyInt isKeysI_ok
end Go.Proofs.YtdedklofngjlkaaGreatDoor
