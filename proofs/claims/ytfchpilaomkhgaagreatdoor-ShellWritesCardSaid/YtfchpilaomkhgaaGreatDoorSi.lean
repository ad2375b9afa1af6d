/- slices.Sorted over maps.Keys at this dump, whole numbers for keys, as known to the evaluator. -/
import Derived.Test.YtfchpilaomkhgaaGreatDoorIi
import Derived.Test.YtfchpilaomkhgaaGreatDoorEvSi
set_option linter.unusedVariables false
namespace Go.Proofs.YtfchpilaomkhgaaGreatDoor
open Go.RowKit Go.Maps Go.Sort Go.Shelf Go.Proofs Go.Ev

theorem sortsI310 (m : Nat) : AnyZI.SortsIn Tryz.prog Tryz.sortedI310_ren Fence.wide m :=
  ⟨fun blk off cap ss W hH hblk hsz => callsIn_wide.2 (AnyM.slices_Sort_int Tryz.sortI337 blk off cap ss W hH hblk hsz),
   fun p cap W => callsIn_wide.2 (AnyM.slices_Sort_int_none Tryz.sortI337 p cap W)⟩
theorem entersI310 : Go.Ev.Enters Tryz.prog 310 := ⟨_, _, Tryz.func310, by kernel_rfl, rfl⟩

set_option maxRecDepth 100000 in
theorem sortedOkI311 : SortedOk Tryz.prog keyInt 310 338 :=
  sortedOk_int (ρK := Tryz.keysI311_ren) Tryz.sortedI310 { Tryz.keysI311 with } (sortsI310 _) (enters_of Tryz.func337 (by kernel_rfl) rfl) entersI310 (enters_of Tryz.func338 (by kernel_rfl) rfl) (by kernel_rfl)

noncomputable def isKeysI (f : FuncId) : Bool := bc (Nat.beq f 338) true (false)
theorem isKeysI_ok (f : FuncId) (h : isKeysI f = true) : SortedOk Tryz.prog keyInt 310 f := by
  unfold isKeysI at h
  cases h338 : Nat.beq f 338 with
  | true => rw [Nat.beq_eq] at h338; subst h338; exact sortedOkI311
  | false =>
  rw [h338, bc_false] at h
  cases h
noncomputable def fSortedI : FuncId := 310
theorem sortedI_known : CallOk Tryz.prog fun g xs A => bc (Nat.beq g fSortedI) (sortedP fitInt isKeysI xs A) none := sorted_prim keyInt isKeysI_ok
end Go.Proofs.YtfchpilaomkhgaaGreatDoor
