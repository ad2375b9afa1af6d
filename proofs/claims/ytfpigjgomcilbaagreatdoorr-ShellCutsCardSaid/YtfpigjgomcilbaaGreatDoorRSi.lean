/- slices.Sorted over maps.Keys at this dump, whole numbers for keys, as known to the evaluator. -/
import Derived.Test.YtfpigjgomcilbaaGreatDoorRIi
import Derived.Test.YtfpigjgomcilbaaGreatDoorREvSi
set_option linter.unusedVariables false
namespace Go.Proofs.YtfpigjgomcilbaaGreatDoorR
open Go.RowKit Go.Maps Go.Sort Go.Shelf Go.Proofs Go.Ev

theorem sortsI291 (m : Nat) : AnyZI.SortsIn Tryz.prog Tryz.sortedI291_ren Fence.wide m :=
  ⟨fun blk off cap ss W hH hblk hsz => callsIn_wide.2 (AnyM.slices_Sort_int Tryz.sortI318 blk off cap ss W hH hblk hsz),
   fun p cap W => callsIn_wide.2 (AnyM.slices_Sort_int_none Tryz.sortI318 p cap W)⟩
theorem entersI291 : Go.Ev.Enters Tryz.prog 291 := ⟨_, _, Tryz.func291, by kernel_rfl, rfl⟩

set_option maxRecDepth 100000 in
theorem sortedOkI292 : SortedOk Tryz.prog keyInt 291 319 :=
  sortedOk_int (ρK := Tryz.keysI292_ren) Tryz.sortedI291 { Tryz.keysI292 with } (sortsI291 _) (enters_of Tryz.func318 (by kernel_rfl) rfl) entersI291 (enters_of Tryz.func319 (by kernel_rfl) rfl) (by kernel_rfl)

noncomputable def isKeysI (f : FuncId) : Bool := bc (Nat.beq f 319) true (false)
theorem isKeysI_ok (f : FuncId) (h : isKeysI f = true) : SortedOk Tryz.prog keyInt 291 f := by
  unfold isKeysI at h
  cases h319 : Nat.beq f 319 with
  | true => rw [Nat.beq_eq] at h319; subst h319; exact sortedOkI292
  | false =>
  rw [h319, bc_false] at h
  cases h
noncomputable def fSortedI : FuncId := 291
theorem sortedI_known : CallOk Tryz.prog fun g xs A => bc (Nat.beq g fSortedI) (sortedP fitInt isKeysI xs A) none := sorted_prim keyInt isKeysI_ok
end Go.Proofs.YtfpigjgomcilbaaGreatDoorR
