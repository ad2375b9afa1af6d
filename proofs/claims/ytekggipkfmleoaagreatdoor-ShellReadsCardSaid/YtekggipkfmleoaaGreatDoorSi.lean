/- slices.Sorted over maps.Keys at this dump, whole numbers for keys, as known to the evaluator. -/
import Derived.Test.YtekggipkfmleoaaGreatDoorIi
import Derived.Test.YtekggipkfmleoaaGreatDoorEvSi
set_option linter.unusedVariables false
namespace Go.Proofs.YtekggipkfmleoaaGreatDoor
open Go.RowKit Go.Maps Go.Sort Go.Shelf Go.Proofs Go.Ev

theorem sortsI305 (m : Nat) : AnyZI.SortsIn Tryz.prog Tryz.sortedI305_ren Fence.wide m :=
  ⟨fun blk off cap ss W hH hblk hsz => callsIn_wide.2 (AnyM.slices_Sort_int Tryz.sortI332 blk off cap ss W hH hblk hsz),
   fun p cap W => callsIn_wide.2 (AnyM.slices_Sort_int_none Tryz.sortI332 p cap W)⟩
theorem entersI305 : Go.Ev.Enters Tryz.prog 305 := ⟨_, _, Tryz.func305, by kernel_rfl, rfl⟩

set_option maxRecDepth 100000 in
theorem sortedOkI306 : SortedOk Tryz.prog keyInt 305 333 :=
  sortedOk_int (ρK := Tryz.keysI306_ren) Tryz.sortedI305 { Tryz.keysI306 with } (sortsI305 _) (enters_of Tryz.func332 (by kernel_rfl) rfl) entersI305 (enters_of Tryz.func333 (by kernel_rfl) rfl) (by kernel_rfl)

noncomputable def isKeysI (f : FuncId) : Bool := bc (Nat.beq f 333) true (false)
theorem isKeysI_ok (f : FuncId) (h : isKeysI f = true) : SortedOk Tryz.prog keyInt 305 f := by
  unfold isKeysI at h
  cases h333 : Nat.beq f 333 with
  | true => rw [Nat.beq_eq] at h333; subst h333; exact sortedOkI306
  | false =>
  rw [h333, bc_false] at h
  cases h
noncomputable def fSortedI : FuncId := 305
theorem sortedI_known : CallOk Tryz.prog fun g xs A => bc (Nat.beq g fSortedI) (sortedP fitInt isKeysI xs A) none := sorted_prim keyInt isKeysI_ok
end Go.Proofs.YtekggipkfmleoaaGreatDoor
