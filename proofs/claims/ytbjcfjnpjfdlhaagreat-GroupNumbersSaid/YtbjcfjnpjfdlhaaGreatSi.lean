/- slices.Sorted over maps.Keys at this dump, whole numbers for keys, as known to the evaluator. -/
import Derived.Test.YtbjcfjnpjfdlhaaGreatIi
import Derived.Test.YtbjcfjnpjfdlhaaGreatEvSi
set_option linter.unusedVariables false
namespace Go.Proofs.YtbjcfjnpjfdlhaaGreat
open Go.RowKit Go.Maps Go.Sort Go.Shelf Go.Proofs Go.Ev

theorem sortsI165 (m : Nat) : AnyZI.SortsIn Tryz.prog Tryz.sortedI165_ren Fence.wide m :=
  ⟨fun blk off cap ss W hH hblk hsz => callsIn_wide.2 (AnyM.slices_Sort_int Tryz.sortI177 blk off cap ss W hH hblk hsz),
   fun p cap W => callsIn_wide.2 (AnyM.slices_Sort_int_none Tryz.sortI177 p cap W)⟩
theorem entersI165 : Go.Ev.Enters Tryz.prog 165 := ⟨_, _, Tryz.func165, by kernel_rfl, rfl⟩

set_option maxRecDepth 100000 in
theorem sortedOkI166 : SortedOk Tryz.prog keyInt 165 178 :=
  sortedOk_int (ρK := Tryz.keysI166_ren) Tryz.sortedI165 { Tryz.keysI166 with } (sortsI165 _) (enters_of Tryz.func177 (by kernel_rfl) rfl) entersI165 (enters_of Tryz.func178 (by kernel_rfl) rfl) (by kernel_rfl)

noncomputable def isKeysI (f : FuncId) : Bool := bc (Nat.beq f 178) true (false)
theorem isKeysI_ok (f : FuncId) (h : isKeysI f = true) : SortedOk Tryz.prog keyInt 165 f := by
  unfold isKeysI at h
  cases h178 : Nat.beq f 178 with
  | true => rw [Nat.beq_eq] at h178; subst h178; exact sortedOkI166
  | false =>
  rw [h178, bc_false] at h
  cases h
noncomputable def fSortedI : FuncId := 165
theorem sortedI_known : CallOk Tryz.prog fun g xs A => bc (Nat.beq g fSortedI) (sortedP fitInt isKeysI xs A) none := sorted_prim keyInt isKeysI_ok
end Go.Proofs.YtbjcfjnpjfdlhaaGreat
