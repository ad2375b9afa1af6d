/- slices.Sorted over maps.Keys at this dump, as known to the evaluator. -/
import Derived.Test.YtioobcgokkfblaaGreatDoorIt
import Derived.Test.YtioobcgokkfblaaGreatDoorEvSo
set_option linter.unusedVariables false
namespace Go.Proofs.YtioobcgokkfblaaGreatDoor
open Go.RowKit Go.Maps Go.Sort Go.Shelf Go.Proofs Go.Ev

theorem sorts40 (m : Nat) : AnyZ.SortsIn Tryz.prog Tryz.sorted40_ren Fence.wide m :=
  ⟨fun blk off cap ss W hH hblk hsz => callsIn_wide.2 (AnyM.slices_Sort_string Tryz.sort60 blk off cap ss W hH hblk hsz),
   fun p cap W => callsIn_wide.2 (AnyM.slices_Sort_string_none Tryz.sort60 p cap W)⟩
theorem enters40 : Go.Ev.Enters Tryz.prog 40 := ⟨_, _, Tryz.func40, by kernel_rfl, rfl⟩

set_option maxRecDepth 100000 in
theorem sortedOk41 : SortedOk Tryz.prog keyStr 40 61 :=
  sortedOk_str (ρK := Tryz.keys41_ren) Tryz.sorted40 { Tryz.keys41 with } (sorts40 _) (enters_of Tryz.func60 (by kernel_rfl) rfl) enters40 (enters_of Tryz.func61 (by kernel_rfl) rfl) (by kernel_rfl)

/-- the iterators of maps.Keys -/
noncomputable def isKeysS (f : FuncId) : Bool := bc (Nat.beq f 61) true (false)
theorem isKeysS_ok (f : FuncId) (h : isKeysS f = true) : SortedOk Tryz.prog keyStr 40 f := by
  unfold isKeysS at h
  cases h0 : Nat.beq f 61 with
  | true => rw [Nat.beq_eq] at h0; subst h0; exact sortedOk41
  | false =>
  rw [h0, bc_false] at h
  cases h
def fSorted : FuncId := 40
theorem sorted_known : CallOk Tryz.prog fun g xs A => bc (Nat.beq g fSorted) (sortedP fitStr isKeysS xs A) none := sorted_prim keyStr isKeysS_ok
end Go.Proofs.YtioobcgokkfblaaGreatDoor
