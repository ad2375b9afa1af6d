/- slices.Sorted over maps.Keys at this dump, as known to the evaluator. -/
import Derived.Test.YtkkpgljekclokaaGreatDoorIt
import Derived.Test.YtkkpgljekclokaaGreatDoorEvSo
set_option linter.unusedVariables false
namespace Go.Proofs.YtkkpgljekclokaaGreatDoor
open Go.RowKit Go.Maps Go.Sort Go.Shelf Go.Proofs Go.Ev

theorem sorts52 (m : Nat) : AnyZ.SortsIn Tryz.prog Tryz.sorted52_ren Fence.wide m :=
  ⟨fun blk off cap ss W hH hblk hsz => callsIn_wide.2 (AnyM.slices_Sort_string Tryz.sort113 blk off cap ss W hH hblk hsz),
   fun p cap W => callsIn_wide.2 (AnyM.slices_Sort_string_none Tryz.sort113 p cap W)⟩
theorem enters52 : Go.Ev.Enters Tryz.prog 52 := ⟨_, _, Tryz.func52, by kernel_rfl, rfl⟩

set_option maxRecDepth 100000 in
theorem sortedOk53 : SortedOk Tryz.prog keyStr 52 114 :=
  sortedOk_str (ρK := Tryz.keys53_ren) Tryz.sorted52 { Tryz.keys53 with } (sorts52 _) (enters_of Tryz.func113 (by kernel_rfl) rfl) enters52 (enters_of Tryz.func114 (by kernel_rfl) rfl) (by kernel_rfl)
set_option maxRecDepth 100000 in
theorem sortedOk74 : SortedOk Tryz.prog keyStr 52 132 :=
  sortedOk_str (ρK := Tryz.keys74_ren) Tryz.sorted52 { Tryz.keys74 with } (sorts52 _) (enters_of Tryz.func113 (by kernel_rfl) rfl) enters52 (enters_of Tryz.func132 (by kernel_rfl) rfl) (by kernel_rfl)
set_option maxRecDepth 100000 in
theorem sortedOk81 : SortedOk Tryz.prog keyStr 52 135 :=
  sortedOk_str (ρK := Tryz.keys81_ren) Tryz.sorted52 { Tryz.keys81 with } (sorts52 _) (enters_of Tryz.func113 (by kernel_rfl) rfl) enters52 (enters_of Tryz.func135 (by kernel_rfl) rfl) (by kernel_rfl)
set_option maxRecDepth 100000 in
theorem sortedOk152 : SortedOk Tryz.prog keyStr 52 175 :=
  sortedOk_str (ρK := Tryz.keys152_ren) Tryz.sorted52 { Tryz.keys152 with } (sorts52 _) (enters_of Tryz.func113 (by kernel_rfl) rfl) enters52 (enters_of Tryz.func175 (by kernel_rfl) rfl) (by kernel_rfl)

/-- the iterators of maps.Keys -/
noncomputable def isKeysS (f : FuncId) : Bool := bc (Nat.beq f 114) true (bc (Nat.beq f 132) true (bc (Nat.beq f 135) true (bc (Nat.beq f 175) true (false))))
theorem isKeysS_ok (f : FuncId) (h : isKeysS f = true) : SortedOk Tryz.prog keyStr 52 f := by
  unfold isKeysS at h
  cases h0 : Nat.beq f 114 with
  | true => rw [Nat.beq_eq] at h0; subst h0; exact sortedOk53
  | false =>
  rw [h0, bc_false] at h
  cases h1 : Nat.beq f 132 with
  | true => rw [Nat.beq_eq] at h1; subst h1; exact sortedOk74
  | false =>
  rw [h1, bc_false] at h
  cases h2 : Nat.beq f 135 with
  | true => rw [Nat.beq_eq] at h2; subst h2; exact sortedOk81
  | false =>
  rw [h2, bc_false] at h
  cases h3 : Nat.beq f 175 with
  | true => rw [Nat.beq_eq] at h3; subst h3; exact sortedOk152
  | false =>
  rw [h3, bc_false] at h
  cases h
def fSorted : FuncId := 52
theorem sorted_known : CallOk Tryz.prog fun g xs A => bc (Nat.beq g fSorted) (sortedP fitStr isKeysS xs A) none := sorted_prim keyStr isKeysS_ok
end Go.Proofs.YtkkpgljekclokaaGreatDoor
