/- slices.Sorted over maps.Keys at this dump, as known to the evaluator. -/
import Derived.Test.YtekggipkfmleoaaGreatDoorIt
import Derived.Test.YtekggipkfmleoaaGreatDoorEvSo
set_option linter.unusedVariables false
namespace Go.Proofs.YtekggipkfmleoaaGreatDoor
open Go.RowKit Go.Maps Go.Sort Go.Shelf Go.Proofs Go.Ev

theorem sorts320 (m : Nat) : AnyZ.SortsIn Tryz.prog Tryz.sorted320_ren Fence.wide m :=
  ⟨fun blk off cap ss W hH hblk hsz => callsIn_wide.2 (AnyM.slices_Sort_string Tryz.sort340 blk off cap ss W hH hblk hsz),
   fun p cap W => callsIn_wide.2 (AnyM.slices_Sort_string_none Tryz.sort340 p cap W)⟩
theorem enters320 : Go.Ev.Enters Tryz.prog 320 := ⟨_, _, Tryz.func320, by kernel_rfl, rfl⟩

set_option maxRecDepth 100000 in
theorem sortedOk321 : SortedOk Tryz.prog keyStr 320 341 :=
  sortedOk_str (ρK := Tryz.keys321_ren) Tryz.sorted320 { Tryz.keys321 with } (sorts320 _) (enters_of Tryz.func340 (by kernel_rfl) rfl) enters320 (enters_of Tryz.func341 (by kernel_rfl) rfl) (by kernel_rfl)
set_option maxRecDepth 100000 in
theorem sortedOk323 : SortedOk Tryz.prog keyStr 320 342 :=
  sortedOk_str (ρK := Tryz.keys323_ren) Tryz.sorted320 { Tryz.keys323 with } (sorts320 _) (enters_of Tryz.func340 (by kernel_rfl) rfl) enters320 (enters_of Tryz.func342 (by kernel_rfl) rfl) (by kernel_rfl)
set_option maxRecDepth 100000 in
theorem sortedOk344 : SortedOk Tryz.prog keyStr 320 357 :=
  sortedOk_str (ρK := Tryz.keys344_ren) Tryz.sorted320 { Tryz.keys344 with } (sorts320 _) (enters_of Tryz.func340 (by kernel_rfl) rfl) enters320 (enters_of Tryz.func357 (by kernel_rfl) rfl) (by kernel_rfl)

/-- the iterators of maps.Keys -/
noncomputable def isKeysS (f : FuncId) : Bool := bc (Nat.beq f 341) true (bc (Nat.beq f 342) true (bc (Nat.beq f 357) true (false)))
theorem isKeysS_ok (f : FuncId) (h : isKeysS f = true) : SortedOk Tryz.prog keyStr 320 f := by
  unfold isKeysS at h
  cases h0 : Nat.beq f 341 with
  | true => rw [Nat.beq_eq] at h0; subst h0; exact sortedOk321
  | false =>
  rw [h0, bc_false] at h
  cases h1 : Nat.beq f 342 with
  | true => rw [Nat.beq_eq] at h1; subst h1; exact sortedOk323
  | false =>
  rw [h1, bc_false] at h
  cases h2 : Nat.beq f 357 with
  | true => rw [Nat.beq_eq] at h2; subst h2; exact sortedOk344
  | false =>
  rw [h2, bc_false] at h
  cases h
def fSorted : FuncId := 320
theorem sorted_known : CallOk Tryz.prog fun g xs A => bc (Nat.beq g fSorted) (sortedP fitStr isKeysS xs A) none := sorted_prim keyStr isKeysS_ok
end Go.Proofs.YtekggipkfmleoaaGreatDoor
