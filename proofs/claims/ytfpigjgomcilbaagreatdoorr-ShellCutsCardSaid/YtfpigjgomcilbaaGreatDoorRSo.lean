/- slices.Sorted over maps.Keys at this dump, as known to the evaluator. -/
import Derived.Test.YtfpigjgomcilbaaGreatDoorRIt
import Derived.Test.YtfpigjgomcilbaaGreatDoorREvSo
set_option linter.unusedVariables false
namespace Go.Proofs.YtfpigjgomcilbaaGreatDoorR
open Go.RowKit Go.Maps Go.Sort Go.Shelf Go.Proofs Go.Ev

theorem sorts306 (m : Nat) : AnyZ.SortsIn Tryz.prog Tryz.sorted306_ren Fence.wide m :=
  ⟨fun blk off cap ss W hH hblk hsz => callsIn_wide.2 (AnyM.slices_Sort_string Tryz.sort326 blk off cap ss W hH hblk hsz),
   fun p cap W => callsIn_wide.2 (AnyM.slices_Sort_string_none Tryz.sort326 p cap W)⟩
theorem enters306 : Go.Ev.Enters Tryz.prog 306 := ⟨_, _, Tryz.func306, by kernel_rfl, rfl⟩

set_option maxRecDepth 100000 in
theorem sortedOk307 : SortedOk Tryz.prog keyStr 306 327 :=
  sortedOk_str (ρK := Tryz.keys307_ren) Tryz.sorted306 { Tryz.keys307 with } (sorts306 _) (enters_of Tryz.func326 (by kernel_rfl) rfl) enters306 (enters_of Tryz.func327 (by kernel_rfl) rfl) (by kernel_rfl)
set_option maxRecDepth 100000 in
theorem sortedOk309 : SortedOk Tryz.prog keyStr 306 328 :=
  sortedOk_str (ρK := Tryz.keys309_ren) Tryz.sorted306 { Tryz.keys309 with } (sorts306 _) (enters_of Tryz.func326 (by kernel_rfl) rfl) enters306 (enters_of Tryz.func328 (by kernel_rfl) rfl) (by kernel_rfl)
set_option maxRecDepth 100000 in
theorem sortedOk330 : SortedOk Tryz.prog keyStr 306 343 :=
  sortedOk_str (ρK := Tryz.keys330_ren) Tryz.sorted306 { Tryz.keys330 with } (sorts306 _) (enters_of Tryz.func326 (by kernel_rfl) rfl) enters306 (enters_of Tryz.func343 (by kernel_rfl) rfl) (by kernel_rfl)

/-- the iterators of maps.Keys -/
noncomputable def isKeysS (f : FuncId) : Bool := bc (Nat.beq f 327) true (bc (Nat.beq f 328) true (bc (Nat.beq f 343) true (false)))
theorem isKeysS_ok (f : FuncId) (h : isKeysS f = true) : SortedOk Tryz.prog keyStr 306 f := by
  unfold isKeysS at h
  cases h0 : Nat.beq f 327 with
  | true => rw [Nat.beq_eq] at h0; subst h0; exact sortedOk307
  | false =>
  rw [h0, bc_false] at h
  cases h1 : Nat.beq f 328 with
  | true => rw [Nat.beq_eq] at h1; subst h1; exact sortedOk309
  | false =>
  rw [h1, bc_false] at h
  cases h2 : Nat.beq f 343 with
  | true => rw [Nat.beq_eq] at h2; subst h2; exact sortedOk330
  | false =>
  rw [h2, bc_false] at h
  cases h
def fSorted : FuncId := 306
theorem sorted_known : CallOk Tryz.prog fun g xs A => bc (Nat.beq g fSorted) (sortedP fitStr isKeysS xs A) none := sorted_prim keyStr isKeysS_ok
end Go.Proofs.YtfpigjgomcilbaaGreatDoorR
