/- slices.Sorted over maps.Keys at this dump, as known to the evaluator. -/
import Derived.Test.YtfchpilaomkhgaaGreatDoorIt
import Derived.Test.YtfchpilaomkhgaaGreatDoorEvSo
set_option linter.unusedVariables false
namespace Go.Proofs.YtfchpilaomkhgaaGreatDoor
open Go.RowKit Go.Maps Go.Sort Go.Shelf Go.Proofs Go.Ev

theorem sorts325 (m : Nat) : AnyZ.SortsIn Tryz.prog Tryz.sorted325_ren Fence.wide m :=
  ⟨fun blk off cap ss W hH hblk hsz => callsIn_wide.2 (AnyM.slices_Sort_string Tryz.sort345 blk off cap ss W hH hblk hsz),
   fun p cap W => callsIn_wide.2 (AnyM.slices_Sort_string_none Tryz.sort345 p cap W)⟩
theorem enters325 : Go.Ev.Enters Tryz.prog 325 := ⟨_, _, Tryz.func325, by kernel_rfl, rfl⟩

set_option maxRecDepth 100000 in
theorem sortedOk326 : SortedOk Tryz.prog keyStr 325 346 :=
  sortedOk_str (ρK := Tryz.keys326_ren) Tryz.sorted325 { Tryz.keys326 with } (sorts325 _) (enters_of Tryz.func345 (by kernel_rfl) rfl) enters325 (enters_of Tryz.func346 (by kernel_rfl) rfl) (by kernel_rfl)
set_option maxRecDepth 100000 in
theorem sortedOk328 : SortedOk Tryz.prog keyStr 325 347 :=
  sortedOk_str (ρK := Tryz.keys328_ren) Tryz.sorted325 { Tryz.keys328 with } (sorts325 _) (enters_of Tryz.func345 (by kernel_rfl) rfl) enters325 (enters_of Tryz.func347 (by kernel_rfl) rfl) (by kernel_rfl)
set_option maxRecDepth 100000 in
theorem sortedOk349 : SortedOk Tryz.prog keyStr 325 362 :=
  sortedOk_str (ρK := Tryz.keys349_ren) Tryz.sorted325 { Tryz.keys349 with } (sorts325 _) (enters_of Tryz.func345 (by kernel_rfl) rfl) enters325 (enters_of Tryz.func362 (by kernel_rfl) rfl) (by kernel_rfl)

/-- the iterators of maps.Keys -/
noncomputable def isKeysS (f : FuncId) : Bool := bc (Nat.beq f 346) true (bc (Nat.beq f 347) true (bc (Nat.beq f 362) true (false)))
theorem isKeysS_ok (f : FuncId) (h : isKeysS f = true) : SortedOk Tryz.prog keyStr 325 f := by
  unfold isKeysS at h
  cases h0 : Nat.beq f 346 with
  | true => rw [Nat.beq_eq] at h0; subst h0; exact sortedOk326
  | false =>
  rw [h0, bc_false] at h
  cases h1 : Nat.beq f 347 with
  | true => rw [Nat.beq_eq] at h1; subst h1; exact sortedOk328
  | false =>
  rw [h1, bc_false] at h
  cases h2 : Nat.beq f 362 with
  | true => rw [Nat.beq_eq] at h2; subst h2; exact sortedOk349
  | false =>
  rw [h2, bc_false] at h
  cases h
def fSorted : FuncId := 325
theorem sorted_known : CallOk Tryz.prog fun g xs A => bc (Nat.beq g fSorted) (sortedP fitStr isKeysS xs A) none := sorted_prim keyStr isKeysS_ok
end Go.Proofs.YtfchpilaomkhgaaGreatDoor
