/- slices.Sorted over maps.Keys at this dump, as known to the evaluator. -/
import Derived.Test.YtdedklofngjlkaaGreatDoorIt
import Derived.Test.YtdedklofngjlkaaGreatDoorEvSo
set_option linter.unusedVariables false
namespace Go.Proofs.YtdedklofngjlkaaGreatDoor
open Go.RowKit Go.Maps Go.Sort Go.Shelf Go.Proofs Go.Ev

theorem sorts294 (m : Nat) : AnyZ.SortsIn Tryz.prog Tryz.sorted294_ren Fence.wide m :=
  ⟨fun blk off cap ss W hH hblk hsz => callsIn_wide.2 (AnyM.slices_Sort_string Tryz.sort314 blk off cap ss W hH hblk hsz),
   fun p cap W => callsIn_wide.2 (AnyM.slices_Sort_string_none Tryz.sort314 p cap W)⟩
theorem enters294 : Go.Ev.Enters Tryz.prog 294 := ⟨_, _, Tryz.func294, by kernel_rfl, rfl⟩

set_option maxRecDepth 100000 in
theorem sortedOk295 : SortedOk Tryz.prog keyStr 294 315 :=
  sortedOk_str (ρK := Tryz.keys295_ren) Tryz.sorted294 { Tryz.keys295 with } (sorts294 _) (enters_of Tryz.func314 (by kernel_rfl) rfl) enters294 (enters_of Tryz.func315 (by kernel_rfl) rfl) (by kernel_rfl)
set_option maxRecDepth 100000 in
theorem sortedOk297 : SortedOk Tryz.prog keyStr 294 316 :=
  sortedOk_str (ρK := Tryz.keys297_ren) Tryz.sorted294 { Tryz.keys297 with } (sorts294 _) (enters_of Tryz.func314 (by kernel_rfl) rfl) enters294 (enters_of Tryz.func316 (by kernel_rfl) rfl) (by kernel_rfl)
set_option maxRecDepth 100000 in
theorem sortedOk318 : SortedOk Tryz.prog keyStr 294 331 :=
  sortedOk_str (ρK := Tryz.keys318_ren) Tryz.sorted294 { Tryz.keys318 with } (sorts294 _) (enters_of Tryz.func314 (by kernel_rfl) rfl) enters294 (enters_of Tryz.func331 (by kernel_rfl) rfl) (by kernel_rfl)

/-- the iterators of maps.Keys -/
noncomputable def isKeysS (f : FuncId) : Bool := bc (Nat.beq f 315) true (bc (Nat.beq f 316) true (bc (Nat.beq f 331) true (false)))
theorem isKeysS_ok (f : FuncId) (h : isKeysS f = true) : SortedOk Tryz.prog keyStr 294 f := by
  unfold isKeysS at h
  cases h0 : Nat.beq f 315 with
  | true => rw [Nat.beq_eq] at h0; subst h0; exact sortedOk295
  | false =>
  rw [h0, bc_false] at h
  cases h1 : Nat.beq f 316 with
  | true => rw [Nat.beq_eq] at h1; subst h1; exact sortedOk297
  | false =>
  rw [h1, bc_false] at h
  cases h2 : Nat.beq f 331 with
  | true => rw [Nat.beq_eq] at h2; subst h2; exact sortedOk318
  | false =>
  rw [h2, bc_false] at h
  cases h
def fSorted : FuncId := 294
theorem sorted_known : CallOk Tryz.prog fun g xs A => bc (Nat.beq g fSorted) (sortedP fitStr isKeysS xs A) none := sorted_prim keyStr isKeysS_ok
end Go.Proofs.YtdedklofngjlkaaGreatDoor
