/- slices.Sorted over maps.Keys at this dump, as known to the evaluator. -/
import Derived.Test.YtajpfgnhnikecaaGreatDoorIt
import Derived.Test.YtajpfgnhnikecaaGreatDoorEvSo
set_option linter.unusedVariables false
namespace Go.Proofs.YtajpfgnhnikecaaGreatDoor
open Go.RowKit Go.Maps Go.Sort Go.Shelf Go.Proofs Go.Ev

theorem sorts329 (m : Nat) : AnyZ.SortsIn Tryz.prog Tryz.sorted329_ren Fence.wide m :=
  ⟨fun blk off cap ss W hH hblk hsz => callsIn_wide.2 (AnyM.slices_Sort_string Tryz.sort349 blk off cap ss W hH hblk hsz),
   fun p cap W => callsIn_wide.2 (AnyM.slices_Sort_string_none Tryz.sort349 p cap W)⟩
theorem enters329 : Go.Ev.Enters Tryz.prog 329 := ⟨_, _, Tryz.func329, by kernel_rfl, rfl⟩

set_option maxRecDepth 100000 in
theorem sortedOk330 : SortedOk Tryz.prog keyStr 329 350 :=
  sortedOk_str (ρK := Tryz.keys330_ren) Tryz.sorted329 { Tryz.keys330 with } (sorts329 _) (enters_of Tryz.func349 (by kernel_rfl) rfl) enters329 (enters_of Tryz.func350 (by kernel_rfl) rfl) (by kernel_rfl)
set_option maxRecDepth 100000 in
theorem sortedOk332 : SortedOk Tryz.prog keyStr 329 351 :=
  sortedOk_str (ρK := Tryz.keys332_ren) Tryz.sorted329 { Tryz.keys332 with } (sorts329 _) (enters_of Tryz.func349 (by kernel_rfl) rfl) enters329 (enters_of Tryz.func351 (by kernel_rfl) rfl) (by kernel_rfl)
set_option maxRecDepth 100000 in
theorem sortedOk353 : SortedOk Tryz.prog keyStr 329 366 :=
  sortedOk_str (ρK := Tryz.keys353_ren) Tryz.sorted329 { Tryz.keys353 with } (sorts329 _) (enters_of Tryz.func349 (by kernel_rfl) rfl) enters329 (enters_of Tryz.func366 (by kernel_rfl) rfl) (by kernel_rfl)

/-- the iterators of maps.Keys -/
noncomputable def isKeysS (f : FuncId) : Bool := bc (Nat.beq f 350) true (bc (Nat.beq f 351) true (bc (Nat.beq f 366) true (false)))
theorem isKeysS_ok (f : FuncId) (h : isKeysS f = true) : SortedOk Tryz.prog keyStr 329 f := by
  unfold isKeysS at h
  cases h0 : Nat.beq f 350 with
  | true => rw [Nat.beq_eq] at h0; subst h0; exact sortedOk330
  | false =>
  rw [h0, bc_false] at h
  cases h1 : Nat.beq f 351 with
  | true => rw [Nat.beq_eq] at h1; subst h1; exact sortedOk332
  | false =>
  rw [h1, bc_false] at h
  cases h2 : Nat.beq f 366 with
  | true => rw [Nat.beq_eq] at h2; subst h2; exact sortedOk353
  | false =>
  rw [h2, bc_false] at h
  cases h
def fSorted : FuncId := 329
theorem sorted_known : CallOk Tryz.prog fun g xs A => bc (Nat.beq g fSorted) (sortedP fitStr isKeysS xs A) none := sorted_prim keyStr isKeysS_ok
end Go.Proofs.YtajpfgnhnikecaaGreatDoor
