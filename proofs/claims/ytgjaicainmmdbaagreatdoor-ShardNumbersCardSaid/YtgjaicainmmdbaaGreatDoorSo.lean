/- slices.Sorted over maps.Keys at this dump, as known to the evaluator. -/
import Derived.Test.YtgjaicainmmdbaaGreatDoorIt
import Derived.Test.YtgjaicainmmdbaaGreatDoorEvSo
set_option linter.unusedVariables false
namespace Go.Proofs.YtgjaicainmmdbaaGreatDoor
open Go.RowKit Go.Maps Go.Sort Go.Shelf Go.Proofs Go.Ev

theorem sorts77 (m : Nat) : AnyZ.SortsIn Tryz.prog Tryz.sorted77_ren Fence.wide m :=
  ⟨fun blk off cap ss W hH hblk hsz => callsIn_wide.2 (AnyM.slices_Sort_string Tryz.sort115 blk off cap ss W hH hblk hsz),
   fun p cap W => callsIn_wide.2 (AnyM.slices_Sort_string_none Tryz.sort115 p cap W)⟩
theorem enters77 : Go.Ev.Enters Tryz.prog 77 := ⟨_, _, Tryz.func77, by kernel_rfl, rfl⟩

set_option maxRecDepth 100000 in
theorem sortedOk78 : SortedOk Tryz.prog keyStr 77 116 :=
  sortedOk_str (ρK := Tryz.keys78_ren) Tryz.sorted77 { Tryz.keys78 with } (sorts77 _) (enters_of Tryz.func115 (by kernel_rfl) rfl) enters77 (enters_of Tryz.func116 (by kernel_rfl) rfl) (by kernel_rfl)
set_option maxRecDepth 100000 in
theorem sortedOk80 : SortedOk Tryz.prog keyStr 77 117 :=
  sortedOk_str (ρK := Tryz.keys80_ren) Tryz.sorted77 { Tryz.keys80 with } (sorts77 _) (enters_of Tryz.func115 (by kernel_rfl) rfl) enters77 (enters_of Tryz.func117 (by kernel_rfl) rfl) (by kernel_rfl)
set_option maxRecDepth 100000 in
theorem sortedOk101 : SortedOk Tryz.prog keyStr 77 134 :=
  sortedOk_str (ρK := Tryz.keys101_ren) Tryz.sorted77 { Tryz.keys101 with } (sorts77 _) (enters_of Tryz.func115 (by kernel_rfl) rfl) enters77 (enters_of Tryz.func134 (by kernel_rfl) rfl) (by kernel_rfl)

/-- the iterators of maps.Keys -/
noncomputable def isKeysS (f : FuncId) : Bool := bc (Nat.beq f 116) true (bc (Nat.beq f 117) true (bc (Nat.beq f 134) true (false)))
theorem isKeysS_ok (f : FuncId) (h : isKeysS f = true) : SortedOk Tryz.prog keyStr 77 f := by
  unfold isKeysS at h
  cases h0 : Nat.beq f 116 with
  | true => rw [Nat.beq_eq] at h0; subst h0; exact sortedOk78
  | false =>
  rw [h0, bc_false] at h
  cases h1 : Nat.beq f 117 with
  | true => rw [Nat.beq_eq] at h1; subst h1; exact sortedOk80
  | false =>
  rw [h1, bc_false] at h
  cases h2 : Nat.beq f 134 with
  | true => rw [Nat.beq_eq] at h2; subst h2; exact sortedOk101
  | false =>
  rw [h2, bc_false] at h
  cases h
def fSorted : FuncId := 77
theorem sorted_known : CallOk Tryz.prog fun g xs A => bc (Nat.beq g fSorted) (sortedP fitStr isKeysS xs A) none := sorted_prim keyStr isKeysS_ok
end Go.Proofs.YtgjaicainmmdbaaGreatDoor
