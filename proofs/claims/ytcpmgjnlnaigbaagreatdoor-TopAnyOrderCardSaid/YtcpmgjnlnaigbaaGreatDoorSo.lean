/- slices.Sorted over maps.Keys at this dump, as known to the evaluator. -/
import Derived.Test.YtcpmgjnlnaigbaaGreatDoorIz
import Derived.Test.YtcpmgjnlnaigbaaGreatDoorEvSo
set_option linter.unusedVariables false
namespace Go.Proofs.YtcpmgjnlnaigbaaGreatDoor
open Go.RowKit Go.Maps Go.Sort Go.Shelf Go.Proofs Go.Ev

theorem sorts261 (m : Nat) : AnyZ.SortsIn Tryz.prog Tryz.sorted261_ren Fence.wide m :=
  ⟨fun blk off cap ss W hH hblk hsz => callsIn_wide.2 (AnyM.slices_Sort_string Tryz.sort283 blk off cap ss W hH hblk hsz),
   fun p cap W => callsIn_wide.2 (AnyM.slices_Sort_string_none Tryz.sort283 p cap W)⟩
theorem enters261 : Go.Ev.Enters Tryz.prog 261 := ⟨_, _, Tryz.func261, by kernel_rfl, rfl⟩

set_option maxRecDepth 100000 in
theorem sortedOk262 : SortedOk Tryz.prog keyStr 261 284 :=
  sortedOk_str (ρK := Tryz.keys262_ren) Tryz.sorted261 { Tryz.keys262 with } (sorts261 _) (enters_of Tryz.func283 (by kernel_rfl) rfl) enters261 (enters_of Tryz.func284 (by kernel_rfl) rfl) (by kernel_rfl)
set_option maxRecDepth 100000 in
theorem sortedOk270 : SortedOk Tryz.prog keyStr 261 288 :=
  sortedOk_str (ρK := Tryz.keys270_ren) Tryz.sorted261 { Tryz.keys270 with } (sorts261 _) (enters_of Tryz.func283 (by kernel_rfl) rfl) enters261 (enters_of Tryz.func288 (by kernel_rfl) rfl) (by kernel_rfl)
set_option maxRecDepth 100000 in
theorem sortedOk290 : SortedOk Tryz.prog keyStr 261 302 :=
  sortedOk_str (ρK := Tryz.keys290_ren) Tryz.sorted261 { Tryz.keys290 with } (sorts261 _) (enters_of Tryz.func283 (by kernel_rfl) rfl) enters261 (enters_of Tryz.func302 (by kernel_rfl) rfl) (by kernel_rfl)

/-- the iterators of maps.Keys -/
noncomputable def isKeysS (f : FuncId) : Bool := bc (Nat.beq f 284) true (bc (Nat.beq f 288) true (bc (Nat.beq f 302) true (false)))
theorem isKeysS_ok (f : FuncId) (h : isKeysS f = true) : SortedOk Tryz.prog keyStr 261 f := by
  unfold isKeysS at h
  cases h0 : Nat.beq f 284 with
  | true => rw [Nat.beq_eq] at h0; subst h0; exact sortedOk262
  | false =>
  rw [h0, bc_false] at h
  cases h1 : Nat.beq f 288 with
  | true => rw [Nat.beq_eq] at h1; subst h1; exact sortedOk270
  | false =>
  rw [h1, bc_false] at h
  cases h2 : Nat.beq f 302 with
  | true => rw [Nat.beq_eq] at h2; subst h2; exact sortedOk290
  | false =>
  rw [h2, bc_false] at h
  cases h
def fSorted : FuncId := 261
theorem sorted_known : CallOk Tryz.prog fun g xs A => bc (Nat.beq g fSorted) (sortedP fitStr isKeysS xs A) none := sorted_prim keyStr isKeysS_ok
end Go.Proofs.YtcpmgjnlnaigbaaGreatDoor
