/- For every input the law TopAnyOrder returns true, and what was handed in reads afterwards as it read before. The package-level variables that the row lists hold what the program's text lays. -/
import Derived.Test.YtcpmgjnlnaigbaaGreatDoorRows
import Derived.Test.YtcpmgjnlnaigbaaGreatDoorCards
import Derived.Test.YtcpmgjnlnaigbaaGreatDoorTie
import Derived.Test.YtcpmgjnlnaigbaaGreatDoorTr
namespace Go.Proofs.YtcpmgjnlnaigbaaGreatDoor.topAnyOrder
open Go.ChangeShapes Go.WideShapes Go.ChangeAt Go.RowKit
set_option linter.unusedVariables false

theorem proved : Rows.TopAnyOrderCardSaid :=
  Claim7.holds_tied_plain_at .later [] _ _ _ _
    over (fun _ h => by cases h) (by as_aux_lemma => kernel_rfl) (fun _ h => by cases h) topAnyOrder_row_tie rfl ⟨rfl, rfl⟩ (by as_aux_lemma => kernel_rfl) rfl
    (fun f fn hf hfn => by
      obtain rfl : f = 3 := Option.some.inj ((show Tryz.prog.funcNamed "conclave/conclavetop.TopAnyOrder" = some 3 by kernel_rfl).symm.trans hf) |>.symm
      obtain rfl : fn = Tryz.f3 := (Option.some.inj (Tryz.func3.symm.trans hfn)).symm
      exact ⟨by kernel_rfl, fun j t ht => by
        rw [Tryz.params3] at ht
        match j, ht with
        | 0, ht => exact (Option.some.inj (show some 22 = some t from ht)) ▸ (show Tryz.prog.wantsStandIn 22 = false by kernel_rfl)
        | 1, ht => exact (Option.some.inj (show some 23 = some t from ht)) ▸ (show Tryz.prog.wantsStandIn 23 = false by kernel_rfl)
        | 2, ht => exact (Option.some.inj (show some 23 = some t from ht)) ▸ (show Tryz.prog.wantsStandIn 23 = false by kernel_rfl)
        | 3, ht => exact (Option.some.inj (show some 3 = some t from ht)) ▸ (show Tryz.prog.wantsStandIn 3 = false by kernel_rfl)
        | n + 4, ht => simp at ht⟩)
    (goes_no rfl)
#print axioms proved
end Go.Proofs.YtcpmgjnlnaigbaaGreatDoor.topAnyOrder
