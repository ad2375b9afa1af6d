/- For every list of items, every number and every row of bytes the law ShellCuts returns true, and what was handed in reads afterwards as it read before. The package-level variables that the row lists hold what the program's text lays. -/
import Derived.Test.YtfpigjgomcilbaaGreatDoorRRows
import Derived.Test.YtfpigjgomcilbaaGreatDoorRCards
import Derived.Test.YtfpigjgomcilbaaGreatDoorRTie
import Derived.Test.YtfpigjgomcilbaaGreatDoorRUz
namespace Go.Proofs.YtfpigjgomcilbaaGreatDoorR.shellCuts
open Go.ChangeShapes Go.WideShapes Go.ChangeAt Go.RowKit
set_option linter.unusedVariables false

theorem proved : Rows.ShellCutsCardSaid :=
  Claim7.holds_tied_plain_at .later [] _ _ _ _
    over (fun _ h => by cases h) (by as_aux_lemma => kernel_rfl) (fun _ h => by cases h) shellCuts_row_tie rfl ⟨rfl, rfl⟩ (by as_aux_lemma => kernel_rfl) rfl
    (fun f fn hf hfn => by
      obtain rfl : f = 4 := Option.some.inj ((show Tryz.prog.funcNamed "conclave/conclavelaw26.ShellCuts" = some 4 by kernel_rfl).symm.trans hf) |>.symm
      obtain rfl : fn = Tryz.f4 := (Option.some.inj (Tryz.func4.symm.trans hfn)).symm
      exact ⟨by kernel_rfl, fun j t ht => by
        rw [Tryz.params4] at ht
        match j, ht with
        | 0, ht => exact (Option.some.inj (show some 22 = some t from ht)) ▸ (show Tryz.prog.wantsStandIn 22 = false by kernel_rfl)
        | 1, ht => exact (Option.some.inj (show some 3 = some t from ht)) ▸ (show Tryz.prog.wantsStandIn 3 = false by kernel_rfl)
        | 2, ht => exact (Option.some.inj (show some 23 = some t from ht)) ▸ (show Tryz.prog.wantsStandIn 23 = false by kernel_rfl)
        | n + 3, ht => simp at ht⟩)
    (goes_no rfl)
#print axioms proved
end Go.Proofs.YtfpigjgomcilbaaGreatDoorR.shellCuts
