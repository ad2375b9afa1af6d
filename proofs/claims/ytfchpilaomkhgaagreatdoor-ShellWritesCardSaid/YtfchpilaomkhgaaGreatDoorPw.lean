/- For every list of items the law ShellWrites returns true, and what was handed in reads afterwards as it read before. The package-level variables that the row lists hold what the program's text lays. -/
import Derived.Test.YtfchpilaomkhgaaGreatDoorRows
import Derived.Test.YtfchpilaomkhgaaGreatDoorCards
import Derived.Test.YtfchpilaomkhgaaGreatDoorTie
import Derived.Test.YtfchpilaomkhgaaGreatDoorPz
namespace Go.Proofs.YtfchpilaomkhgaaGreatDoor.shellWrites
open Go.ChangeShapes Go.WideShapes Go.ChangeAt Go.RowKit
set_option linter.unusedVariables false

theorem proved : Rows.ShellWritesCardSaid :=
  Claim7.holds_tied_plain_at .later [] _ _ _ _
    over (fun _ h => by cases h) (by as_aux_lemma => kernel_rfl) (fun _ h => by cases h) shellWrites_row_tie rfl ⟨rfl, rfl⟩ (by as_aux_lemma => kernel_rfl) rfl
    (fun f fn hf hfn => by
      obtain rfl : f = 4 := Option.some.inj ((show Tryz.prog.funcNamed "conclave/conclavelaw26.ShellWrites" = some 4 by kernel_rfl).symm.trans hf) |>.symm
      obtain rfl : fn = Tryz.f4 := (Option.some.inj (Tryz.func4.symm.trans hfn)).symm
      exact ⟨by kernel_rfl, fun j t ht => by
        rw [Tryz.params4] at ht
        match j, ht with
        | 0, ht => exact (Option.some.inj (show some 23 = some t from ht)) ▸ (show Tryz.prog.wantsStandIn 23 = false by kernel_rfl)
        | n + 1, ht => simp at ht⟩)
    (goes_no rfl)
#print axioms proved
end Go.Proofs.YtfchpilaomkhgaaGreatDoor.shellWrites
