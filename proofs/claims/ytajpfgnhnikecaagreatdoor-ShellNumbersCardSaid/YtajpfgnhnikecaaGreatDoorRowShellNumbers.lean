/- For every input the law ShellNumbers returns true, and what was handed in reads afterwards as it read before. The package-level variables that the row lists hold what the program's text lays. -/
import Derived.Test.YtajpfgnhnikecaaGreatDoorRows
import Derived.Test.YtajpfgnhnikecaaGreatDoorCards
import Derived.Test.YtajpfgnhnikecaaGreatDoorTie
import Derived.Test.YtajpfgnhnikecaaGreatDoorRoaShellNumbers
import Derived.Test.YtajpfgnhnikecaaGreatDoorLe
import Derived.Test.YtajpfgnhnikecaaGreatDoorSr
import Derived.ProofKit
import Derived.LaidMore
import Derived.OpenShut
import Derived.Stop.Joined
import Derived.Below
import Derived.WalkKit
import Derived.SevenTiedAt
namespace Go.Proofs.YtajpfgnhnikecaaGreatDoor.shellNumbers
open Go.ChangeShapes Go.WideShapes Go.ChangeAt Go.RowKit
set_option linter.unusedVariables false

theorem proved : Rows.ShellNumbersCardSaid :=
  Claim7.holds_tied_plain_at .later [] [.data, .data, .data, .sentinel, .sentinel] true (true, "8a9a8e4ffc079512a2e2a6f86a5b53028e0e9b52ff05bafbb8d7672672b0fe54") true
    over (fun _ h => by cases h) (by as_aux_lemma => kernel_rfl) (fun _ h => by cases h) shellNumbers_row_tie rfl ⟨rfl, rfl⟩ (by as_aux_lemma => kernel_rfl) rfl
    (fun f fn hf hfn => by
      obtain rfl : f = 8 := Option.some.inj ((show Tryz.prog.funcNamed "conclave/conclavelaw26.ShellNumbers" = some 8 by kernel_rfl).symm.trans hf) |>.symm
      obtain rfl : fn = Tryz.f8 := (Option.some.inj (Tryz.func8.symm.trans hfn)).symm
      exact ⟨by kernel_rfl, fun j t ht => by
        rw [Tryz.params8] at ht
        match j, ht with

        | n + 0, ht => simp at ht⟩)
    (goes_no rfl)
#print axioms proved
end Go.Proofs.YtajpfgnhnikecaaGreatDoor.shellNumbers
