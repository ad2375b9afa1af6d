/-
  DERIVED. GIVEN WITH THE SEED: THE CARDS: each row of YtdedklofngjlkaaGreatDoorRows.lean that lists a variable, with what it lists TIED to the program's text (the seventh form; the later family's looks); each row that meets fmt, with fmt's text TOLD by the authors' own Lean function (tested against real Go, not proved from fmt's source: count such statements apart). THE CARD IS WHAT COUNTS. Prove the row's statement (the work); the ties are given (YtdedklofngjlkaaGreatDoorTie.lean); close each card by the builder's one call (the guide's Derived/Test/ToyasCard.lean, 'card_holds'). Laid BY PROGRAM, IN A SANDBOX (cutbox-door.mjs). By AI agents, Wed Nov 11 2026. No macro, syntax, notation, axiom, sorry.
-/
import Derived.Test.YtdedklofngjlkaaGreatDoorRows
import GoSem.ClaimSeven
namespace Go.Proofs.YtdedklofngjlkaaGreatDoor
namespace Rows

/-- THE TIED CARD OF 'conclavelaw26.ShellTexts'. -/
def shellTextsCard : Claim7 := { stood := { row := shellTextsRow, standIns := [], harness := (true, "e43aac027cc8c26e8918fe432792efae45b41f55460ecb27b6f90fd3ef1e07ac"), looks := true }, kinds := [], alts := [], laidByText := true, laidKinds := [.data, .data, .data, .sentinel, .sentinel], laidTests := true, laidLooks := .later }
def ShellTextsCardSaid : Prop := Claim7.holds Tryz.pinned (.plain (OpenSpec.ofChange shellTextsSpec)) shellTextsCard

/-- THE SECOND FORM's CARD OF 'conclavelaw26.ShellTexts'. -/
def shellTextsUptoCard : Claim7 := { stood := { row := shellTextsUptoRow, standIns := [], harness := (true, "e43aac027cc8c26e8918fe432792efae45b41f55460ecb27b6f90fd3ef1e07ac"), looks := true }, kinds := [], alts := [], laidByText := true, laidKinds := [.data, .data, .data, .sentinel, .sentinel], laidTests := true, laidLooks := .later }
def ShellTextsUptoCardSaid : Prop := Claim7.holds Tryz.pinned (.plain (OpenSpec.upto shellTextsSpec)) shellTextsUptoCard
end Rows
end Go.Proofs.YtdedklofngjlkaaGreatDoor
