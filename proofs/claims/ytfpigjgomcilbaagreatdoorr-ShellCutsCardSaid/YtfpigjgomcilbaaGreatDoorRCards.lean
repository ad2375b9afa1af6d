/-
  DERIVED. GIVEN WITH THE SEED: THE CARDS: each row of YtfpigjgomcilbaaGreatDoorRRows.lean that lists a variable, with what it lists TIED to the program's text (the seventh form; the later family's looks); each row that meets fmt, with fmt's text TOLD by the authors' own Lean function (tested against real Go, not proved from fmt's source: count such statements apart). THE CARD IS WHAT COUNTS. Prove the row's statement (the work); the ties are given (YtfpigjgomcilbaaGreatDoorRTie.lean); close each card by the builder's one call (the guide's Derived/Test/ToyasCard.lean, 'card_holds'). Laid BY PROGRAM, IN A SANDBOX (cutbox-door.mjs). By AI agents, Wed Nov 11 2026. No macro, syntax, notation, axiom, sorry.
-/
import Derived.Test.YtfpigjgomcilbaaGreatDoorRRows
import GoSem.ClaimSeven
namespace Go.Proofs.YtfpigjgomcilbaaGreatDoorR
namespace Rows

/-- THE TIED CARD OF 'conclavelaw26.ShellBack'. -/
def shellBackCard : Claim7 := { stood := { row := shellBackRow, standIns := [], harness := (true, "7db138fe2a53b0d3e83ecd907e49c8e51b55c848b3d5343075c2d79326093578"), looks := true }, kinds := [], alts := [], laidByText := true, laidKinds := [.data, .data, .data, .sentinel, .sentinel], laidTests := true, laidLooks := .later }
def ShellBackCardSaid : Prop := Claim7.holds Tryz.pinned (.plain (OpenSpec.ofChange shellBackSpec)) shellBackCard

/-- THE TIED CARD OF 'conclavelaw26.ShellCuts'. -/
def shellCutsCard : Claim7 := { stood := { row := shellCutsRow, standIns := [], harness := (true, "7db138fe2a53b0d3e83ecd907e49c8e51b55c848b3d5343075c2d79326093578"), looks := true }, kinds := [], alts := [], laidByText := true, laidKinds := [.data, .data, .data, .sentinel, .sentinel], laidTests := true, laidLooks := .later }
def ShellCutsCardSaid : Prop := Claim7.holds Tryz.pinned (.plain (OpenSpec.ofChange shellCutsSpec)) shellCutsCard

/-- THE SECOND FORM's CARD OF 'conclavelaw26.ShellBack'. -/
def shellBackUptoCard : Claim7 := { stood := { row := shellBackUptoRow, standIns := [], harness := (true, "7db138fe2a53b0d3e83ecd907e49c8e51b55c848b3d5343075c2d79326093578"), looks := true }, kinds := [], alts := [], laidByText := true, laidKinds := [.data, .data, .data, .sentinel, .sentinel], laidTests := true, laidLooks := .later }
def ShellBackUptoCardSaid : Prop := Claim7.holds Tryz.pinned (.plain (OpenSpec.upto shellBackSpec)) shellBackUptoCard

/-- THE SECOND FORM's CARD OF 'conclavelaw26.ShellCuts'. -/
def shellCutsUptoCard : Claim7 := { stood := { row := shellCutsUptoRow, standIns := [], harness := (true, "7db138fe2a53b0d3e83ecd907e49c8e51b55c848b3d5343075c2d79326093578"), looks := true }, kinds := [], alts := [], laidByText := true, laidKinds := [.data, .data, .data, .sentinel, .sentinel], laidTests := true, laidLooks := .later }
def ShellCutsUptoCardSaid : Prop := Claim7.holds Tryz.pinned (.plain (OpenSpec.upto shellCutsSpec)) shellCutsUptoCard
end Rows
end Go.Proofs.YtfpigjgomcilbaaGreatDoorR
