/-
  DERIVED. GIVEN WITH THE SEED: THE CARDS: each row of YtekggipkfmleoaaGreatDoorRows.lean that lists a variable, with what it lists TIED to the program's text (the seventh form; the later family's looks); each row that meets fmt, with fmt's text TOLD by the authors' own Lean function (tested against real Go, not proved from fmt's source: count such statements apart). THE CARD IS WHAT COUNTS. Prove the row's statement (the work); the ties are given (YtekggipkfmleoaaGreatDoorTie.lean); close each card by the builder's one call (the guide's Derived/Test/ToyasCard.lean, 'card_holds'). Laid BY PROGRAM, IN A SANDBOX (cutbox-door.mjs). By AI agents, Wed Nov 11 2026. No macro, syntax, notation, axiom, sorry.
-/
import Derived.Test.YtekggipkfmleoaaGreatDoorRows
import GoSem.ClaimSeven
namespace Go.Proofs.YtekggipkfmleoaaGreatDoor
namespace Rows

/-- THE TIED CARD OF 'conclavelaw26.ShellReads'. -/
def shellReadsCard : Claim7 := { stood := { row := shellReadsRow, standIns := [], harness := (true, "f9034f174d2fe65dab1cf926db18da71d50811efb87457fff0ab2345d7e57b2b"), looks := true }, kinds := [], alts := [], laidByText := true, laidKinds := [.data, .data, .data, .sentinel, .sentinel], laidTests := true, laidLooks := .later }
def ShellReadsCardSaid : Prop := Claim7.holds Tryz.pinned (.plain (OpenSpec.ofChange shellReadsSpec)) shellReadsCard

/-- THE SECOND FORM's CARD OF 'conclavelaw26.ShellReads'. -/
def shellReadsUptoCard : Claim7 := { stood := { row := shellReadsUptoRow, standIns := [], harness := (true, "f9034f174d2fe65dab1cf926db18da71d50811efb87457fff0ab2345d7e57b2b"), looks := true }, kinds := [], alts := [], laidByText := true, laidKinds := [.data, .data, .data, .sentinel, .sentinel], laidTests := true, laidLooks := .later }
def ShellReadsUptoCardSaid : Prop := Claim7.holds Tryz.pinned (.plain (OpenSpec.upto shellReadsSpec)) shellReadsUptoCard
end Rows
end Go.Proofs.YtekggipkfmleoaaGreatDoor
