/-
  DERIVED. GIVEN WITH THE SEED: THE CARDS: each row of YtfchpilaomkhgaaGreatDoorRows.lean that lists a variable, with what it lists TIED to the program's text (the seventh form; the later family's looks); each row that meets fmt, with fmt's text TOLD by the authors' own Lean function (tested against real Go, not proved from fmt's source: count such statements apart). THE CARD IS WHAT COUNTS. Prove the row's statement (the work); the ties are given (YtfchpilaomkhgaaGreatDoorTie.lean); close each card by the builder's one call (the guide's Derived/Test/ToyasCard.lean, 'card_holds'). Laid BY PROGRAM, IN A SANDBOX (cutbox-door.mjs). By AI agents, Wed Nov 11 2026. No macro, syntax, notation, axiom, sorry.
-/
import Derived.Test.YtfchpilaomkhgaaGreatDoorRows
import GoSem.ClaimSeven
namespace Go.Proofs.YtfchpilaomkhgaaGreatDoor
namespace Rows

/-- THE TIED CARD OF 'conclavelaw26.ShellReads'. -/
def shellReadsCard : Claim7 := { stood := { row := shellReadsRow, standIns := [], harness := (true, "3d5dbdf2d331ab4bb3df5be70bbfa97074b28d4b812e91fca5a739b9ed8fbfd7"), looks := true }, kinds := [], alts := [], laidByText := true, laidKinds := [.data, .data, .data, .sentinel, .sentinel], laidTests := true, laidLooks := .later }
def ShellReadsCardSaid : Prop := Claim7.holds Tryz.pinned (.plain (OpenSpec.ofChange shellReadsSpec)) shellReadsCard

/-- THE TIED CARD OF 'conclavelaw26.ShellWrites'. -/
def shellWritesCard : Claim7 := { stood := { row := shellWritesRow, standIns := [], harness := (true, "3d5dbdf2d331ab4bb3df5be70bbfa97074b28d4b812e91fca5a739b9ed8fbfd7"), looks := true }, kinds := [], alts := [], laidByText := true, laidKinds := [.data, .data, .data, .sentinel, .sentinel], laidTests := true, laidLooks := .later }
def ShellWritesCardSaid : Prop := Claim7.holds Tryz.pinned (.plain (OpenSpec.ofChange shellWritesSpec)) shellWritesCard

/-- THE TIED CARD OF 'conclavelaw26.ShellBack'. -/
def shellBackCard : Claim7 := { stood := { row := shellBackRow, standIns := [], harness := (true, "3d5dbdf2d331ab4bb3df5be70bbfa97074b28d4b812e91fca5a739b9ed8fbfd7"), looks := true }, kinds := [], alts := [], laidByText := true, laidKinds := [.data, .data, .data, .sentinel, .sentinel], laidTests := true, laidLooks := .later }
def ShellBackCardSaid : Prop := Claim7.holds Tryz.pinned (.plain (OpenSpec.ofChange shellBackSpec)) shellBackCard

/-- THE TIED CARD OF 'conclavelaw26.ShellCuts'. -/
def shellCutsCard : Claim7 := { stood := { row := shellCutsRow, standIns := [], harness := (true, "3d5dbdf2d331ab4bb3df5be70bbfa97074b28d4b812e91fca5a739b9ed8fbfd7"), looks := true }, kinds := [], alts := [], laidByText := true, laidKinds := [.data, .data, .data, .sentinel, .sentinel], laidTests := true, laidLooks := .later }
def ShellCutsCardSaid : Prop := Claim7.holds Tryz.pinned (.plain (OpenSpec.ofChange shellCutsSpec)) shellCutsCard

/-- THE SECOND FORM's CARD OF 'conclavelaw26.ShellReads'. -/
def shellReadsUptoCard : Claim7 := { stood := { row := shellReadsUptoRow, standIns := [], harness := (true, "3d5dbdf2d331ab4bb3df5be70bbfa97074b28d4b812e91fca5a739b9ed8fbfd7"), looks := true }, kinds := [], alts := [], laidByText := true, laidKinds := [.data, .data, .data, .sentinel, .sentinel], laidTests := true, laidLooks := .later }
def ShellReadsUptoCardSaid : Prop := Claim7.holds Tryz.pinned (.plain (OpenSpec.upto shellReadsSpec)) shellReadsUptoCard

/-- THE SECOND FORM's CARD OF 'conclavelaw26.ShellWrites'. -/
def shellWritesUptoCard : Claim7 := { stood := { row := shellWritesUptoRow, standIns := [], harness := (true, "3d5dbdf2d331ab4bb3df5be70bbfa97074b28d4b812e91fca5a739b9ed8fbfd7"), looks := true }, kinds := [], alts := [], laidByText := true, laidKinds := [.data, .data, .data, .sentinel, .sentinel], laidTests := true, laidLooks := .later }
def ShellWritesUptoCardSaid : Prop := Claim7.holds Tryz.pinned (.plain (OpenSpec.upto shellWritesSpec)) shellWritesUptoCard

/-- THE SECOND FORM's CARD OF 'conclavelaw26.ShellBack'. -/
def shellBackUptoCard : Claim7 := { stood := { row := shellBackUptoRow, standIns := [], harness := (true, "3d5dbdf2d331ab4bb3df5be70bbfa97074b28d4b812e91fca5a739b9ed8fbfd7"), looks := true }, kinds := [], alts := [], laidByText := true, laidKinds := [.data, .data, .data, .sentinel, .sentinel], laidTests := true, laidLooks := .later }
def ShellBackUptoCardSaid : Prop := Claim7.holds Tryz.pinned (.plain (OpenSpec.upto shellBackSpec)) shellBackUptoCard

/-- THE SECOND FORM's CARD OF 'conclavelaw26.ShellCuts'. -/
def shellCutsUptoCard : Claim7 := { stood := { row := shellCutsUptoRow, standIns := [], harness := (true, "3d5dbdf2d331ab4bb3df5be70bbfa97074b28d4b812e91fca5a739b9ed8fbfd7"), looks := true }, kinds := [], alts := [], laidByText := true, laidKinds := [.data, .data, .data, .sentinel, .sentinel], laidTests := true, laidLooks := .later }
def ShellCutsUptoCardSaid : Prop := Claim7.holds Tryz.pinned (.plain (OpenSpec.upto shellCutsSpec)) shellCutsUptoCard
end Rows
end Go.Proofs.YtfchpilaomkhgaaGreatDoor
