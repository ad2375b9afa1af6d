/-
  DERIVED. GIVEN WITH THE SEED: THE CARDS: each row of YtioobcgokkfblaaGreatDoorRows.lean that lists a variable, with what it lists TIED to the program's text (the seventh form; the later family's looks); each row that meets fmt, with fmt's text TOLD by the authors' own Lean function (tested against real Go, not proved from fmt's source: count such statements apart). THE CARD IS WHAT COUNTS. Prove the row's statement (the work); the ties are given (YtioobcgokkfblaaGreatDoorTie.lean); close each card by the builder's one call (the guide's Derived/Test/ToyasCard.lean, 'card_holds'). Laid BY PROGRAM, IN A SANDBOX (cutbox-door.mjs). By AI agents, Wed Nov 11 2026. No macro, syntax, notation, axiom, sorry.
-/
import Derived.Test.YtioobcgokkfblaaGreatDoorRows
import GoSem.ClaimSeven
namespace Go.Proofs.YtioobcgokkfblaaGreatDoor
namespace Rows

/-- THE TIED CARD OF 'conclavelaw22.SerialSerial'. -/
def serialSerialCard : Claim7 := { stood := { row := serialSerialRow, standIns := [], harness := (true, "612634e78cc8af9930890d3ab0a6fb92e9f1bd0acf5ff8b46a407dc025636030"), looks := true }, kinds := [], alts := [], laidByText := true, laidKinds := [.data, .data, .data, .sentinel, .sentinel], laidTests := true, laidLooks := .later }
def SerialSerialCardSaid : Prop := Claim7.holds Tryz.pinned (.plain (OpenSpec.ofChange serialSerialSpec)) serialSerialCard

/-- THE TIED CARD OF 'conclavelaw22.SerialFree'. -/
def serialFreeCard : Claim7 := { stood := { row := serialFreeRow, standIns := [], harness := (true, "612634e78cc8af9930890d3ab0a6fb92e9f1bd0acf5ff8b46a407dc025636030"), looks := true }, kinds := [], alts := [], laidByText := true, laidKinds := [.data, .data, .data, .sentinel, .sentinel], laidTests := true, laidLooks := .later }
def SerialFreeCardSaid : Prop := Claim7.holds Tryz.pinned (.plain (OpenSpec.ofChange serialFreeSpec)) serialFreeCard

/-- THE TIED CARD OF 'conclavelaw22.SerialCopies'. -/
def serialCopiesCard : Claim7 := { stood := { row := serialCopiesRow, standIns := [], harness := (true, "612634e78cc8af9930890d3ab0a6fb92e9f1bd0acf5ff8b46a407dc025636030"), looks := true }, kinds := [], alts := [], laidByText := true, laidKinds := [.data, .data, .data, .sentinel, .sentinel], laidTests := true, laidLooks := .later }
def SerialCopiesCardSaid : Prop := Claim7.holds Tryz.pinned (.plain (OpenSpec.ofChange serialCopiesSpec)) serialCopiesCard

/-- THE TIED CARD OF 'conclavelaw22.SerialNumbers'. -/
def serialNumbersCard : Claim7 := { stood := { row := serialNumbersRow, standIns := [], harness := (true, "612634e78cc8af9930890d3ab0a6fb92e9f1bd0acf5ff8b46a407dc025636030"), looks := true }, kinds := [], alts := [], laidByText := true, laidKinds := [.data, .data, .data, .sentinel, .sentinel], laidTests := true, laidLooks := .later }
def SerialNumbersCardSaid : Prop := Claim7.holds Tryz.pinned (.plain (OpenSpec.ofChange serialNumbersSpec)) serialNumbersCard

/-- THE SECOND FORM's CARD OF 'conclavelaw22.SerialSerial'. -/
def serialSerialUptoCard : Claim7 := { stood := { row := serialSerialUptoRow, standIns := [], harness := (true, "612634e78cc8af9930890d3ab0a6fb92e9f1bd0acf5ff8b46a407dc025636030"), looks := true }, kinds := [], alts := [], laidByText := true, laidKinds := [.data, .data, .data, .sentinel, .sentinel], laidTests := true, laidLooks := .later }
def SerialSerialUptoCardSaid : Prop := Claim7.holds Tryz.pinned (.plain (OpenSpec.upto serialSerialSpec)) serialSerialUptoCard

/-- THE SECOND FORM's CARD OF 'conclavelaw22.SerialFree'. -/
def serialFreeUptoCard : Claim7 := { stood := { row := serialFreeUptoRow, standIns := [], harness := (true, "612634e78cc8af9930890d3ab0a6fb92e9f1bd0acf5ff8b46a407dc025636030"), looks := true }, kinds := [], alts := [], laidByText := true, laidKinds := [.data, .data, .data, .sentinel, .sentinel], laidTests := true, laidLooks := .later }
def SerialFreeUptoCardSaid : Prop := Claim7.holds Tryz.pinned (.plain (OpenSpec.upto serialFreeSpec)) serialFreeUptoCard

/-- THE SECOND FORM's CARD OF 'conclavelaw22.SerialCopies'. -/
def serialCopiesUptoCard : Claim7 := { stood := { row := serialCopiesUptoRow, standIns := [], harness := (true, "612634e78cc8af9930890d3ab0a6fb92e9f1bd0acf5ff8b46a407dc025636030"), looks := true }, kinds := [], alts := [], laidByText := true, laidKinds := [.data, .data, .data, .sentinel, .sentinel], laidTests := true, laidLooks := .later }
def SerialCopiesUptoCardSaid : Prop := Claim7.holds Tryz.pinned (.plain (OpenSpec.upto serialCopiesSpec)) serialCopiesUptoCard

/-- THE SECOND FORM's CARD OF 'conclavelaw22.SerialNumbers'. -/
def serialNumbersUptoCard : Claim7 := { stood := { row := serialNumbersUptoRow, standIns := [], harness := (true, "612634e78cc8af9930890d3ab0a6fb92e9f1bd0acf5ff8b46a407dc025636030"), looks := true }, kinds := [], alts := [], laidByText := true, laidKinds := [.data, .data, .data, .sentinel, .sentinel], laidTests := true, laidLooks := .later }
def SerialNumbersUptoCardSaid : Prop := Claim7.holds Tryz.pinned (.plain (OpenSpec.upto serialNumbersSpec)) serialNumbersUptoCard
end Rows
end Go.Proofs.YtioobcgokkfblaaGreatDoor
