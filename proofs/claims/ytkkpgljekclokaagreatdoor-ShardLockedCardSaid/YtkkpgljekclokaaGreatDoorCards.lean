/-
  DERIVED. GIVEN WITH THE SEED: THE CARDS: each row of YtkkpgljekclokaaGreatDoorRows.lean that lists a variable, with what it lists TIED to the program's text (the seventh form; the later family's looks); each row that meets fmt, with fmt's text TOLD by the authors' own Lean function (tested against real Go, not proved from fmt's source: count such statements apart). THE CARD IS WHAT COUNTS. Prove the row's statement (the work); the ties are given (YtkkpgljekclokaaGreatDoorTie.lean); close each card by the builder's one call (the guide's Derived/Test/ToyasCard.lean, 'card_holds'). Laid BY PROGRAM, IN A SANDBOX (cutbox-door.mjs). By AI agents, Wed Nov 11 2026. No macro, syntax, notation, axiom, sorry.
-/
import Derived.Test.YtkkpgljekclokaaGreatDoorRows
import GoSem.ClaimSeven
namespace Go.Proofs.YtkkpgljekclokaaGreatDoor
namespace Rows

/-- THE TIED CARD OF 'conclavelaw16.ShardLocked'. -/
def shardLockedCard : Claim7 := { stood := { row := shardLockedRow, standIns := [], harness := (true, "4a2a89e5058a4582c658029daa8a72a103b5385c0b6087d5ad68346e993b54b3"), looks := true }, kinds := [], alts := [], laidByText := true, laidKinds := [.data, .data, .data, .sentinel, .sentinel], laidTests := true, laidLooks := .later }
def ShardLockedCardSaid : Prop := Claim7.holds Tryz.pinned (.plain (OpenSpec.ofChange shardLockedSpec)) shardLockedCard

/-- THE TIED CARD OF 'conclavelaw16.ShardHidden'. -/
def shardHiddenCard : Claim7 := { stood := { row := shardHiddenRow, standIns := [], harness := (true, "4a2a89e5058a4582c658029daa8a72a103b5385c0b6087d5ad68346e993b54b3"), looks := true }, kinds := [], alts := [], laidByText := true, laidKinds := [.data, .data, .data, .sentinel, .sentinel], laidTests := true, laidLooks := .later }
def ShardHiddenCardSaid : Prop := Claim7.holds Tryz.pinned (.plain (OpenSpec.ofChange shardHiddenSpec)) shardHiddenCard

/-- THE TIED CARD OF 'conclavelaw16.ShardAgain'. -/
def shardAgainCard : Claim7 := { stood := { row := shardAgainRow, standIns := [], harness := (true, "4a2a89e5058a4582c658029daa8a72a103b5385c0b6087d5ad68346e993b54b3"), looks := true }, kinds := [], alts := [], laidByText := true, laidKinds := [.data, .data, .data, .sentinel, .sentinel], laidTests := true, laidLooks := .later }
def ShardAgainCardSaid : Prop := Claim7.holds Tryz.pinned (.plain (OpenSpec.ofChange shardAgainSpec)) shardAgainCard

/-- THE TIED CARD OF 'conclavelaw16.ShardMoves'. -/
def shardMovesCard : Claim7 := { stood := { row := shardMovesRow, standIns := [], harness := (true, "4a2a89e5058a4582c658029daa8a72a103b5385c0b6087d5ad68346e993b54b3"), looks := true }, kinds := [], alts := [], laidByText := true, laidKinds := [.data, .data, .data, .sentinel, .sentinel], laidTests := true, laidLooks := .later }
def ShardMovesCardSaid : Prop := Claim7.holds Tryz.pinned (.plain (OpenSpec.ofChange shardMovesSpec)) shardMovesCard

/-- THE TIED CARD OF 'conclavelaw16.ShardNumbers'. -/
def shardNumbersCard : Claim7 := { stood := { row := shardNumbersRow, standIns := [], harness := (true, "4a2a89e5058a4582c658029daa8a72a103b5385c0b6087d5ad68346e993b54b3"), looks := true }, kinds := [], alts := [], laidByText := true, laidKinds := [.data, .data, .data, .sentinel, .sentinel], laidTests := true, laidLooks := .later }
def ShardNumbersCardSaid : Prop := Claim7.holds Tryz.pinned (.plain (OpenSpec.ofChange shardNumbersSpec)) shardNumbersCard

/-- THE TIED CARD OF 'conclavelaw16.ShardKept'. -/
def shardKeptCard : Claim7 := { stood := { row := shardKeptRow, standIns := [], harness := (true, "4a2a89e5058a4582c658029daa8a72a103b5385c0b6087d5ad68346e993b54b3"), looks := true }, kinds := [], alts := [], laidByText := true, laidKinds := [.data, .data, .data, .sentinel, .sentinel], laidTests := true, laidLooks := .later }
def ShardKeptCardSaid : Prop := Claim7.holds Tryz.pinned (.plain (OpenSpec.ofChange shardKeptSpec)) shardKeptCard

/-- THE TIED CARD OF 'conclavelaw16.ShardCopies'. -/
def shardCopiesCard : Claim7 := { stood := { row := shardCopiesRow, standIns := [], harness := (true, "4a2a89e5058a4582c658029daa8a72a103b5385c0b6087d5ad68346e993b54b3"), looks := true }, kinds := [], alts := [], laidByText := true, laidKinds := [.data, .data, .data, .sentinel, .sentinel], laidTests := true, laidLooks := .later }
def ShardCopiesCardSaid : Prop := Claim7.holds Tryz.pinned (.plain (OpenSpec.ofChange shardCopiesSpec)) shardCopiesCard

/-- THE TIED CARD OF 'conclavelaw16.ShardBytes'. -/
def shardBytesCard : Claim7 := { stood := { row := shardBytesRow, standIns := [], harness := (true, "4a2a89e5058a4582c658029daa8a72a103b5385c0b6087d5ad68346e993b54b3"), looks := true }, kinds := [], alts := [], laidByText := true, laidKinds := [.data, .data, .data, .sentinel, .sentinel], laidTests := true, laidLooks := .later }
def ShardBytesCardSaid : Prop := Claim7.holds Tryz.pinned (.plain (OpenSpec.ofChange shardBytesSpec)) shardBytesCard

/-- THE SECOND FORM's CARD OF 'conclavelaw16.ShardLocked'. -/
def shardLockedUptoCard : Claim7 := { stood := { row := shardLockedUptoRow, standIns := [], harness := (true, "4a2a89e5058a4582c658029daa8a72a103b5385c0b6087d5ad68346e993b54b3"), looks := true }, kinds := [], alts := [], laidByText := true, laidKinds := [.data, .data, .data, .sentinel, .sentinel], laidTests := true, laidLooks := .later }
def ShardLockedUptoCardSaid : Prop := Claim7.holds Tryz.pinned (.plain (OpenSpec.upto shardLockedSpec)) shardLockedUptoCard

/-- THE SECOND FORM's CARD OF 'conclavelaw16.ShardHidden'. -/
def shardHiddenUptoCard : Claim7 := { stood := { row := shardHiddenUptoRow, standIns := [], harness := (true, "4a2a89e5058a4582c658029daa8a72a103b5385c0b6087d5ad68346e993b54b3"), looks := true }, kinds := [], alts := [], laidByText := true, laidKinds := [.data, .data, .data, .sentinel, .sentinel], laidTests := true, laidLooks := .later }
def ShardHiddenUptoCardSaid : Prop := Claim7.holds Tryz.pinned (.plain (OpenSpec.upto shardHiddenSpec)) shardHiddenUptoCard

/-- THE SECOND FORM's CARD OF 'conclavelaw16.ShardAgain'. -/
def shardAgainUptoCard : Claim7 := { stood := { row := shardAgainUptoRow, standIns := [], harness := (true, "4a2a89e5058a4582c658029daa8a72a103b5385c0b6087d5ad68346e993b54b3"), looks := true }, kinds := [], alts := [], laidByText := true, laidKinds := [.data, .data, .data, .sentinel, .sentinel], laidTests := true, laidLooks := .later }
def ShardAgainUptoCardSaid : Prop := Claim7.holds Tryz.pinned (.plain (OpenSpec.upto shardAgainSpec)) shardAgainUptoCard

/-- THE SECOND FORM's CARD OF 'conclavelaw16.ShardMoves'. -/
def shardMovesUptoCard : Claim7 := { stood := { row := shardMovesUptoRow, standIns := [], harness := (true, "4a2a89e5058a4582c658029daa8a72a103b5385c0b6087d5ad68346e993b54b3"), looks := true }, kinds := [], alts := [], laidByText := true, laidKinds := [.data, .data, .data, .sentinel, .sentinel], laidTests := true, laidLooks := .later }
def ShardMovesUptoCardSaid : Prop := Claim7.holds Tryz.pinned (.plain (OpenSpec.upto shardMovesSpec)) shardMovesUptoCard

/-- THE SECOND FORM's CARD OF 'conclavelaw16.ShardNumbers'. -/
def shardNumbersUptoCard : Claim7 := { stood := { row := shardNumbersUptoRow, standIns := [], harness := (true, "4a2a89e5058a4582c658029daa8a72a103b5385c0b6087d5ad68346e993b54b3"), looks := true }, kinds := [], alts := [], laidByText := true, laidKinds := [.data, .data, .data, .sentinel, .sentinel], laidTests := true, laidLooks := .later }
def ShardNumbersUptoCardSaid : Prop := Claim7.holds Tryz.pinned (.plain (OpenSpec.upto shardNumbersSpec)) shardNumbersUptoCard

/-- THE SECOND FORM's CARD OF 'conclavelaw16.ShardKept'. -/
def shardKeptUptoCard : Claim7 := { stood := { row := shardKeptUptoRow, standIns := [], harness := (true, "4a2a89e5058a4582c658029daa8a72a103b5385c0b6087d5ad68346e993b54b3"), looks := true }, kinds := [], alts := [], laidByText := true, laidKinds := [.data, .data, .data, .sentinel, .sentinel], laidTests := true, laidLooks := .later }
def ShardKeptUptoCardSaid : Prop := Claim7.holds Tryz.pinned (.plain (OpenSpec.upto shardKeptSpec)) shardKeptUptoCard

/-- THE SECOND FORM's CARD OF 'conclavelaw16.ShardCopies'. -/
def shardCopiesUptoCard : Claim7 := { stood := { row := shardCopiesUptoRow, standIns := [], harness := (true, "4a2a89e5058a4582c658029daa8a72a103b5385c0b6087d5ad68346e993b54b3"), looks := true }, kinds := [], alts := [], laidByText := true, laidKinds := [.data, .data, .data, .sentinel, .sentinel], laidTests := true, laidLooks := .later }
def ShardCopiesUptoCardSaid : Prop := Claim7.holds Tryz.pinned (.plain (OpenSpec.upto shardCopiesSpec)) shardCopiesUptoCard

/-- THE SECOND FORM's CARD OF 'conclavelaw16.ShardBytes'. -/
def shardBytesUptoCard : Claim7 := { stood := { row := shardBytesUptoRow, standIns := [], harness := (true, "4a2a89e5058a4582c658029daa8a72a103b5385c0b6087d5ad68346e993b54b3"), looks := true }, kinds := [], alts := [], laidByText := true, laidKinds := [.data, .data, .data, .sentinel, .sentinel], laidTests := true, laidLooks := .later }
def ShardBytesUptoCardSaid : Prop := Claim7.holds Tryz.pinned (.plain (OpenSpec.upto shardBytesSpec)) shardBytesUptoCard
end Rows
end Go.Proofs.YtkkpgljekclokaaGreatDoor
