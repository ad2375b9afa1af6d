/-
  DERIVED. GIVEN WITH THE SEED: THE CARDS: each row of YtgjaicainmmdbaaGreatDoorRows.lean that lists a variable, with what it lists TIED to the program's text (the seventh form; the later family's looks); each row that meets fmt, with fmt's text TOLD by the authors' own Lean function (tested against real Go, not proved from fmt's source: count such statements apart). THE CARD IS WHAT COUNTS. Prove the row's statement (the work); the ties are given (YtgjaicainmmdbaaGreatDoorTie.lean); close each card by the builder's one call (the guide's Derived/Test/ToyasCard.lean, 'card_holds'). Laid BY PROGRAM, IN A SANDBOX (cutbox-door.mjs). By AI agents, Wed Nov 11 2026. No macro, syntax, notation, axiom, sorry.
-/
import Derived.Test.YtgjaicainmmdbaaGreatDoorRows
import GoSem.ClaimSeven
namespace Go.Proofs.YtgjaicainmmdbaaGreatDoor
namespace Rows

/-- THE TIED CARD OF 'conclavelaw16.ShardNumbers'. -/
def shardNumbersCard : Claim7 := { stood := { row := shardNumbersRow, standIns := [], harness := (true, "19e6568c7ac2211c802ab6c14d3695db958446db30824e4a98621a088e6c5e09"), looks := true }, kinds := [], alts := [], laidByText := true, laidKinds := [.data, .data, .data, .sentinel, .sentinel], laidTests := true, laidLooks := .later }
def ShardNumbersCardSaid : Prop := Claim7.holds Tryz.pinned (.plain (OpenSpec.ofChange shardNumbersSpec)) shardNumbersCard

/-- THE SECOND FORM's CARD OF 'conclavelaw16.ShardNumbers'. -/
def shardNumbersUptoCard : Claim7 := { stood := { row := shardNumbersUptoRow, standIns := [], harness := (true, "19e6568c7ac2211c802ab6c14d3695db958446db30824e4a98621a088e6c5e09"), looks := true }, kinds := [], alts := [], laidByText := true, laidKinds := [.data, .data, .data, .sentinel, .sentinel], laidTests := true, laidLooks := .later }
def ShardNumbersUptoCardSaid : Prop := Claim7.holds Tryz.pinned (.plain (OpenSpec.upto shardNumbersSpec)) shardNumbersUptoCard
end Rows
end Go.Proofs.YtgjaicainmmdbaaGreatDoor
