/-
  DERIVED. GIVEN WITH THE SEED: THE CARDS: each row of YtcpmgjnlnaigbaaGreatDoorRows.lean that lists a variable, with what it lists TIED to the program's text (the seventh form; the later family's looks); each row that meets fmt, with fmt's text TOLD by the authors' own Lean function (tested against real Go, not proved from fmt's source: count such statements apart). THE CARD IS WHAT COUNTS. Prove the row's statement (the work); the ties are given (YtcpmgjnlnaigbaaGreatDoorTie.lean); close each card by the builder's one call (the guide's Derived/Test/ToyasCard.lean, 'card_holds'). Laid BY PROGRAM, IN A SANDBOX (cutbox-door.mjs). By AI agents, Wed Nov 11 2026. No macro, syntax, notation, axiom, sorry.
-/
import Derived.Test.YtcpmgjnlnaigbaaGreatDoorRows
import GoSem.ClaimSeven
namespace Go.Proofs.YtcpmgjnlnaigbaaGreatDoor
namespace Rows

/-- THE TIED CARD OF 'conclavetop.TopAnyOrder'. -/
def topAnyOrderCard : Claim7 := { stood := { row := topAnyOrderRow, standIns := [], harness := (true, "f5e58dc67f1e5b92b70d511652930442e211122bcd2a0ffb814cd0f8516dcb6b"), looks := true }, kinds := [], alts := [], laidByText := true, laidKinds := [.data, .data, .data, .sentinel, .sentinel], laidTests := true, laidLooks := .later }
def TopAnyOrderCardSaid : Prop := Claim7.holds Tryz.pinned (.plain (OpenSpec.ofChange topAnyOrderSpec)) topAnyOrderCard

/-- THE SECOND FORM's CARD OF 'conclavetop.TopAnyOrder'. -/
def topAnyOrderUptoCard : Claim7 := { stood := { row := topAnyOrderUptoRow, standIns := [], harness := (true, "f5e58dc67f1e5b92b70d511652930442e211122bcd2a0ffb814cd0f8516dcb6b"), looks := true }, kinds := [], alts := [], laidByText := true, laidKinds := [.data, .data, .data, .sentinel, .sentinel], laidTests := true, laidLooks := .later }
def TopAnyOrderUptoCardSaid : Prop := Claim7.holds Tryz.pinned (.plain (OpenSpec.upto topAnyOrderSpec)) topAnyOrderUptoCard
end Rows
end Go.Proofs.YtcpmgjnlnaigbaaGreatDoor
