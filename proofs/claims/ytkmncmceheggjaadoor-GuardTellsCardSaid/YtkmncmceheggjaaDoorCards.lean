/-
  DERIVED. GIVEN WITH THE SEED: THE CARDS: each row of YtkmncmceheggjaaDoorRows.lean that lists a variable, with what it lists TIED to the program's text (the seventh form; the later family's looks); each row that meets fmt, with fmt's text TOLD by the authors' own Lean function (tested against real Go, not proved from fmt's source: count such statements apart). THE CARD IS WHAT COUNTS. Prove the row's statement (the work); the ties are given (YtkmncmceheggjaaDoorTie.lean); close each card by the builder's one call (the guide's Derived/Test/ToyasCard.lean, 'card_holds'). Laid BY PROGRAM, IN A SANDBOX (cutbox-door.mjs). By AI agents, Wed Nov 11 2026. No macro, syntax, notation, axiom, sorry.
-/
import Derived.Test.YtkmncmceheggjaaDoorRows
import GoSem.ClaimSeven
namespace Go.Proofs.YtkmncmceheggjaaDoor
namespace Rows

/-- THE TIED CARD OF 'conclavelaw12.GuardRules'. -/
def guardRulesCard : Claim7 := { stood := { row := guardRulesRow, standIns := [], harness := (true, "20bcb7da67f286ad4cbd2755bc785e89ee4c4d02426cd90128cdd15581cbdb3d"), looks := true }, kinds := [], alts := [], laidByText := true, laidKinds := [.data, .data, .data, .sentinel, .sentinel], laidTests := true, laidLooks := .later }
def GuardRulesCardSaid : Prop := Claim7.holds Tryd.pinned (.plain (OpenSpec.ofChange guardRulesSpec)) guardRulesCard

/-- THE TIED CARD OF 'conclavelaw12.GuardNumbers'. -/
def guardNumbersCard : Claim7 := { stood := { row := guardNumbersRow, standIns := [], harness := (true, "20bcb7da67f286ad4cbd2755bc785e89ee4c4d02426cd90128cdd15581cbdb3d"), looks := true }, kinds := [], alts := [], laidByText := true, laidKinds := [.data, .data, .data, .sentinel, .sentinel], laidTests := true, laidLooks := .later }
def GuardNumbersCardSaid : Prop := Claim7.holds Tryd.pinned (.plain (OpenSpec.ofChange guardNumbersSpec)) guardNumbersCard

/-- THE TIED CARD OF 'conclavelaw12.GuardTells'. -/
def guardTellsCard : Claim7 := { stood := { row := guardTellsRow, standIns := [], harness := (true, "20bcb7da67f286ad4cbd2755bc785e89ee4c4d02426cd90128cdd15581cbdb3d"), looks := true }, kinds := [], alts := [], laidByText := true, laidKinds := [.data, .data, .data, .sentinel, .sentinel], laidTests := true, laidLooks := .later }
def GuardTellsCardSaid : Prop := Claim7.holds Tryd.pinned (.plain (OpenSpec.ofChange guardTellsSpec)) guardTellsCard

/-- THE TIED CARD OF 'conclavelaw12.GuardUses'. -/
def guardUsesCard : Claim7 := { stood := { row := guardUsesRow, standIns := [], harness := (true, "20bcb7da67f286ad4cbd2755bc785e89ee4c4d02426cd90128cdd15581cbdb3d"), looks := true }, kinds := [], alts := [], laidByText := true, laidKinds := [.data, .data, .data, .sentinel, .sentinel], laidTests := true, laidLooks := .later }
def GuardUsesCardSaid : Prop := Claim7.holds Tryd.pinned (.plain (OpenSpec.ofChange guardUsesSpec)) guardUsesCard

/-- THE TIED CARD OF 'conclavelaw12.GuardBlanks'. -/
def guardBlanksCard : Claim7 := { stood := { row := guardBlanksRow, standIns := [], harness := (true, "20bcb7da67f286ad4cbd2755bc785e89ee4c4d02426cd90128cdd15581cbdb3d"), looks := true }, kinds := [], alts := [], laidByText := true, laidKinds := [.data, .data, .data, .sentinel, .sentinel], laidTests := true, laidLooks := .later }
def GuardBlanksCardSaid : Prop := Claim7.holds Tryd.pinned (.plain (OpenSpec.ofChange guardBlanksSpec)) guardBlanksCard

/-- THE TIED CARD OF 'conclavelaw12.GuardNames'. -/
def guardNamesCard : Claim7 := { stood := { row := guardNamesRow, standIns := [], harness := (true, "20bcb7da67f286ad4cbd2755bc785e89ee4c4d02426cd90128cdd15581cbdb3d"), looks := true }, kinds := [], alts := [], laidByText := true, laidKinds := [.data, .data, .data, .sentinel, .sentinel], laidTests := true, laidLooks := .later }
def GuardNamesCardSaid : Prop := Claim7.holds Tryd.pinned (.plain (OpenSpec.ofChange guardNamesSpec)) guardNamesCard

/-- THE SECOND FORM's CARD OF 'conclavelaw12.GuardRules'. -/
def guardRulesUptoCard : Claim7 := { stood := { row := guardRulesUptoRow, standIns := [], harness := (true, "20bcb7da67f286ad4cbd2755bc785e89ee4c4d02426cd90128cdd15581cbdb3d"), looks := true }, kinds := [], alts := [], laidByText := true, laidKinds := [.data, .data, .data, .sentinel, .sentinel], laidTests := true, laidLooks := .later }
def GuardRulesUptoCardSaid : Prop := Claim7.holds Tryd.pinned (.plain (OpenSpec.upto guardRulesSpec)) guardRulesUptoCard

/-- THE SECOND FORM's CARD OF 'conclavelaw12.GuardNumbers'. -/
def guardNumbersUptoCard : Claim7 := { stood := { row := guardNumbersUptoRow, standIns := [], harness := (true, "20bcb7da67f286ad4cbd2755bc785e89ee4c4d02426cd90128cdd15581cbdb3d"), looks := true }, kinds := [], alts := [], laidByText := true, laidKinds := [.data, .data, .data, .sentinel, .sentinel], laidTests := true, laidLooks := .later }
def GuardNumbersUptoCardSaid : Prop := Claim7.holds Tryd.pinned (.plain (OpenSpec.upto guardNumbersSpec)) guardNumbersUptoCard

/-- THE SECOND FORM's CARD OF 'conclavelaw12.GuardTells'. -/
def guardTellsUptoCard : Claim7 := { stood := { row := guardTellsUptoRow, standIns := [], harness := (true, "20bcb7da67f286ad4cbd2755bc785e89ee4c4d02426cd90128cdd15581cbdb3d"), looks := true }, kinds := [], alts := [], laidByText := true, laidKinds := [.data, .data, .data, .sentinel, .sentinel], laidTests := true, laidLooks := .later }
def GuardTellsUptoCardSaid : Prop := Claim7.holds Tryd.pinned (.plain (OpenSpec.upto guardTellsSpec)) guardTellsUptoCard

/-- THE SECOND FORM's CARD OF 'conclavelaw12.GuardUses'. -/
def guardUsesUptoCard : Claim7 := { stood := { row := guardUsesUptoRow, standIns := [], harness := (true, "20bcb7da67f286ad4cbd2755bc785e89ee4c4d02426cd90128cdd15581cbdb3d"), looks := true }, kinds := [], alts := [], laidByText := true, laidKinds := [.data, .data, .data, .sentinel, .sentinel], laidTests := true, laidLooks := .later }
def GuardUsesUptoCardSaid : Prop := Claim7.holds Tryd.pinned (.plain (OpenSpec.upto guardUsesSpec)) guardUsesUptoCard

/-- THE SECOND FORM's CARD OF 'conclavelaw12.GuardBlanks'. -/
def guardBlanksUptoCard : Claim7 := { stood := { row := guardBlanksUptoRow, standIns := [], harness := (true, "20bcb7da67f286ad4cbd2755bc785e89ee4c4d02426cd90128cdd15581cbdb3d"), looks := true }, kinds := [], alts := [], laidByText := true, laidKinds := [.data, .data, .data, .sentinel, .sentinel], laidTests := true, laidLooks := .later }
def GuardBlanksUptoCardSaid : Prop := Claim7.holds Tryd.pinned (.plain (OpenSpec.upto guardBlanksSpec)) guardBlanksUptoCard

/-- THE SECOND FORM's CARD OF 'conclavelaw12.GuardNames'. -/
def guardNamesUptoCard : Claim7 := { stood := { row := guardNamesUptoRow, standIns := [], harness := (true, "20bcb7da67f286ad4cbd2755bc785e89ee4c4d02426cd90128cdd15581cbdb3d"), looks := true }, kinds := [], alts := [], laidByText := true, laidKinds := [.data, .data, .data, .sentinel, .sentinel], laidTests := true, laidLooks := .later }
def GuardNamesUptoCardSaid : Prop := Claim7.holds Tryd.pinned (.plain (OpenSpec.upto guardNamesSpec)) guardNamesUptoCard
end Rows
end Go.Proofs.YtkmncmceheggjaaDoor
