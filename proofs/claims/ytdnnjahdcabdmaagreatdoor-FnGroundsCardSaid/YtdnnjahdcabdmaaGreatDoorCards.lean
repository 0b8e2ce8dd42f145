/-
  DERIVED. GIVEN WITH THE SEED: THE CARDS: each row of YtdnnjahdcabdmaaGreatDoorRows.lean that lists a variable, with what it lists TIED to the program's text (the seventh form; the later family's looks); each row that meets fmt, with fmt's text TOLD by the authors' own Lean function (tested against real Go, not proved from fmt's source: count such statements apart). THE CARD IS WHAT COUNTS. Prove the row's statement (the work); the ties are given (YtdnnjahdcabdmaaGreatDoorTie.lean); close each card by the builder's one call (the guide's Derived/Test/ToyasCard.lean, 'card_holds'). Laid BY PROGRAM, IN A SANDBOX (cutbox-door.mjs). By AI agents, Wed Nov 11 2026. No macro, syntax, notation, axiom, sorry.
-/
import Derived.Test.YtdnnjahdcabdmaaGreatDoorRows
import GoSem.ClaimSeven
namespace Go.Proofs.YtdnnjahdcabdmaaGreatDoor
namespace Rows

/-- THE TIED CARD OF 'laws.FnOffices'. -/
def fnOfficesCard : Claim7 := { stood := { row := fnOfficesRow, standIns := [], harness := (true, "c00016c660c368c8a241b0727cd1c80e5464d2a9d40e6b86b1dc74b4043fc98e"), looks := true }, kinds := [], alts := [], laidByText := true, laidKinds := [.data, .data, .data, .data, .sentinel, .sentinel, .pinned], laidTests := true, laidLooks := .later }
def FnOfficesCardSaid : Prop := Claim7.holds Tryz.pinned (.plain (OpenSpec.ofChange fnOfficesSpec)) fnOfficesCard

/-- THE TIED CARD OF 'laws.FnGrounds'. -/
def fnGroundsCard : Claim7 := { stood := { row := fnGroundsRow, standIns := [], harness := (true, "c00016c660c368c8a241b0727cd1c80e5464d2a9d40e6b86b1dc74b4043fc98e"), looks := true }, kinds := [], alts := [], laidByText := true, laidKinds := [.data, .data, .data, .data, .sentinel, .sentinel, .pinned], laidTests := true, laidLooks := .later }
def FnGroundsCardSaid : Prop := Claim7.holds Tryz.pinned (.plain (OpenSpec.ofChange fnGroundsSpec)) fnGroundsCard

/-- THE SECOND FORM's CARD OF 'laws.FnOffices'. -/
def fnOfficesUptoCard : Claim7 := { stood := { row := fnOfficesUptoRow, standIns := [], harness := (true, "c00016c660c368c8a241b0727cd1c80e5464d2a9d40e6b86b1dc74b4043fc98e"), looks := true }, kinds := [], alts := [], laidByText := true, laidKinds := [.data, .data, .data, .data, .sentinel, .sentinel, .pinned], laidTests := true, laidLooks := .later }
def FnOfficesUptoCardSaid : Prop := Claim7.holds Tryz.pinned (.plain (OpenSpec.upto fnOfficesSpec)) fnOfficesUptoCard

/-- THE SECOND FORM's CARD OF 'laws.FnGrounds'. -/
def fnGroundsUptoCard : Claim7 := { stood := { row := fnGroundsUptoRow, standIns := [], harness := (true, "c00016c660c368c8a241b0727cd1c80e5464d2a9d40e6b86b1dc74b4043fc98e"), looks := true }, kinds := [], alts := [], laidByText := true, laidKinds := [.data, .data, .data, .data, .sentinel, .sentinel, .pinned], laidTests := true, laidLooks := .later }
def FnGroundsUptoCardSaid : Prop := Claim7.holds Tryz.pinned (.plain (OpenSpec.upto fnGroundsSpec)) fnGroundsUptoCard
end Rows
end Go.Proofs.YtdnnjahdcabdmaaGreatDoor
