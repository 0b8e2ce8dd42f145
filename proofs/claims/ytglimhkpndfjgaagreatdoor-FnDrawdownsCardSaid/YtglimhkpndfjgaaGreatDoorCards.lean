/-
  DERIVED. GIVEN WITH THE SEED: THE CARDS: each row of YtglimhkpndfjgaaGreatDoorRows.lean that lists a variable, with what it lists TIED to the program's text (the seventh form; the later family's looks); each row that meets fmt, with fmt's text TOLD by the authors' own Lean function (tested against real Go, not proved from fmt's source: count such statements apart). THE CARD IS WHAT COUNTS. Prove the row's statement (the work); the ties are given (YtglimhkpndfjgaaGreatDoorTie.lean); close each card by the builder's one call (the guide's Derived/Test/ToyasCard.lean, 'card_holds'). Laid BY PROGRAM, IN A SANDBOX (cutbox-door.mjs). By AI agents, Wed Nov 11 2026. No macro, syntax, notation, axiom, sorry.
-/
import Derived.Test.YtglimhkpndfjgaaGreatDoorRows
import GoSem.ClaimSeven
namespace Go.Proofs.YtglimhkpndfjgaaGreatDoor
namespace Rows

/-- THE TIED CARD OF 'laws.FnDrawdowns'. -/
def fnDrawdownsCard : Claim7 := { stood := { row := fnDrawdownsRow, standIns := [], harness := (true, "be80397b01834fc5da64ec4c8084beb6d8fa8af983322bf967d432003e01061b"), looks := true }, kinds := [], alts := [], laidByText := true, laidKinds := [.data, .data, .data, .data, .sentinel, .sentinel, .pinned], laidTests := true, laidLooks := .later }
def FnDrawdownsCardSaid : Prop := Claim7.holds Tryz.pinned (.plain (OpenSpec.ofChange fnDrawdownsSpec)) fnDrawdownsCard

/-- THE TIED CARD OF 'laws.FnLogged'. -/
def fnLoggedCard : Claim7 := { stood := { row := fnLoggedRow, standIns := [], harness := (true, "be80397b01834fc5da64ec4c8084beb6d8fa8af983322bf967d432003e01061b"), looks := true }, kinds := [], alts := [], laidByText := true, laidKinds := [.data, .data, .data, .data, .sentinel, .sentinel, .pinned], laidTests := true, laidLooks := .later }
def FnLoggedCardSaid : Prop := Claim7.holds Tryz.pinned (.plain (OpenSpec.ofChange fnLoggedSpec)) fnLoggedCard

/-- THE SECOND FORM's CARD OF 'laws.FnDrawdowns'. -/
def fnDrawdownsUptoCard : Claim7 := { stood := { row := fnDrawdownsUptoRow, standIns := [], harness := (true, "be80397b01834fc5da64ec4c8084beb6d8fa8af983322bf967d432003e01061b"), looks := true }, kinds := [], alts := [], laidByText := true, laidKinds := [.data, .data, .data, .data, .sentinel, .sentinel, .pinned], laidTests := true, laidLooks := .later }
def FnDrawdownsUptoCardSaid : Prop := Claim7.holds Tryz.pinned (.plain (OpenSpec.upto fnDrawdownsSpec)) fnDrawdownsUptoCard

/-- THE SECOND FORM's CARD OF 'laws.FnLogged'. -/
def fnLoggedUptoCard : Claim7 := { stood := { row := fnLoggedUptoRow, standIns := [], harness := (true, "be80397b01834fc5da64ec4c8084beb6d8fa8af983322bf967d432003e01061b"), looks := true }, kinds := [], alts := [], laidByText := true, laidKinds := [.data, .data, .data, .data, .sentinel, .sentinel, .pinned], laidTests := true, laidLooks := .later }
def FnLoggedUptoCardSaid : Prop := Claim7.holds Tryz.pinned (.plain (OpenSpec.upto fnLoggedSpec)) fnLoggedUptoCard
end Rows
end Go.Proofs.YtglimhkpndfjgaaGreatDoor
