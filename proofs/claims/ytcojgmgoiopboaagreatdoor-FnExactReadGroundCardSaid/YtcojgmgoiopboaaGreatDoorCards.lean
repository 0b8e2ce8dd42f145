/-
  DERIVED. GIVEN WITH THE SEED: THE CARDS: each row of YtcojgmgoiopboaaGreatDoorRows.lean that lists a variable, with what it lists TIED to the program's text (the seventh form; the later family's looks); each row that meets fmt, with fmt's text TOLD by the authors' own Lean function (tested against real Go, not proved from fmt's source: count such statements apart). THE CARD IS WHAT COUNTS. Prove the row's statement (the work); the ties are given (YtcojgmgoiopboaaGreatDoorTie.lean); close each card by the builder's one call (the guide's Derived/Test/ToyasCard.lean, 'card_holds'). Laid BY PROGRAM, IN A SANDBOX (cutbox-door.mjs). By AI agents, Wed Nov 11 2026. No macro, syntax, notation, axiom, sorry.
-/
import Derived.Test.YtcojgmgoiopboaaGreatDoorRows
import GoSem.ClaimSeven
namespace Go.Proofs.YtcojgmgoiopboaaGreatDoor
namespace Rows

/-- THE TIED CARD OF 'laws.FnExactReadWells'. -/
def fnExactReadWellsCard : Claim7 := { stood := { row := fnExactReadWellsRow, standIns := [], harness := (true, "18dde5917026a1aa286998af003b8ac9f5105814c2779fd9152112f4f7563cde"), looks := true }, kinds := [], alts := [], laidByText := true, laidKinds := [.data, .data, .data, .data, .sentinel, .sentinel, .pinned], laidTests := true, laidLooks := .later }
def FnExactReadWellsCardSaid : Prop := Claim7.holds Tryz.pinned (.plain (OpenSpec.ofChange fnExactReadWellsSpec)) fnExactReadWellsCard

/-- THE TIED CARD OF 'laws.FnExactReadGround'. -/
def fnExactReadGroundCard : Claim7 := { stood := { row := fnExactReadGroundRow, standIns := [], harness := (true, "18dde5917026a1aa286998af003b8ac9f5105814c2779fd9152112f4f7563cde"), looks := true }, kinds := [], alts := [], laidByText := true, laidKinds := [.data, .data, .data, .data, .sentinel, .sentinel, .pinned], laidTests := true, laidLooks := .later }
def FnExactReadGroundCardSaid : Prop := Claim7.holds Tryz.pinned (.plain (OpenSpec.ofChange fnExactReadGroundSpec)) fnExactReadGroundCard

/-- THE SECOND FORM's CARD OF 'laws.FnExactReadWells'. -/
def fnExactReadWellsUptoCard : Claim7 := { stood := { row := fnExactReadWellsUptoRow, standIns := [], harness := (true, "18dde5917026a1aa286998af003b8ac9f5105814c2779fd9152112f4f7563cde"), looks := true }, kinds := [], alts := [], laidByText := true, laidKinds := [.data, .data, .data, .data, .sentinel, .sentinel, .pinned], laidTests := true, laidLooks := .later }
def FnExactReadWellsUptoCardSaid : Prop := Claim7.holds Tryz.pinned (.plain (OpenSpec.upto fnExactReadWellsSpec)) fnExactReadWellsUptoCard

/-- THE SECOND FORM's CARD OF 'laws.FnExactReadGround'. -/
def fnExactReadGroundUptoCard : Claim7 := { stood := { row := fnExactReadGroundUptoRow, standIns := [], harness := (true, "18dde5917026a1aa286998af003b8ac9f5105814c2779fd9152112f4f7563cde"), looks := true }, kinds := [], alts := [], laidByText := true, laidKinds := [.data, .data, .data, .data, .sentinel, .sentinel, .pinned], laidTests := true, laidLooks := .later }
def FnExactReadGroundUptoCardSaid : Prop := Claim7.holds Tryz.pinned (.plain (OpenSpec.upto fnExactReadGroundSpec)) fnExactReadGroundUptoCard
end Rows
end Go.Proofs.YtcojgmgoiopboaaGreatDoor
