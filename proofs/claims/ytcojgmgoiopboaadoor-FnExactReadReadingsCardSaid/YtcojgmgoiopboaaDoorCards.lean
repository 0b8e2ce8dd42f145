/-
  DERIVED. GIVEN WITH THE SEED: THE CARDS: each row of YtcojgmgoiopboaaDoorRows.lean that lists a variable, with what it lists TIED to the program's text (the seventh form; the later family's looks); each row that meets fmt, with fmt's text TOLD by the authors' own Lean function (tested against real Go, not proved from fmt's source: count such statements apart). THE CARD IS WHAT COUNTS. Prove the row's statement (the work); the ties are given (YtcojgmgoiopboaaDoorTie.lean); close each card by the builder's one call (the guide's Derived/Test/ToyasCard.lean, 'card_holds'). Laid BY PROGRAM, IN A SANDBOX (cutbox-door.mjs). By AI agents, Wed Nov 11 2026. No macro, syntax, notation, axiom, sorry.
-/
import Derived.Test.YtcojgmgoiopboaaDoorRows
import GoSem.ClaimSeven
namespace Go.Proofs.YtcojgmgoiopboaaDoor
namespace Rows

/-- THE TIED CARD OF 'laws.FnExactPermitsText'. -/
def fnExactPermitsTextCard : Claim7 := { stood := { row := fnExactPermitsTextRow, standIns := [], harness := (true, "7b9474063d146d5b3a55b22e39f53b2f3c970e8427f637cd21d49340c175860e"), looks := true }, kinds := [], alts := [], laidByText := true, laidKinds := [.data, .data, .data], laidTests := true, laidLooks := .later }
def FnExactPermitsTextCardSaid : Prop := Claim7.holds Tryd.pinned (.plain (OpenSpec.ofChange fnExactPermitsTextSpec)) fnExactPermitsTextCard

/-- THE TIED CARD OF 'laws.FnExactReadPermits'. -/
def fnExactReadPermitsCard : Claim7 := { stood := { row := fnExactReadPermitsRow, standIns := [], harness := (true, "7b9474063d146d5b3a55b22e39f53b2f3c970e8427f637cd21d49340c175860e"), looks := true }, kinds := [], alts := [], laidByText := true, laidKinds := [.data, .data, .data, .data, .sentinel, .sentinel, .pinned], laidTests := true, laidLooks := .later }
def FnExactReadPermitsCardSaid : Prop := Claim7.holds Tryd.pinned (.plain (OpenSpec.ofChange fnExactReadPermitsSpec)) fnExactReadPermitsCard

/-- THE TIED CARD OF 'laws.FnExactReadReadings'. -/
def fnExactReadReadingsCard : Claim7 := { stood := { row := fnExactReadReadingsRow, standIns := [], harness := (true, "7b9474063d146d5b3a55b22e39f53b2f3c970e8427f637cd21d49340c175860e"), looks := true }, kinds := [], alts := [], laidByText := true, laidKinds := [.data, .data, .data, .data, .sentinel, .sentinel, .pinned], laidTests := true, laidLooks := .later }
def FnExactReadReadingsCardSaid : Prop := Claim7.holds Tryd.pinned (.plain (OpenSpec.ofChange fnExactReadReadingsSpec)) fnExactReadReadingsCard

/-- THE SECOND FORM's CARD OF 'laws.FnExactPermitsText'. -/
def fnExactPermitsTextUptoCard : Claim7 := { stood := { row := fnExactPermitsTextUptoRow, standIns := [], harness := (true, "7b9474063d146d5b3a55b22e39f53b2f3c970e8427f637cd21d49340c175860e"), looks := true }, kinds := [], alts := [], laidByText := true, laidKinds := [.data, .data, .data], laidTests := true, laidLooks := .later }
def FnExactPermitsTextUptoCardSaid : Prop := Claim7.holds Tryd.pinned (.plain (OpenSpec.upto fnExactPermitsTextSpec)) fnExactPermitsTextUptoCard

/-- THE SECOND FORM's CARD OF 'laws.FnExactReadPermits'. -/
def fnExactReadPermitsUptoCard : Claim7 := { stood := { row := fnExactReadPermitsUptoRow, standIns := [], harness := (true, "7b9474063d146d5b3a55b22e39f53b2f3c970e8427f637cd21d49340c175860e"), looks := true }, kinds := [], alts := [], laidByText := true, laidKinds := [.data, .data, .data, .data, .sentinel, .sentinel, .pinned], laidTests := true, laidLooks := .later }
def FnExactReadPermitsUptoCardSaid : Prop := Claim7.holds Tryd.pinned (.plain (OpenSpec.upto fnExactReadPermitsSpec)) fnExactReadPermitsUptoCard

/-- THE SECOND FORM's CARD OF 'laws.FnExactReadReadings'. -/
def fnExactReadReadingsUptoCard : Claim7 := { stood := { row := fnExactReadReadingsUptoRow, standIns := [], harness := (true, "7b9474063d146d5b3a55b22e39f53b2f3c970e8427f637cd21d49340c175860e"), looks := true }, kinds := [], alts := [], laidByText := true, laidKinds := [.data, .data, .data, .data, .sentinel, .sentinel, .pinned], laidTests := true, laidLooks := .later }
def FnExactReadReadingsUptoCardSaid : Prop := Claim7.holds Tryd.pinned (.plain (OpenSpec.upto fnExactReadReadingsSpec)) fnExactReadReadingsUptoCard
end Rows
end Go.Proofs.YtcojgmgoiopboaaDoor
