/-
  DERIVED. GIVEN WITH THE SEED: THE CARDS: each row of YtiengfdpdlnkjaaDoorRows.lean that lists a variable, with what it lists TIED to the program's text (the seventh form; the later family's looks); each row that meets fmt, with fmt's text TOLD by the authors' own Lean function (tested against real Go, not proved from fmt's source: count such statements apart). THE CARD IS WHAT COUNTS. Prove the row's statement (the work); the ties are given (YtiengfdpdlnkjaaDoorTie.lean); close each card by the builder's one call (the guide's Derived/Test/ToyasCard.lean, 'card_holds'). Laid BY PROGRAM, IN A SANDBOX (cutbox-door.mjs). By AI agents, Wed Nov 11 2026. No macro, syntax, notation, axiom, sorry.
-/
import Derived.Test.YtiengfdpdlnkjaaDoorRows
import GoSem.ClaimSeven
namespace Go.Proofs.YtiengfdpdlnkjaaDoor
namespace Rows

/-- THE TIED CARD OF 'laws.FnExactReadWave'. -/
def fnExactReadWaveCard : Claim7 := { stood := { row := fnExactReadWaveRow, standIns := [], harness := (true, "dd9b830cc0f1f9c93019a89da0457ed1043281ef9c64f0ed6daff2c3615bab40"), looks := true }, kinds := [], alts := [], laidByText := true, laidKinds := [.data, .data, .data, .sentinel, .sentinel], laidTests := true, laidLooks := .later }
def FnExactReadWaveCardSaid : Prop := Claim7.holds Tryd.pinned (.plain (OpenSpec.ofChange fnExactReadWaveSpec)) fnExactReadWaveCard

/-- THE SECOND FORM's CARD OF 'laws.FnExactReadWave'. -/
def fnExactReadWaveUptoCard : Claim7 := { stood := { row := fnExactReadWaveUptoRow, standIns := [], harness := (true, "dd9b830cc0f1f9c93019a89da0457ed1043281ef9c64f0ed6daff2c3615bab40"), looks := true }, kinds := [], alts := [], laidByText := true, laidKinds := [.data, .data, .data, .sentinel, .sentinel], laidTests := true, laidLooks := .later }
def FnExactReadWaveUptoCardSaid : Prop := Claim7.holds Tryd.pinned (.plain (OpenSpec.upto fnExactReadWaveSpec)) fnExactReadWaveUptoCard
end Rows
end Go.Proofs.YtiengfdpdlnkjaaDoor
