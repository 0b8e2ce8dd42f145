/- Decimal, in the reference: the walk. -/
import Derived.Test.YtcojgmgoiopboaaGreatDoorDecP
import Derived.RegionTactic
import Derived.IntWalk
import Derived.Laws.IdiomStrings
namespace Go.Proofs.YtcojgmgoiopboaaGreatDoor
open Go.ChangeShapes Go.WideShapes Go.ChangeAt Go.RowKit
set_option linter.unusedVariables false
set_option linter.unusedSimpArgs false
attribute [local irreducible] Calls
theorem conv1 {w : World} {r : Nat} {T : TypeId} {c : UInt8} (h : Blk w r #[.int .u8 (c.toNat : Int)] T) : (convert 90 9 (.slice (some ⟨r, 0, none⟩) 1 1)).run Tryz.prog w = .ok (.string ⟨#[c]⟩) w :=
  run_convert_bytes_back (P := Tryz.prog) w 90 9 5 ⟨r, 0, none⟩ 1 [c] Tryz.underlying90 Tryz.underlying5 Tryz.underlying9 (fun j hj => by
    have hj : j = 0 := by simpa using hj
    subst hj
    exact h.cell 0)
end Go.Proofs.YtcojgmgoiopboaaGreatDoor
