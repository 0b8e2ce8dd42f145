/- The text of permits, in the program and in the reference: the walks, continued. -/
import Derived.Test.YtcojgmgoiopboaaGreatDoorPmT
import Derived.Lib.AppendIntMem
namespace Go.Proofs.YtcojgmgoiopboaaGreatDoor
open Go.ChangeShapes Go.WideShapes Go.ChangeAt Go.RowKit
set_option linter.unusedVariables false
set_option linter.unusedSimpArgs false
attribute [local irreducible] Calls
theorem str_nil : (⟨#[]⟩ : ByteArray) = ⟨([] : List UInt8).toArray⟩ := rfl
/-- The library's table of powers of ten lies as its initialiser lays it. -/
theorem tab_below {w w' : World} (h : Lib.TabIs Tryz.prog w "internal/strconv.uint64pow10" .u64 Lib.pow10Tab) (hb : Below w.heap.size w w') : Lib.TabIs Tryz.prog w' "internal/strconv.uint64pow10" .u64 Lib.pow10Tab :=
  Lib.tabBelow_of_tabIs h w' hb
end Go.Proofs.YtcojgmgoiopboaaGreatDoor
