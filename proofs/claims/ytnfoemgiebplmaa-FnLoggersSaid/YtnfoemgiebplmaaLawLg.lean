/- The law over LoggedLevels: the walk joined with what a logger keeps. -/
import Derived.Test.YtnfoemgiebplmaaLawLog
import Derived.Test.YtnfoemgiebplmaaLg
import Derived.Test.YtnfoemgiebplmaaOpenGr
namespace Go.Proofs.Ytnfoemgiebplmaa
open Go.ChangeShapes Go.WideShapes Go.ChangeAt Go.RowKit
theorem lawLoggedLevels (g : Gr) (w : World) (hg : g.ok) :
    Calls Try.prog 6 #[.agg g.cells] w fun e w' => e = .returned (.bool true) ∧ Below w.heap.size w w' :=
  lawLogged lg (fun b w h => logged_any b w h) (fun b w h => l07Logged_any b w h) g w hg
end Go.Proofs.Ytnfoemgiebplmaa
