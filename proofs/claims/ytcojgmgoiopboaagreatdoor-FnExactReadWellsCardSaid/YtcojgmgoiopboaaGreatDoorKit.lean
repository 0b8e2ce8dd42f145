/- Plain laws that the walks of this claim use: whole rows of cells stored and loaded at once. -/
import Derived.Test.YtcojgmgoiopboaaGreatDoorRows
import Derived.WalkKit
import Derived.ProofKit
import Derived.WalkLawsBesides
import Derived.WalkSpells
import Derived.Deep.QuietTactic
import Derived.Deep.WholeRow
import Derived.Deep.MidRow
import Derived.BigQuiet
import Derived.Deep.Cut
import Derived.Deep.CutBlock
import Derived.Lib.Hide
namespace Go.Proofs.YtcojgmgoiopboaaGreatDoor
open Go.ChangeShapes Go.WideShapes Go.ChangeAt Go.RowKit
set_option linter.unusedVariables false

section
variable {P : Program} {ops : Array Oper} {rest : List Oper} {o : Oper} {a : Act} {Q : Exit → Act → World → Prop}
/-- A whole row into the block that was made last. -/
theorem wpList_store_last {w : World} {t t' : TypeId} {x y : Operand} {n : Nat} {c c' : Array Value} (hgd : o.guard = none) (ho : o.op = .store t x y) (hx : a.eval x = .pointer (some ⟨n, 0, none⟩)) (hn : n = w.heap.size)
    (hy : a.eval y = .agg c') (hi : (P.info? t).map (·.size) = some c'.size) (hs : c.size = c'.size) (h1 : c'.toList.all (·.oneCell') = true)
    (h : wpList P ops Q rest (a.put o.dst undef) (w.alloc (.cells c' t'))) : wpList P ops Q (o :: rest) a (w.alloc (.cells c t')) :=
  wpList_plain hgd fun K hK => by
    subst hn
    refine wp_store_row t x y ho w.heap.size c' hx hy t' c (heap_alloc_last w _) hi hs (by rw [← Array.all_toList]; exact h1) ?_
    rw [World.setRow_alloc_new]
    exact hK _ _ h
end

@[go_sem] theorem run_neg_float {P : Program} (w : World) (k : FloatKind) (b : Nat) : (Op.unary .neg (.float k b)).run P w = .ok (.float k (Op.negFloat k b)) w := rfl
@[go_sem] theorem neg_half : Op.negFloat .f32 1056964608 = 3204448256 := by decide
@[go_sem] theorem neg_root : Op.negFloat .f32 1063105495 = 3210589143 := by decide
end Go.Proofs.YtcojgmgoiopboaaGreatDoor
