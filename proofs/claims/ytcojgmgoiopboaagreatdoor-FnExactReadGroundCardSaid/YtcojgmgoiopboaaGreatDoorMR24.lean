import Derived.Test.YtcojgmgoiopboaaGreatDoorMR23
import Derived.Test.YtcojgmgoiopboaaGreatDoorMR05
/- ReadGround: what both walks keep while the ground is read. -/
namespace Go.Proofs.YtcojgmgoiopboaaGreatDoor
open Go.ChangeShapes Go.WideShapes Go.ChangeAt Go.RowKit
set_option linter.unusedVariables false
set_option linter.unusedSimpArgs false

/-- The result's box, the ground's box, and two lists that are only read. -/
structure RG (w0 wr : World) (q0 q1 gA gB : Nat) (CA CB : Array Value) (tA tB : TypeId) (G : Gr) : Prop where
  b0 : Blk wr q0 zeroGr.cells 34
  b1 : Blk wr q1 G.cells 34
  bA : Blk wr gA CA tA
  bB : Blk wr gB CB tB
  bel : Below w0.heap.size w0 wr
  le : w0.heap.size ≤ q0 ∧ q0 < q1
  neA : gA ≠ q1
  neB : gB ≠ q1
section
variable {w0 wr w1 : World} {q0 q1 gA gB : Nat} {CA CB : Array Value} {tA tB : TypeId} {G : Gr}
theorem RG.below (h : RG w0 wr q0 q1 gA gB CA CB tA tB G) (hb : Below wr.heap.size wr w1) : RG w0 w1 q0 q1 gA gB CA CB tA tB G :=
  ⟨h.b0.below hb h.b0.lt, h.b1.below hb h.b1.lt, h.bA.below hb h.bA.lt, h.bB.below hb h.bB.lt, h.bel.trans (hb.mono h.bel.size), h.le, h.neA, h.neB⟩
theorem RG.drewN (h : RG w0 wr q0 q1 gA gB CA CB tA tB G) (n : Nat) : RG w0 (wr.drewN n) q0 q1 gA gB CA CB tA tB G :=
  ⟨h.b0.drewN n, h.b1.drewN n, h.bA.drewN n, h.bB.drewN n, below_drewN h.bel n, h.le, h.neA, h.neB⟩
theorem RG.put {G' : Gr} (h : RG w0 wr q0 q1 gA gB CA CB tA tB G) (hB : Blk w1 q1 G'.cells 34) (hg : wr.grownBy w1 (some q1)) : RG w0 w1 q0 q1 gA gB CA CB tA tB G' :=
  ⟨h.b0.grown hg (fun e => by injection e; have := h.le; omega), hB, h.bA.grown hg (fun e => by injection e with e; exact h.neA e.symm), h.bB.grown hg (fun e => by injection e with e; exact h.neB e.symm), h.bel.grown hg h.bel.size (fun k e => by injection e; have := h.le; omega), h.le, h.neA, h.neB⟩
theorem RG.cell {G' : Gr} (h : RG w0 wr q0 q1 gA gB CA CB tA tB G) (o : Nat) (v : Value) (hG : G.cells.setIfInBounds o v = G'.cells) : RG w0 (wr.setCell ⟨q1, o, none⟩ v) q0 q1 gA gB CA CB tA tB G' :=
  ⟨h.b0.setOther v (by have := h.le; show q0 ≠ q1; omega), by rw [← hG]; exact h.b1.setCell o v, h.bA.setOther v h.neA, h.bB.setOther v h.neB, h.bel.setCell (p := ⟨q1, o, none⟩) (by have := h.le; show w0.heap.size ≤ q1; omega) v, h.le, h.neA, h.neB⟩
theorem RG.drew (h : RG w0 wr q0 q1 gA gB CA CB tA tB G) : RG w0 wr.drew q0 q1 gA gB CA CB tA tB G := h.drewN 1
end
theorem zc_size : Tryz.zeroCells34.size = 195 := by rw [zeroCells_gr]; exact zeroGr.size
theorem zc_one : ∀ u ∈ Tryz.zeroCells34.toList, u.oneCell' = true := by rw [zeroCells_gr]; exact zeroGr.one
theorem own_cur {w : World} {g n : Nat} {e : TypeId} {v : Value} {xs : List Value} (h : Own w g e 1 v n xs) : ∃ cap cur, v = .slice (some ⟨g, 0, none⟩) n cap ∧ n ≤ cap ∧ cap ≤ maxLen ∧ Blk w g cur e ∧ ∀ j, j < n → cur[j]? = xs[j]? := by
  have h' := h
  obtain ⟨_, cap, cur, rfl, hb, h2, h3, _⟩ := h
  exact ⟨cap, cur, rfl, h2, h3, hb, fun j hj => (hb.cell j).symm.trans (h'.cell j (by omega))⟩
end Go.Proofs.YtcojgmgoiopboaaGreatDoor
