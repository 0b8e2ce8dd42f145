/- ReadPermits, in the program: the walk. -/
import Derived.Test.YtcojgmgoiopboaaGreatDoorRdPmS
import Derived.Test.YtcojgmgoiopboaaGreatDoorPmT2
import Derived.Test.YtcojgmgoiopboaaGreatDoorSplit
namespace Go.Proofs.YtcojgmgoiopboaaGreatDoor
open Go.ChangeShapes Go.WideShapes Go.ChangeAt Go.RowKit
set_option linter.unusedVariables false
set_option linter.unusedSimpArgs false
attribute [local irreducible] Calls

/-- The words of row j lie in memory. -/
def RowAt (B : Nat) (W : World) (g j : Nat) (ws : List (List UInt8)) : Prop :=
  ∃ b cap, W.cell? ⟨g, j, none⟩ = some (.slice (some ⟨b, 0, none⟩) 3 cap) ∧ 3 ≤ cap ∧ b < W.heap.size ∧ W.cell? ⟨b, 0, none⟩ = some (.string ⟨(ws.getD 0 []).toArray⟩) ∧ W.cell? ⟨b, 1, none⟩ = some (.string ⟨(ws.getD 1 []).toArray⟩) ∧ W.cell? ⟨b, 2, none⟩ = some (.string ⟨(ws.getD 2 []).toArray⟩)
theorem rows_of {w0 W : World} {l : List UInt8} {v : Value} {ok : Bool} (h : LinesRet w0 l 3 6 W v ok) :
    ∃ a n cap, v = .slice a n cap ∧ n ≤ 6 ∧ n ≤ cap ∧ ((goodTo l 3 6 (linesL l).length ∧ ok = true ∧ n = (linesL l).length) ∨ (¬ goodTo l 3 6 (linesL l).length ∧ ok = false ∧ n = 0)) ∧ (n = 0 ∨ ∃ g, a = some ⟨g, 0, none⟩ ∧ g < W.heap.size ∧ ∀ j, j < n → RowAt w0.heap.size W g j (lineWs ((linesL l).getD j []))) := by
  rcases h with ⟨hg, hok, g, vs, hg1, hO, hr⟩ | ⟨hg, hok, rfl⟩
  · obtain ⟨cap, rfl, hc1, hc2⟩ := hO.form
    refine ⟨_, _, _, rfl, hg.1, hc1, .inl ⟨hg, hok, rfl⟩, .inr ⟨g, rfl, hO.lt, fun j hj => ?_⟩⟩
    obtain ⟨b, u, h1, h2, h3⟩ := hr j hj
    have h3n := hg.2 j hj
    rw [h3n] at h3
    obtain ⟨cap3, rfl, hc3, hc4⟩ := h3.form
    have hget := fun i (hi : i < 3) => (h3.cell i (by omega)).trans (strs_getD (L := lineWs ((linesL l).getD j [])) (i := i) (by omega))
    exact ⟨b, cap3, (hO.cell j (by omega)).trans h1, hc3, h3.lt, hget 0 (by omega), hget 1 (by omega), hget 2 (by omega)⟩
  · exact ⟨none, 0, 0, rfl, by omega, by omega, .inr ⟨hg, hok, rfl⟩, .inl rfl⟩
theorem lineWs_le (l : List UInt8) (j i : Nat) : ((lineWs ((linesL l).getD j [])).getD i []).length ≤ l.length := by
  have h1 := splitL_get_le 32 (Lib.trimSuffix ((linesL l).getD j []) [10]) i
  have h2 : (Lib.trimSuffix ((linesL l).getD j []) [10]).length ≤ ((linesL l).getD j []).length := by
    unfold Lib.trimSuffix; split
    · simp
    · exact Nat.le_refl _
  have h3 : ((linesL l).getD j []).length ≤ l.length := by
    rw [List.getD_eq_getElem?_getD]
    by_cases hj : j < (linesL l).length
    · rw [List.getElem?_eq_getElem hj]
      have h := (leftL_step hj).1
      have hlen := leftL_len l j
      rw [h] at hlen; simp at hlen
      show (linesL l)[j].length ≤ _
      omega
    · rw [List.getElem?_eq_none (by omega)]; simp
  exact Nat.le_trans h1 (Nat.le_trans h2 h3)
end Go.Proofs.YtcojgmgoiopboaaGreatDoor
