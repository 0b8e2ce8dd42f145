/- The permits' rates, scaled; marks that a caller leaves in a list: the walks that FnExactScaledPermits needs. -/
import Derived.Test.YtcojgmgoiopboaaGreatDoorPerm
import Derived.IntWalk
namespace Go.Proofs.YtcojgmgoiopboaaGreatDoor
open Go.ChangeShapes Go.WideShapes Go.ChangeAt Go.RowKit
set_option linter.unusedVariables false

theorem Own.setCell {w : World} {g : Nat} {e : TypeId} {s : Nat} {v : Value} {n : Nat} {xs : List Value} (h : Own w g e s v n xs) (j : Nat) (u : Value) : Own (w.setCell ⟨g, j, none⟩ u) g e s v n (xs.set j u) := by
  obtain ⟨h1, cap, cur, rfl, hb, h2, h3, h4, h5⟩ := h
  refine ⟨by simpa using h1, cap, _, rfl, hb.setCell j u, h2, h3, by simpa using h4, ?_⟩
  have hle : n * s ≤ cur.size := by rw [h4]; exact Nat.mul_le_mul_right s h2
  rw [Array.toList_setIfInBounds, ← h5]
  apply List.ext_getElem?
  intro i
  simp only [List.getElem?_take, List.getElem?_set, List.length_take, Array.length_toList]
  by_cases hi : i < n * s
  · by_cases hj : j = i
    · subst hj; simp [hi, show j < cur.size by omega]; omega
    · simp [hi, hj]
  · by_cases hj : j = i
    · subst hj; simp [hi]; omega
    · simp [hi, hj]
theorem own_full {w : World} {g : Nat} {e : TypeId} {s n : Nat} {xs : List Value} (h : Own w g e s (.slice (some ⟨g, 0, none⟩) n n) n xs) : Blk w g xs.toArray e := by
  obtain ⟨h1, cap, cur, hv, hb, h2, h3, h4, h5⟩ := h
  have hc : cap = n := by injection hv with _ _ h; exact h.symm
  subst hc
  rw [← h5, List.take_of_length_le (by simp [h4])]
  exact hb

/-- P with another permit at i. -/
def updP (P : Nat → Pm) (i : Nat) (p : Pm) : Nat → Pm := fun j => if j = i then p else P j
theorem updP_same (P : Nat → Pm) (i : Nat) (p : Pm) : updP P i p i = p := by simp [updP]
theorem updP_other (P : Nat → Pm) (i : Nat) (p : Pm) (j : Nat) (h : j ≠ i) : updP P i p j = P j := by simp [updP, h]
theorem pls_set (n : Nat) (P : Nat → Pm) (i c : Nat) (u : Value) (p : Pm) (hi : i < n) (hc : c < 3) (hp : (P i).cells.toList.set c u = p.cells.toList) : (pls n P).set (i * 3 + c) u = pls n (updP P i p) := by
  apply List.ext_getElem?
  intro j
  by_cases hj : j < n * 3
  · obtain ⟨k, d, hd, rfl⟩ : ∃ k d, d < 3 ∧ j = k * 3 + d := ⟨j / 3, j % 3, Nat.mod_lt _ (by decide), by omega⟩
    have hk : k < n := by omega
    rw [pls_get n _ k d hk hd, List.getElem?_set, pls_length]
    by_cases hki : k = i
    · subst hki
      rw [updP_same]
      have := congrArg (fun l : List Value => l[d]?) hp
      simp only [List.getElem?_set, Array.getElem?_toList, Array.length_toList, Pm.cells_size] at this
      rw [← this]
      by_cases hcd : c = d
      · subst hcd; simp [hc, hj]
      · rw [if_neg (by omega), if_neg hcd, pls_get n P k d hk hd]
    · rw [updP_other P i p k hki, if_neg (by omega), pls_get n P k d hk hd]
  · rw [List.getElem?_eq_none (by simp [pls_length]; omega), List.getElem?_eq_none (by simp [pls_length]; omega)]

/-- Nothing but block g has turned. -/
structure Only (g : Nat) (w w' : World) : Prop where
  os : w'.os = w.os
  tape : w'.tape = w.tape
  output : w'.output = w.output
  size : w'.heap.size = w.heap.size
  block : ∀ b, b ≠ g → w'.heap[b]? = w.heap[b]?
theorem Only.refl (g : Nat) (w : World) : Only g w w := ⟨rfl, rfl, rfl, rfl, fun _ _ => rfl⟩
theorem Only.setCell {g : Nat} {w w' : World} (h : Only g w w') (j : Nat) (u : Value) : Only g w (w'.setCell ⟨g, j, none⟩ u) :=
  ⟨h.os, h.tape, h.output, by rw [← h.size]; simp [World.setCell], fun b hb => (heap_setCell_other w' ⟨g, j, none⟩ b u hb).trans (h.block b hb)⟩
theorem Only.drew {g : Nat} {w w' : World} (h : Only g w w') : Only g w w'.drew := ⟨h.os, h.tape, h.output, h.size, h.block⟩
theorem Only.drewN {g : Nat} {w w' : World} (h : Only g w w') (k : Nat) : Only g w (w'.drewN k) := ⟨h.os, h.tape, h.output, h.size, h.block⟩
theorem below_only {B g : Nat} {w0 w w' : World} (h : Below B w0 w) (ho : Only g w w') (hg : B ≤ g) : Below B w0 w' :=
  ⟨ho.os.trans h.os, ho.tape.trans h.tape, ho.output.trans h.output, by rw [ho.size]; exact h.size, fun b hb => (ho.block b (by omega)).trans (h.block b hb)⟩

/-- The marks that a list's cells get, from m on. -/
def markP (m : Int) (i : Nat) : Pm := ⟨IntKind.i8.wrap (m + 3 * i), IntKind.i8.wrap (m + 3 * i + 1), IntKind.i16.wrap (m + 3 * i + 2)⟩
/-- .. after k rounds. -/
def marked (m : Int) (P : Nat → Pm) (k : Nat) : Nat → Pm := fun i => if i < k then markP m i else P i

/-- The rate of a permit, scaled. -/
def scl (pc : Int) (p : Pm) : Pm := ⟨p.own, p.cel, p.rat * pc / 100⟩
def scaledTo (pc : Int) (P : Nat → Pm) (k : Nat) : Nat → Pm := fun i => if i < k then scl pc (P i) else P i
/-- What both functions return: how many permits, which, and the code. -/
def scN (n : Nat) (P : Nat → Pm) (pc : Int) : Nat := if ratesAre n P && (decide (0 ≤ pc) && decide (pc ≤ 100)) then n else 0
def scC (n : Nat) (P : Nat → Pm) (pc : Int) : Int := if ratesAre n P then (if decide (0 ≤ pc) && decide (pc ≤ 100) then 0 else 2) else 1
theorem rates_bd {n : Nat} {P : Nat → Pm} (h : ratesAre n P = true) : n ≤ 6 ∧ ∀ i, i < n → 0 ≤ (P i).rat ∧ (P i).rat ≤ 400 := by
  simp [ratesAre] at h
  refine ⟨h.1, fun i hi => ?_⟩
  have h2 := anyTo_false.1 h.2 i hi
  simp [badRate] at h2
  omega

end Go.Proofs.YtcojgmgoiopboaaGreatDoor
