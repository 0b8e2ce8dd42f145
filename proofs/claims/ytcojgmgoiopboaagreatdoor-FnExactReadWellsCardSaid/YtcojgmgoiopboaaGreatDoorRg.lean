/- Readings in memory: lists of them, marks that a caller leaves in a list. Plain laws and the walks of the law's own functions. -/
import Derived.Test.YtcojgmgoiopboaaGreatDoorScaled
import Derived.IntWalk
namespace Go.Proofs.YtcojgmgoiopboaaGreatDoor
open Go.ChangeShapes Go.WideShapes Go.ChangeAt Go.RowKit
set_option linter.unusedVariables false

/-- A reading's numbers. -/
structure Rg where
  tim : Int
  lev : Int
@[irreducible] def Rg.cells (p : Rg) : Array Value := #[.int .i64 p.tim, .int .i16 p.lev]
theorem Rg.cells_eq (p : Rg) : p.cells = #[.int .i64 p.tim, .int .i16 p.lev] := by unfold Rg.cells; rfl
theorem Rg.cells_size (p : Rg) : p.cells.size = 2 := by rw [p.cells_eq]; rfl
theorem Rg.get0 (p : Rg) : p.cells[0]? = some (.int .i64 p.tim) := by rw [p.cells_eq]; rfl
theorem Rg.get1 (p : Rg) : p.cells[1]? = some (.int .i16 p.lev) := by rw [p.cells_eq]; rfl
theorem Rg.one (p : Rg) : ∀ v ∈ p.cells.toList, v.oneCell' = true := by
  intro v hv; rw [p.cells_eq] at hv; simp at hv; rcases hv with rfl | rfl <;> rfl
/-- n permits, one behind the other. -/
@[irreducible] def rgs (n : Nat) (P : Nat → Rg) : List Value := (List.range n).flatMap fun i => (P i).cells.toList
theorem rgs_zero (P : Nat → Rg) : rgs 0 P = [] := by simp [rgs]
theorem rgs_succ (n : Nat) (P : Nat → Rg) : rgs (n + 1) P = rgs n P ++ (P n).cells.toList := by simp [rgs, List.range_succ, List.flatMap_append]
theorem rgs_length (n : Nat) (P : Nat → Rg) : (rgs n P).length = n * 2 := by
  induction n with
  | zero => simp [rgs_zero]
  | succ n ih => rw [rgs_succ, List.length_append, ih]; simp [Rg.cells_size]; omega
theorem rgs_congr {P P' : Nat → Rg} : ∀ {n : Nat}, (∀ i, i < n → P i = P' i) → rgs n P = rgs n P'
  | 0, _ => by rw [rgs_zero, rgs_zero]
  | n + 1, h => by rw [rgs_succ, rgs_succ, rgs_congr (fun i hi => h i (by omega)), h n (by omega)]
theorem rgs_get (n : Nat) (P : Nat → Rg) (i c : Nat) (h : i < n) (hc : c < 2) : (rgs n P)[i * 2 + c]? = (P i).cells[c]? := by
  induction n with
  | zero => omega
  | succ n ih =>
    rw [rgs_succ, List.getElem?_append, rgs_length]
    by_cases hi : i < n
    · rw [if_pos (by omega), ih hi]
    · obtain rfl : i = n := by omega
      rw [if_neg (by omega), show i * 2 + c - i * 2 = c by omega]; simp
theorem rgs_one (n : Nat) (P : Nat → Rg) : ∀ v ∈ rgs n P, v.oneCell' = true := by
  intro v hv; unfold rgs at hv; simp only [List.mem_flatMap] at hv; obtain ⟨i, _, hi⟩ := hv; exact (P i).one v hi
theorem rgs_drop (n : Nat) (P : Nat → Rg) (k : Nat) (h : k < n) : ((rgs n P).drop (k * 2)).take 2 = (P k).cells.toList := by
  apply List.ext_getElem?
  intro c
  rw [List.getElem?_take]
  by_cases hc : c < 2
  · rw [if_pos hc, List.getElem?_drop, rgs_get n P k c h hc]; simp
  · rw [if_neg hc, List.getElem?_eq_none]; simp [Rg.cells_size]; omega

/-- The slice v holds n permits, P. -/
def RSl (w : World) (v : Value) (n : Nat) (P : Nat → Rg) : Prop :=
  ∃ a cap, v = .slice a n cap ∧ n ≤ cap ∧ cap ≤ maxLen ∧ (n = 0 ∨ ∃ b o, a = some ⟨b, o, none⟩ ∧ b < w.heap.size ∧ ∀ i c, i < n → c < 2 → w.cell? ⟨b, o + i * 2 + c, none⟩ = (P i).cells[c]?)
theorem RSl.below {w w' : World} {v : Value} {n : Nat} {P : Nat → Rg} (h : RSl w v n P) (hb : Below w.heap.size w w') : RSl w' v n P := by
  obtain ⟨a, cap, rfl, h1, h2, h3⟩ := h
  refine ⟨a, cap, rfl, h1, h2, ?_⟩
  rcases h3 with h3 | ⟨b, o, rfl, hlt, hc⟩
  · exact .inl h3
  · exact .inr ⟨b, o, rfl, Nat.lt_of_lt_of_le hlt hb.size, fun i c hi h3 => (hb.cell (p := ⟨b, _, none⟩) hlt).trans (hc i c hi h3)⟩
theorem Own.rsl {w : World} {g : Nat} {e : TypeId} {v : Value} {n : Nat} {P : Nat → Rg} (h : Own w g e 2 v n (rgs n P)) : RSl w v n P := by
  obtain ⟨cap, rfl, h1, h2⟩ := h.form
  exact ⟨_, cap, rfl, h1, h2, .inr ⟨g, 0, rfl, h.lt, fun i c hi hc => by rw [Nat.zero_add, h.cell _ (by omega), rgs_get n P i c hi hc]⟩⟩

/-- P with another permit at i. -/
def updR (P : Nat → Rg) (i : Nat) (p : Rg) : Nat → Rg := fun j => if j = i then p else P j
theorem updR_same (P : Nat → Rg) (i : Nat) (p : Rg) : updR P i p i = p := by simp [updR]
theorem updR_other (P : Nat → Rg) (i : Nat) (p : Rg) (j : Nat) (h : j ≠ i) : updR P i p j = P j := by simp [updR, h]
theorem rgs_set (n : Nat) (P : Nat → Rg) (i c : Nat) (u : Value) (p : Rg) (hi : i < n) (hc : c < 2) (hp : (P i).cells.toList.set c u = p.cells.toList) : (rgs n P).set (i * 2 + c) u = rgs n (updR P i p) := by
  apply List.ext_getElem?
  intro j
  by_cases hj : j < n * 2
  · obtain ⟨k, d, hd, rfl⟩ : ∃ k d, d < 2 ∧ j = k * 2 + d := ⟨j / 2, j % 2, Nat.mod_lt _ (by decide), by omega⟩
    have hk : k < n := by omega
    rw [rgs_get n _ k d hk hd, List.getElem?_set, rgs_length]
    by_cases hki : k = i
    · subst hki
      rw [updR_same]
      have := congrArg (fun l : List Value => l[d]?) hp
      simp only [List.getElem?_set, Array.getElem?_toList, Array.length_toList, Rg.cells_size] at this
      rw [← this]
      by_cases hcd : c = d
      · subst hcd; simp [hc, hj]
      · rw [if_neg (by omega), if_neg hcd, rgs_get n P k d hk hd]
    · rw [updR_other P i p k hki, if_neg (by omega), rgs_get n P k d hk hd]
  · rw [List.getElem?_eq_none (by simp [rgs_length]; omega), List.getElem?_eq_none (by simp [rgs_length]; omega)]

def markR (m : Int) (i : Nat) : Rg := ⟨m + 2 * i, IntKind.i16.wrap (m + 2 * i + 1)⟩
/-- .. after k rounds. -/
def markedR (m : Int) (P : Nat → Rg) (k : Nat) : Nat → Rg := fun i => if i < k then markR m i else P i

end Go.Proofs.YtcojgmgoiopboaaGreatDoor
