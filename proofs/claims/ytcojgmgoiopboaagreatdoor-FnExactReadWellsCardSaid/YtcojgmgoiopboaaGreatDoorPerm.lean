/- Permits in memory, and the walks over lists of permits that several laws need. -/
import Derived.Test.YtcojgmgoiopboaaGreatDoorApp
import Derived.Test.YtcojgmgoiopboaaGreatDoorTurn
import Derived.Laws.MakeOwn
namespace Go.Proofs.YtcojgmgoiopboaaGreatDoor
open Go.ChangeShapes Go.WideShapes Go.ChangeAt Go.RowKit
set_option linter.unusedVariables false

/-- A permit's numbers. -/
structure Pm where
  own : Int
  cel : Int
  rat : Int
/-- Each number fits its kind. -/
def Pm.ok (p : Pm) : Prop := (-128 ≤ p.own ∧ p.own ≤ 127) ∧ (-128 ≤ p.cel ∧ p.cel ≤ 127) ∧ (-32768 ≤ p.rat ∧ p.rat ≤ 32767)
@[irreducible] def Pm.cells (p : Pm) : Array Value := #[.int .i8 p.own, .int .i8 p.cel, .int .i16 p.rat]
theorem Pm.cells_eq (p : Pm) : p.cells = #[.int .i8 p.own, .int .i8 p.cel, .int .i16 p.rat] := by unfold Pm.cells; rfl
theorem Pm.cells_size (p : Pm) : p.cells.size = 3 := by rw [p.cells_eq]; rfl
theorem Pm.get0 (p : Pm) : p.cells[0]? = some (.int .i8 p.own) := by rw [p.cells_eq]; rfl
theorem Pm.get1 (p : Pm) : p.cells[1]? = some (.int .i8 p.cel) := by rw [p.cells_eq]; rfl
theorem Pm.get2 (p : Pm) : p.cells[2]? = some (.int .i16 p.rat) := by rw [p.cells_eq]; rfl
theorem Pm.one (p : Pm) : ∀ v ∈ p.cells.toList, v.oneCell' = true := by
  intro v hv; rw [p.cells_eq] at hv; simp at hv; rcases hv with rfl | rfl | rfl <;> rfl

/-- n permits, one behind the other. -/
@[irreducible] def pls (n : Nat) (P : Nat → Pm) : List Value := (List.range n).flatMap fun i => (P i).cells.toList
theorem pls_zero (P : Nat → Pm) : pls 0 P = [] := by simp [pls]
theorem pls_succ (n : Nat) (P : Nat → Pm) : pls (n + 1) P = pls n P ++ (P n).cells.toList := by simp [pls, List.range_succ, List.flatMap_append]
theorem pls_length (n : Nat) (P : Nat → Pm) : (pls n P).length = n * 3 := by
  induction n with
  | zero => simp [pls_zero]
  | succ n ih => rw [pls_succ, List.length_append, ih]; simp [Pm.cells_size]; omega
theorem pls_congr {P P' : Nat → Pm} : ∀ {n : Nat}, (∀ i, i < n → P i = P' i) → pls n P = pls n P'
  | 0, _ => by rw [pls_zero, pls_zero]
  | n + 1, h => by rw [pls_succ, pls_succ, pls_congr (fun i hi => h i (by omega)), h n (by omega)]
theorem pls_get (n : Nat) (P : Nat → Pm) (i c : Nat) (h : i < n) (hc : c < 3) : (pls n P)[i * 3 + c]? = (P i).cells[c]? := by
  induction n with
  | zero => omega
  | succ n ih =>
    rw [pls_succ, List.getElem?_append, pls_length]
    by_cases hi : i < n
    · rw [if_pos (by omega), ih hi]
    · obtain rfl : i = n := by omega
      rw [if_neg (by omega), show i * 3 + c - i * 3 = c by omega]; simp
theorem pls_one (n : Nat) (P : Nat → Pm) : ∀ v ∈ pls n P, v.oneCell' = true := by
  intro v hv; unfold pls at hv; simp only [List.mem_flatMap] at hv; obtain ⟨i, _, hi⟩ := hv; exact (P i).one v hi
theorem pls_drop (n : Nat) (P : Nat → Pm) (k : Nat) (h : k < n) : ((pls n P).drop (k * 3)).take 3 = (P k).cells.toList := by
  apply List.ext_getElem?
  intro c
  rw [List.getElem?_take]
  by_cases hc : c < 3
  · rw [if_pos hc, List.getElem?_drop, pls_get n P k c h hc]; simp
  · rw [if_neg hc, List.getElem?_eq_none]; simp [Pm.cells_size]; omega

/-- The slice v holds n permits, P. -/
def PSl (w : World) (v : Value) (n : Nat) (P : Nat → Pm) : Prop :=
  ∃ a cap, v = .slice a n cap ∧ n ≤ cap ∧ cap ≤ maxLen ∧ (n = 0 ∨ ∃ b o, a = some ⟨b, o, none⟩ ∧ b < w.heap.size ∧ ∀ i c, i < n → c < 3 → w.cell? ⟨b, o + i * 3 + c, none⟩ = (P i).cells[c]?)
theorem PSl.below {w w' : World} {v : Value} {n : Nat} {P : Nat → Pm} (h : PSl w v n P) (hb : Below w.heap.size w w') : PSl w' v n P := by
  obtain ⟨a, cap, rfl, h1, h2, h3⟩ := h
  refine ⟨a, cap, rfl, h1, h2, ?_⟩
  rcases h3 with h3 | ⟨b, o, rfl, hlt, hc⟩
  · exact .inl h3
  · exact .inr ⟨b, o, rfl, Nat.lt_of_lt_of_le hlt hb.size, fun i c hi h3 => (hb.cell (p := ⟨b, _, none⟩) hlt).trans (hc i c hi h3)⟩
theorem Own.psl {w : World} {g : Nat} {e : TypeId} {v : Value} {n : Nat} {P : Nat → Pm} (h : Own w g e 3 v n (pls n P)) : PSl w v n P := by
  obtain ⟨cap, rfl, h1, h2⟩ := h.form
  exact ⟨_, cap, rfl, h1, h2, .inr ⟨g, 0, rfl, h.lt, fun i c hi hc => by rw [Nat.zero_add, h.cell _ (by omega), pls_get n P i c hi hc]⟩⟩

theorem bool_eq {a b : Bool} (h : a = b) : Ending.returned (.bool a) = Ending.returned (.bool b) := by rw [h]

/-- What 'eqPermit' says. -/
def eqPm (p q : Pm) : Bool := p.own == q.own && p.cel == q.cel && p.rat == q.rat
/-- A rate that is none, an owner that is none. -/
def badRate (p : Pm) : Bool := !decide (0 ≤ p.rat) || !decide (p.rat ≤ 400)
def badOwner (p : Pm) : Bool := !decide (0 ≤ p.own) || !decide (p.own ≤ 7)
/-- Does one of the first n answer yes? -/
def anyTo {α : Type} (q : α → Bool) (P : Nat → α) : Nat → Bool
  | 0 => false
  | n + 1 => anyTo q P n || q (P n)
theorem anyTo_false {α : Type} {q : α → Bool} {P : Nat → α} {n : Nat} : anyTo q P n = false ↔ ∀ i, i < n → q (P i) = false := by
  induction n with
  | zero => simp [anyTo]
  | succ n ih =>
    simp only [anyTo, Bool.or_eq_false_iff, ih]
    constructor
    · intro ⟨h1, h2⟩ i hi
      by_cases h : i < n
      · exact h1 i h
      · obtain rfl : i = n := by omega
        exact h2
    · intro h; exact ⟨fun i hi => h i (by omega), h n (by omega)⟩
theorem anyTo_true {α : Type} {q : α → Bool} {P : Nat → α} {n i : Nat} (hi : i < n) (h : q (P i) = true) : anyTo q P n = true := by
  cases hn : anyTo q P n
  · rw [anyTo_false.1 hn i hi] at h; cases h
  · rfl
theorem all_step {p : Nat → Prop} {k : Nat} (h : ∀ j, j < k → p j) (hk : p k) : ∀ j, j < k + 1 → p j := by
  intro j hj
  by_cases hjk : j < k
  · exact h j hjk
  · obtain rfl : j = k := by omega
    exact hk
/-- The first of the first n that answers yes. -/
def firstTo {α : Type} (q : α → Bool) (P : Nat → α) (n : Nat) (r : Int) : Prop := (r = -1 ∧ ∀ i, i < n → q (P i) = false) ∨ ∃ k : Nat, r = k ∧ k < n ∧ q (P k) = true ∧ ∀ i, i < k → q (P i) = false

theorem firstTo_any {α : Type} {q : α → Bool} {P : Nat → α} {n : Nat} {r : Int} (h : firstTo q P n r) : decide (0 ≤ r) = anyTo q P n := by
  rcases h with ⟨rfl, h⟩ | ⟨k, rfl, hk, hq, _⟩
  · rw [anyTo_false.2 h]; rfl
  · rw [anyTo_true hk hq]; simp

/-- May these be permits' rates? -/
def ratesAre (n : Nat) (P : Nat → Pm) : Bool := decide (n ≤ 6) && !anyTo badRate P n
/-- n permits' room. -/
@[irreducible] def zpm (n : Nat) : Array Value := madeCells (Pm.cells ⟨0, 0, 0⟩) (n * 3)
theorem zpm_size (n : Nat) : (zpm n).size = n * 3 := by unfold zpm; rw [size_madeCells]
/-- A permit behind the walk of one store. -/
theorem zpm_mixed_size (n : Nat) (P : Nat → Pm) (k : Nat) (hk : k ≤ n) : (mixed (pls n P).toArray (zpm n) (k * 3)).size = n * 3 := by
  rw [mixed_size _ _ (by simp [pls_length, zpm_size]) _ (by simp [pls_length]; omega)]; simp [pls_length]

end Go.Proofs.YtcojgmgoiopboaaGreatDoor
