/- The walks that FnExactDropsLogged needs: levels are copied, and the greatest drop is found. -/
import Derived.Test.YtcojgmgoiopboaaGreatDoorBlk
namespace Go.Proofs.YtcojgmgoiopboaaGreatDoor
open Go.ChangeShapes Go.WideShapes Go.ChangeAt Go.RowKit
set_option linter.unusedVariables false

/-- A row of int16 numbers. -/
@[irreducible] def i16s (n : Nat) (f : Nat → Int) : Array Value := Array.ofFn (n := n) fun i => .int .i16 (f i)
theorem i16s_size (n : Nat) (f : Nat → Int) : (i16s n f).size = n := by simp [i16s]
theorem i16s_get (n : Nat) (f : Nat → Int) (i : Nat) (h : i < n) : (i16s n f)[i]? = some (.int .i16 (f i)) := by simp [i16s, h]
theorem i16s_one (n : Nat) (f : Nat → Int) : ∀ v ∈ (i16s n f).toList, v.oneCell' = true := by
  intro v hv; simp [i16s] at hv; obtain ⟨i, rfl⟩ := hv; rfl

/-- The first of the first k numbers with the greatest drop. -/
def bestOf (f g : Nat → Int) : Nat → Nat
  | 0 => 0
  | k + 1 => if f (bestOf f g k) - g (bestOf f g k) < f k - g k then k else bestOf f g k
theorem bestOf_lt (f g : Nat → Int) (k : Nat) (h : 0 < k) : bestOf f g k < k := by
  induction k with
  | zero => omega
  | succ k ih =>
    unfold bestOf
    split
    · omega
    · cases k with
      | zero => simp [bestOf]
      | succ k => have := ih (by omega); omega
theorem bestOf_one (f g : Nat → Int) : bestOf f g 1 = 0 := by simp [bestOf]
/-- Each number is an int16. -/
def Is16 (n : Nat) (f : Nat → Int) : Prop := ∀ i, i < n → -32768 ≤ f i ∧ f i ≤ 32767
/-- What both functions return. -/
def dropsOf (f g : Nat → Int) : Value := .tuple #[.int .i64 (bestOf f g 64), .int .i64 (f (bestOf f g 64) - g (bestOf f g 64))]

end Go.Proofs.YtcojgmgoiopboaaGreatDoor
