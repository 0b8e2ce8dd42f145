/- The walks that FnExactWaveFrom needs: sums of narrow numbers, and the wave that is seen in twelve levels. -/
import Derived.Test.YtcojgmgoiopboaaGreatDoorApp
import Derived.Test.YtcojgmgoiopboaaGreatDoorFlt
import Derived.Test.YtcojgmgoiopboaaGreatDoorDrops
namespace Go.Proofs.YtcojgmgoiopboaaGreatDoor
open Go.ChangeShapes Go.WideShapes Go.ChangeAt Go.RowKit
set_option linter.unusedVariables false

/-- n narrow numbers. -/
@[irreducible] def fls (n : Nat) (f : Nat → Nat) : List Value := (List.range n).map fun i => .float .f32 (f i)
theorem fls_length (n : Nat) (f : Nat → Nat) : (fls n f).length = n := by simp [fls]
theorem fls_get (n : Nat) (f : Nat → Nat) (i : Nat) (h : i < n) : (fls n f)[i]? = some (.float .f32 (f i)) := by simp [fls, h]
theorem fls_zero (f : Nat → Nat) : fls 0 f = [] := by simp [fls]
theorem fls_succ (n : Nat) (f : Nat → Nat) : fls (n + 1) f = fls n f ++ [.float .f32 (f n)] := by simp [fls, List.range_succ]
theorem fls_congr {n : Nat} {f g : Nat → Nat} (h : ∀ i, i < n → f i = g i) : fls n f = fls n g := by
  unfold fls; apply List.map_congr_left; intro i hi; rw [h i (List.mem_range.1 hi)]
/-- f, but at n: b. -/
def upd (f : Nat → Nat) (n b : Nat) : Nat → Nat := fun i => if i = n then b else f i
theorem fls_snoc (n : Nat) (f : Nat → Nat) (b : Nat) : fls n f ++ [.float .f32 b] = fls (n + 1) (upd f n b) := by
  rw [fls_succ, fls_congr (g := upd f n b) (fun i hi => by simp [upd]; omega)]
  simp [upd]
/-- The sum of the first n numbers, from left to right. -/
def fsumTo (f : Nat → Nat) : Nat → Nat
  | 0 => 0
  | 1 => f 0
  | k + 2 => fop .add (fsumTo f (k + 1)) (f (k + 1))
theorem fsumTo_congr {f g : Nat → Nat} : ∀ (n : Nat), (∀ i, i < n → f i = g i) → fsumTo f n = fsumTo g n
  | 0, _ => rfl
  | 1, h => h 0 (by omega)
  | k + 2, h => by simp only [fsumTo]; rw [fsumTo_congr (k + 1) (fun i hi => h i (by omega)), h (k + 1) (by omega)]
theorem fsumTo_succ (f : Nat → Nat) (k : Nat) (h : 1 ≤ k) : fsumTo f (k + 1) = fop .add (fsumTo f k) (f k) := by
  obtain ⟨j, rfl⟩ : ∃ j, k = j + 1 := ⟨k - 1, by omega⟩
  rfl

end Go.Proofs.YtcojgmgoiopboaaGreatDoor
