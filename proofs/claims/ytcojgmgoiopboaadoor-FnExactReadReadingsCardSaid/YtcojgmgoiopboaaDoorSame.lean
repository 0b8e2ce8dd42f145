/- When the laws hold two numbers to be the same. -/
import Derived.Test.YtcojgmgoiopboaaDoorTurn
namespace Go.Proofs.YtcojgmgoiopboaaDoor
open Go.ChangeShapes Go.WideShapes Go.ChangeAt Go.RowKit
set_option linter.unusedVariables false

/-- A number that is equal to 0: one divided by it is told. -/
theorem one_over (a : Nat) (h : FloatKind.f64.format.order a 0 = some .eq) : ∃ r, floatBits .quo .f64 4607182418800017408 a = some r := by
  have h1 : FloatKind.f64.format.read 4607182418800017408 = .number false 4503599627370496 (-52) := by decide
  unfold floatBits
  show ∃ r, FloatKind.f64.format.div 4607182418800017408 a = some r
  unfold Ieee.Format.div
  rw [h1]
  unfold Ieee.Format.order at h
  cases hr : FloatKind.f64.format.read a with
  | nan s f => rw [hr] at h; simp [Ieee.Datum.order] at h
  | infinity s => exact ⟨_, rfl⟩
  | number s m i =>
    simp only [Ieee.Datum.quotient]
    by_cases hm : m = 0
    · simp [hm]
    · simp [hm]

end Go.Proofs.YtcojgmgoiopboaaDoor
