/- When the laws hold two numbers to be the same. -/
import Derived.Test.YtiengfdpdlnkjaaDoorTurn
namespace Go.Proofs.YtiengfdpdlnkjaaDoor
open Go.ChangeShapes Go.WideShapes Go.ChangeAt Go.RowKit
set_option linter.unusedVariables false

/-- A number that is equal to 0: one divided by it is told. -/
theorem one_over (a : Nat) (h : FloatKind.f64.format.order a 0 = some .eq) : ∃ r, floatBits .quo .f64 4607182418800017408 a = some r := by
  have h1 : FloatKind.f64.format.read 4607182418800017408 = .number false 4503599627370496 (-52) := by decide
  unfold floatBits
  show ∃ r, FloatKind.f64.format.div 4607182418800017408 a = some r
  unfold Ieee.Format.div
  rw [h1]
  unfold Ieee.Format.order at h
  cases hr : FloatKind.f64.format.read a with
  | nan s f => rw [hr] at h; simp [Ieee.Datum.order] at h
  | infinity s => exact ⟨_, rfl⟩
  | number s m i =>
    simp only [Ieee.Datum.quotient]
    by_cases hm : m = 0
    · simp [hm]
    · simp [hm]

set_option maxRecDepth 100000 in
set_option maxHeartbeats 400000 in
theorem sameFloat_refl (a : Nat) (h : FloatKind.f64.format.order a a = some .eq) (w : World) :
    Calls Tryd.prog 12 #[.float .f64 a, .float .f64 a] w fun e w' => e = .returned (.bool true) ∧ w' = w := by
  by_cases hz : FloatKind.f64.format.order a 0 = some .eq
  · obtain ⟨r, hr⟩ := one_over a hz
    have hq := fun (w : World) => run_float_arith (P := Tryd.prog) w .quo 38 .f64 4607182418800017408 a r hr
    clear hr
    go_enter Tryd.func12, Tryd.ntmps12
    go_wp2
    go_ret
    exact ⟨rfl, rfl⟩
  · have hz' : (FloatKind.f64.format.order a 0 == some .eq) = false := by simpa using hz
    go_enter Tryd.func12, Tryd.ntmps12
    go_wp2
    go_ret
    exact ⟨rfl, rfl⟩

theorem sameComplex_refl (a b : Nat) (h : FloatKind.f64.format.order a a = some .eq) (h' : FloatKind.f64.format.order b b = some .eq) (w : World) :
    Calls Tryd.prog 6 #[.complex .f64 a b, .complex .f64 a b] w fun e w' => e = .returned (.bool true) ∧ w' = w := by
  go_enter Tryd.func6, Tryd.ntmps6
  go_wp2_with (go_at_call 12; refine (sameFloat_refl _ (by assumption) _).mono ?_; rintro e w' ⟨rfl, rfl⟩)
  go_ret
  exact ⟨rfl, rfl⟩
end Go.Proofs.YtiengfdpdlnkjaaDoor
