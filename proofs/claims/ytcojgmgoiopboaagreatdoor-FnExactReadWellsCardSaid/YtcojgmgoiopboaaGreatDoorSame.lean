/- When the laws hold two numbers to be the same. -/
import Derived.Test.YtcojgmgoiopboaaGreatDoorTurn
namespace Go.Proofs.YtcojgmgoiopboaaGreatDoor
open Go.ChangeShapes Go.WideShapes Go.ChangeAt Go.RowKit
set_option linter.unusedVariables false

/-- A number that is equal to 0: one divided by it is told. -/
theorem one_over (a : Nat) (h : FloatKind.f64.format.order a 0 = some .eq) : ∃ r, floatBits .quo .f64 4607182418800017408 a = some r := by
  have h1 : FloatKind.f64.format.read 4607182418800017408 = .number false 4503599627370496 (-52) := by decide
  unfold floatBits
  show ∃ r, FloatKind.f64.format.div 4607182418800017408 a = some r
  unfold Ieee.Format.div
  rw [h1]
  unfold Ieee.Format.order at h
  cases hr : FloatKind.f64.format.read a with
  | nan s f => rw [hr] at h; simp [Ieee.Datum.order] at h
  | infinity s => exact ⟨_, rfl⟩
  | number s m i =>
    simp only [Ieee.Datum.quotient]
    by_cases hm : m = 0
    · simp [hm]
    · simp [hm]

set_option maxRecDepth 100000 in
set_option maxHeartbeats 400000 in
theorem sameFloat_refl (a : Nat) (h : FloatKind.f64.format.order a a = some .eq) (w : World) :
    Calls Tryz.prog 50 #[.float .f64 a, .float .f64 a] w fun e w' => e = .returned (.bool true) ∧ w' = w := by
  by_cases hz : FloatKind.f64.format.order a 0 = some .eq
  · obtain ⟨r, hr⟩ := one_over a hz
    have hq := fun (w : World) => run_float_arith (P := Tryz.prog) w .quo 98 .f64 4607182418800017408 a r hr
    clear hr
    go_enter Tryz.func50, Tryz.ntmps50
    go_wp2
    go_ret
    exact ⟨rfl, rfl⟩
  · have hz' : (FloatKind.f64.format.order a 0 == some .eq) = false := by simpa using hz
    go_enter Tryz.func50, Tryz.ntmps50
    go_wp2
    go_ret
    exact ⟨rfl, rfl⟩

end Go.Proofs.YtcojgmgoiopboaaGreatDoor
