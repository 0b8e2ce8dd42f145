/- The law FnExactTurnOf: whatever the hour, the program's TurnOf returns what the reference's returns. -/
import Derived.Test.YtililmlgladnaaaSame
namespace Go.Proofs.Ytililmlgladnaaa.lawTurnOf
open Go.ChangeShapes Go.WideShapes Go.ChangeAt Go.RowKit
set_option linter.unusedVariables false

theorem cos_wide (k : Nat) (hk : k < 12) : ∃ r, floatToFloatBits .f32 (cosT k) .f64 = some r ∧ FloatKind.f64.format.order r r = some .eq := by
  match k, hk with
  | 0, _ | 1, _ | 2, _ | 3, _ | 4, _ | 5, _ | 6, _ | 7, _ | 8, _ | 9, _ | 10, _ | 11, _ => exact ⟨_, by rfl, by decide⟩

theorem isHour_any (h : Int) (w : World) :
    Calls Try.prog 53 #[.int .i64 h] w fun e w' => e = .returned (.bool (decide (0 ≤ h) && decide (h ≤ 100000))) ∧ w' = w := by
  go_enter Try.func53, Try.ntmps53
  go_wp2_with (go_at_call 69; refine (in_any _ _ _ _).mono ?_; rintro e w' ⟨rfl, rfl⟩)
  go_ret
  exact ⟨rfl, rfl⟩
theorem l06Hour_any (h : Int) (w : World) :
    Calls Try.prog 51 #[.int .i64 h] w fun e w' => e = .returned (.bool (decide (0 ≤ h) && decide (h ≤ 100000))) ∧ w' = w := by
  go_enter Try.func51, Try.ntmps51
  go_wp2_with (go_at_call 61; refine (l00In_any _ _ _ _).mono ?_; rintro e w' ⟨rfl, rfl⟩)
  go_ret
  exact ⟨rfl, rfl⟩

/-- Both functions return this. -/
def turnOf (h : Int) : Value := if 0 ≤ h ∧ h ≤ 100000 then .tuple #[.complex .f32 (cosT (h % 12).toNat) (sinT (h % 12).toNat), .int .i64 0] else .tuple #[.complex .f32 0 0, .int .i64 2]

theorem implTurnOf_any (h : Int) (w : World) :
    Calls Try.prog 17 #[.int .i64 h] w fun e w' => e = .returned (turnOf h) ∧ Below w.heap.size w w' := by
  by_cases hh : 0 ≤ h ∧ h ≤ 100000
  · obtain ⟨h0, h1⟩ := hh
    unfold turnOf
    rw [if_pos ⟨h0, h1⟩]
    go_enter Try.func17, Try.ntmps17
    go_wp2_with (first | (go_at_call 53; refine (isHour_any _ _).mono ?_; rintro e w' ⟨rfl, rfl⟩) | (go_at_call 54; refine (turn_any _ h0 h1 _).mono ?_; rintro e w' ⟨rfl, hb⟩))
    go_ret2
    exact ⟨rfl, by assumption⟩
  · have hd : (decide (0 ≤ h) && decide (h ≤ 100000)) = false := by simp; omega
    unfold turnOf
    rw [if_neg hh]
    go_enter Try.func17, Try.ntmps17
    go_wp2_with (first | (go_at_call 53; refine (isHour_any _ _).mono ?_; rw [hd]; rintro e w' ⟨rfl, rfl⟩))
    go_ret2
    exact ⟨rfl, Below.refl _ _⟩
theorem specTurnOf_any (h : Int) (w : World) :
    Calls Try.prog 16 #[.int .i64 h] w fun e w' => e = .returned (turnOf h) ∧ Below w.heap.size w w' := by
  by_cases hh : 0 ≤ h ∧ h ≤ 100000
  · obtain ⟨h0, h1⟩ := hh
    unfold turnOf
    rw [if_pos ⟨h0, h1⟩]
    go_enter Try.func16, Try.ntmps16
    go_wp2_with (first | (go_at_call 51; refine (l06Hour_any _ _).mono ?_; rintro e w' ⟨rfl, rfl⟩) | (go_at_call 52; refine (l06Turn_any _ h0 h1 _).mono ?_; rintro e w' ⟨rfl, hb⟩))
    go_ret2
    exact ⟨rfl, by assumption⟩
  · have hd : (decide (0 ≤ h) && decide (h ≤ 100000)) = false := by simp; omega
    unfold turnOf
    rw [if_neg hh]
    go_enter Try.func16, Try.ntmps16
    go_wp2_with (first | (go_at_call 51; refine (l06Hour_any _ _).mono ?_; rw [hd]; rintro e w' ⟨rfl, rfl⟩))
    go_ret2
    exact ⟨rfl, Below.refl _ _⟩

theorem walk (h : Int) (w : World) (_ : (Lit.int .i64 h).wf = true) :
    Calls Try.prog 4 #[.int .i64 h] w fun e w' => e = .returned (.bool true) ∧ Below w.heap.size w w' := by
  obtain ⟨a, b, c, hv, ra, rb, ca, cb, oa, ob⟩ : ∃ a b c, turnOf h = .tuple #[.complex .f32 a b, .int .i64 c] ∧ ∃ ra rb, floatToFloatBits .f32 a .f64 = some ra ∧ floatToFloatBits .f32 b .f64 = some rb ∧ FloatKind.f64.format.order ra ra = some .eq ∧ FloatKind.f64.format.order rb rb = some .eq := by
    unfold turnOf
    split
    · rename_i hh
      obtain ⟨ra, h1, h2⟩ := cos_wide (h % 12).toNat (by omega)
      obtain ⟨rb, h3, h4⟩ := cos_wide (((h % 12).toNat + 9) % 12) (by omega)
      exact ⟨_, _, _, rfl, ra, rb, h1, h3, h2, h4⟩
    · exact ⟨_, _, _, rfl, 0, 0, rfl, rfl, by decide, by decide⟩
  have hc : cConvBits .f32 a b .f64 = some (ra, rb) := by simp [cConvBits, ca, cb]
  have hcv := fun (w : World) => run_convert_complex (P := Try.prog) w 29 33 .f32 .f64 a b ra rb (by kernel_rfl) (by kernel_rfl) hc
  have H := Lib.hid hv
  clear hc ca cb hv
  go_enter Try.func4, Try.ntmps4
  go_wp2_with (first | (go_at_call 16; refine (specTurnOf_any _ _).mono ?_; rw [H.out]; rintro e w1 ⟨rfl, hb1⟩) | (go_at_call 17; refine (implTurnOf_any _ _).mono ?_; rw [H.out]; rintro e w2 ⟨rfl, hb2⟩) | (go_at_call 18; refine (sameComplex_refl _ _ oa ob _).mono ?_; rintro e w' ⟨rfl, rfl⟩))
  go_ret
  exact ⟨rfl, hb1.trans (hb2.mono hb1.size)⟩
end Go.Proofs.Ytililmlgladnaaa.lawTurnOf
