/- The law over loggers (FnLoggers): the walk through the law's own function. -/
import Derived.Test.YtnfoemgiebplmaaBytes
import Derived.Test.YtnfoemgiebplmaaLawLg
import Derived.Stop.BytesEq
namespace Go.Proofs.Ytnfoemgiebplmaa
open Go.ChangeShapes Go.WideShapes Go.ChangeAt Go.RowKit
set_option linter.unusedVariables false
set_option linter.unusedSimpArgs false

/-! ### One array is the same as itself. -/
theorem run_equalIn_i16s {P : Program} (w : World) (d : Nat) (t e : TypeId) (n : Nat) (ht : P.underlying t = some (.array n e)) (he : P.underlying e = some (.int .i16)) (hsz : ∀ w, (sizeOf e).run P w = .ok 1 w) (f : Nat → Int) :
    (Op.equalIn (d + 2) t (.agg (i16s n f)) (.agg (i16s n f))).run P w = .ok true w := by
  rw [Op.equalIn]
  simp only [Sem.run_bind, run_underlying ht, Result.andThen_ok, hsz, Std.Legacy.Range.forIn_eq_forIn_range', Std.Legacy.Range.size, Nat.sub_zero, Nat.add_sub_cancel, Nat.div_one]
  have hl : ∀ i ∈ List.range' 0 n 1, i < n := fun i hi => by simpa using (List.mem_range'_1.1 hi).2
  generalize List.range' 0 n 1 = l at hl ⊢
  induction l with
  | nil => simp
  | cons i l ih =>
    have hi : i < n := hl i (by simp)
    have px : (part e (i16s n f) (i * 1)).run P w = .ok (.int .i16 (f i)) w := by
      rw [Nat.mul_one]
      simp [part, isAgg, run_underlying he, i16s_get n f i hi]
    have pe : (Op.equalIn (d + 1) e (.int .i16 (f i)) (.int .i16 (f i))).run P w = .ok true w := by
      rw [run_equalIn_int w d e .i16 .i16 _ _ he]; simp
    simp only [List.forIn_cons, Sem.run_bind, px, pe, Result.andThen_ok, Bool.not_true, Bool.false_eq_true, if_false, Sem.run_pure]
    exact ih fun j hj => hl j (by simp [hj])
theorem run_neq_i16s {P : Program} (w : World) (t e : TypeId) (n : Nat) (ht : P.underlying t = some (.array n e)) (he : P.underlying e = some (.int .i16)) (hsz : ∀ w, (sizeOf e).run P w = .ok 1 w) (f : Nat → Int) :
    (binOp .neq t (.agg (i16s n f)) (.agg (i16s n f))).run P w = .ok (.bool false) w := by
  rw [run_neq_struct, run_equalIn_i16s w 9998 t e n ht he hsz f]
  rfl
/-! ### What is kept is near. -/
def offOk (h : Nat) : Bool := match floatBits .mul .f64 4636737291354636288 (widen h) with
  | some y => match floatBits .sub .f64 (floatOfInt .f64 (lg h)) y with
    | some d => !(Ieee.double.order d 4602678819172646912 == some .gt) && !(Ieee.double.order d 13826050856027422720 == some .lt)
    | none => false
  | none => false
theorem offs_all : ∀ x : Nat, x < 65 → offOk (headOf x) = true ∧ -32768 ≤ lg (headOf x) ∧ lg (headOf x) ≤ 32767 := by
  have h : (List.range 65).all (fun (x : Nat) => offOk (headOf x) && (decide (-32768 ≤ lg (headOf x)) && decide (lg (headOf x) ≤ 32767))) = true := by kernel_rfl
  intro x hx
  have := List.all_eq_true.1 h x (List.mem_range.2 hx)
  simpa using this
theorem off_is {h : Nat} (ho : offOk h = true) : ∃ y d, floatBits .mul .f64 4636737291354636288 (widen h) = some y ∧ floatBits .sub .f64 (floatOfInt .f64 (lg h)) y = some d ∧ (FloatKind.f64.format.order d 4602678819172646912 == some .gt) = false ∧ (FloatKind.f64.format.order d 13826050856027422720 == some .lt) = false := by
  unfold offOk at ho
  cases h1 : floatBits .mul .f64 4636737291354636288 (widen h) with
  | none => rw [h1] at ho; cases ho
  | some y =>
    rw [h1] at ho
    cases h2 : floatBits .sub .f64 (floatOfInt .f64 (lg h)) y with
    | none => simp only [h2] at ho; cases ho
    | some d =>
      simp only [h2] at ho
      rw [Bool.and_eq_true, Bool.not_eq_true', Bool.not_eq_true'] at ho
      exact ⟨y, d, rfl, h2, ho.1, ho.2⟩
theorem best_is (f g : Nat → Int) : ∀ k i, i < k → f i - g i ≤ f (bestOf f g k) - g (bestOf f g k) ∧ (i < bestOf f g k → f i - g i < f (bestOf f g k) - g (bestOf f g k))
  | 0, i, h => by omega
  | k + 1, i, h => by
    have ih := best_is f g k
    unfold bestOf
    by_cases hi : i < k
    · obtain ⟨h1, h2⟩ := ih i hi
      split
      · exact ⟨by omega, fun _ => by omega⟩
      · exact ⟨h1, h2⟩
    · obtain rfl : i = k := by omega
      split
      · exact ⟨by omega, fun h => by omega⟩
      · refine ⟨by omega, fun h => ?_⟩
        have : bestOf f g i ≤ i := by
          cases i with
          | zero => simp [bestOf]
          | succ i => have := bestOf_lt f g (i + 1) (by omega); omega
        omega
theorem levF_bd {G : Gr} (hG : IsDrawn G) : Is16 64 (levF lg G) := fun i hi => by
  unfold levF
  cases hc : isC G i
  · rw [Bool.and_false]; simp
  · obtain ⟨x, hx, hh⟩ := hG.hea i hi hc
    rw [hG.valid, Bool.and_self, if_pos rfl, hh]
    exact (offs_all x hx).2
theorem levC_zero {G : Gr} (hG : IsDrawn G) : levC G = 0 := by unfold levC; rw [hG.valid]; rfl
/-- All that the walk asks of a drawn ground. -/
theorem levF_not {G : Gr} {i : Nat} (hc : isC G i = false) : levF lg G i = 0 := by unfold levF; rw [hc, Bool.and_false]; rfl
theorem levF_cell {G : Gr} {i : Nat} (hG : IsDrawn G) (hc : isC G i = true) : levF lg G i = lg (G.hea i) := by unfold levF; rw [hc, hG.valid]; rfl
end Go.Proofs.Ytnfoemgiebplmaa
