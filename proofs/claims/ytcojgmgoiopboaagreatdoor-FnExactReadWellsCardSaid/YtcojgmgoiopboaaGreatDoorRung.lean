/- How great the result of a rounding can be: plain laws on the words of a binary format; no statement is proved here. -/
import Derived.Test.YtcojgmgoiopboaaGreatDoorKit
namespace Go.Proofs.YtcojgmgoiopboaaGreatDoor
open Ieee
set_option linter.unusedVariables false

/-- 'n / 2 ^ drop' as a whole number is at most 2 ^ T. -/
theorem cut_le (s : Bool) (n drop T : Nat) (h : n < 2 ^ (T + drop)) : Toward.even.cut s n drop ≤ 2 ^ T := by
  unfold Toward.cut
  simp only [Nat.one_shiftLeft]
  have one : ∀ b : Bool, b.toNat ≤ 1 := by intro b; cases b <;> decide
  have hT : 0 < 2 ^ T := Nat.two_pow_pos T
  by_cases hd : drop ≤ n.log2 + 2
  · rw [Nat.min_eq_left hd]
    have h1 : n / 2 ^ drop < 2 ^ T := by
      apply Nat.div_lt_of_lt_mul
      rw [← Nat.pow_add, Nat.add_comm]; exact h
    have := one (decide (2 ^ drop < 2 * (n % 2 ^ drop)) || 2 ^ drop == 2 * (n % 2 ^ drop) && n / 2 ^ drop % 2 == 1)
    omega
  · rw [Nat.min_eq_right (by omega)]
    have h1 : n / 2 ^ (n.log2 + 2) = 0 := by
      apply Nat.div_eq_of_lt
      have := @Nat.lt_log2_self n
      have h2 : 2 ^ (n.log2 + 1) ≤ 2 ^ (n.log2 + 2) := Nat.pow_le_pow_right (by decide) (by omega)
      omega
    rw [h1]
    have := one (decide (2 ^ (n.log2 + 2) < 2 * (n % 2 ^ (n.log2 + 2))) || 2 ^ (n.log2 + 2) == 2 * (n % 2 ^ (n.log2 + 2)) && 0 % 2 == 1)
    omega

/-- The rung of a number's nearest word. -/
theorem nearest_rung (f : Format) (s : Bool) (mag : Nat) (place : Int) (K : Nat) (h : mag = 0 ∨ (mag.log2 : Int) + place - f.fractionBits - f.leastPlace ≤ K) :
    ∃ r, f.nearest s mag place = f.word s r ∧ r ≤ (K + 2) * f.binade := by
  unfold Format.nearest
  by_cases hm : mag = 0
  · exact ⟨0, by simp [hm], Nat.zero_le _⟩
  · rw [if_neg hm]
    refine ⟨_, rfl, Nat.le_trans (Nat.min_le_left _ _) ?_⟩
    replace h := h.resolve_left hm
    generalize hlast : max (place + (mag.log2 : Int) - f.fractionBits) f.leastPlace = last
    have hcut : Toward.even.cut s (mag <<< (place - last).toNat) (last - place).toNat ≤ 2 ^ (f.fractionBits + 1) := by
      apply cut_le
      rw [Nat.shiftLeft_eq]
      have h1 := @Nat.lt_log2_self mag
      calc mag * 2 ^ (place - last).toNat < 2 ^ (mag.log2 + 1) * 2 ^ (place - last).toNat := Nat.mul_lt_mul_of_pos_right h1 (Nat.two_pow_pos _)
        _ = 2 ^ (mag.log2 + 1 + (place - last).toNat) := (Nat.pow_add 2 (mag.log2 + 1) _).symm
        _ ≤ 2 ^ (f.fractionBits + 1 + (last - place).toNat) := Nat.pow_le_pow_right (by decide) (by omega)
    have hl : (last - f.leastPlace).toNat ≤ K := by omega
    have h2 : (last - f.leastPlace).toNat * f.binade ≤ K * f.binade := Nat.mul_le_mul_right _ hl
    have h3 : 2 ^ (f.fractionBits + 1) = 2 * f.binade := by unfold Format.binade; rw [Nat.pow_succ]; omega
    rw [Nat.add_mul]
    omega

/-- What a word of a low rung stands for. -/
theorem read_rung (f : Format) (b K : Nat) (hK : 1 ≤ K) (hi : K * f.binade < f.infRung) (h : b % f.signWeight ≤ K * f.binade) :
    ∃ s m e, f.read b = .number s m e ∧ f.leastPlace ≤ e ∧ m * 2 ^ (e - f.leastPlace).toNat ≤ 2 ^ (f.fractionBits + K - 1) := by
  unfold Format.read
  generalize b % f.signWeight = r at *
  have hb : f.binade = 2 ^ f.fractionBits := rfl
  have hbp : 0 < f.binade := Nat.two_pow_pos _
  by_cases h1 : r < f.binade
  · simp only [h1, if_true]
    refine ⟨_, _, _, rfl, Int.le_refl _, ?_⟩
    simp only [Int.sub_self, Int.toNat_zero, Nat.pow_zero, Nat.mul_one]
    calc r ≤ 2 ^ f.fractionBits := by omega
      _ ≤ 2 ^ (f.fractionBits + K - 1) := Nat.pow_le_pow_right (by decide) (by omega)
  · have h2 : r < f.infRung := by omega
    simp only [h1, h2, if_true, if_false]
    have hq1 : 1 ≤ r / f.binade := (Nat.le_div_iff_mul_le hbp).2 (by omega)
    have hq2 : r / f.binade ≤ K := Nat.le_of_mul_le_mul_right (Nat.le_trans (Nat.div_mul_le_self r f.binade) h) hbp
    have hdm := Nat.div_add_mod r f.binade
    have hmod := Nat.mod_lt r hbp
    refine ⟨_, _, _, rfl, by omega, ?_⟩
    have e1 : (f.leastPlace + ((r / f.binade - 1 : Nat) : Int) - f.leastPlace).toNat = r / f.binade - 1 := by omega
    rw [e1]
    rcases Nat.lt_or_ge (r / f.binade) K with hlt | hge
    · calc (f.binade + r % f.binade) * 2 ^ (r / f.binade - 1) ≤ (2 * f.binade) * 2 ^ (r / f.binade - 1) := Nat.mul_le_mul_right _ (by omega)
        _ = 2 ^ (1 + f.fractionBits + (r / f.binade - 1)) := by rw [hb, Nat.pow_add, Nat.pow_add]
        _ ≤ 2 ^ (f.fractionBits + K - 1) := Nat.pow_le_pow_right (by decide) (by omega)
    · have hqe : r / f.binade = K := by omega
      have hr0 : r % f.binade = 0 := by rw [hqe, Nat.mul_comm] at hdm; omega
      rw [hqe, hr0, Nat.add_zero, hb, ← Nat.pow_add]
      exact Nat.pow_le_pow_right (by decide) (by omega)

theorem log2_le {n k : Nat} (h0 : n ≠ 0) (h : n ≤ 2 ^ k) : n.log2 ≤ k := by
  have h1 := Nat.log2_self_le h0
  exact (Nat.pow_le_pow_iff_right (by decide : 1 < 2)).1 (Nat.le_trans h1 h)

theorem word_mod (f : Format) (s : Bool) (r : Nat) (h : r < f.signWeight) : f.word s r % f.signWeight = r := by
  unfold Format.word
  cases s
  · simp [Nat.mod_eq_of_lt h]
  · simp [Nat.mod_eq_of_lt h]

/-- A finite narrow number is finite when it is made wide. -/
theorem wide_finite (b : Nat) (s : Bool) (m : Nat) (e : Int) (h : single.read b = .number s m e) : (double.read (double.nearest s m e)).isInfinity = false := by
  have hF : double.fractionBits = 52 := rfl
  have hL : double.leastPlace = -1074 := by decide
  have hme : m < 2 ^ 24 ∧ e ≤ 104 := by
    unfold Format.read at h
    have hb : single.binade = 8388608 := by decide
    have hi : single.infRung = 2139095040 := by decide
    have hl : single.leastPlace = -149 := by decide
    generalize b % single.signWeight = r at h
    simp only [hb, hi, hl] at h
    by_cases h1 : r < 8388608
    · simp only [h1, if_true] at h
      injection h with _ h2 h3
      omega
    · by_cases h2 : r < 2139095040
      · simp only [h1, h2, if_true, if_false] at h
        injection h with _ h3 h4
        omega
      · simp only [h1, h2, if_false] at h
        split at h <;> cases h
  obtain ⟨r, hr, hle⟩ := nearest_rung double s m e 1151 (by
    by_cases h0 : m = 0
    · exact .inl h0
    · right
      have := log2_le h0 (Nat.le_of_lt hme.1)
      rw [hF, hL]; omega)
  rw [hr]
  have hb : double.binade = 4503599627370496 := by decide
  have hsw : double.signWeight = 9223372036854775808 := by decide
  have hi : double.infRung = 9218868437227405312 := by decide
  have hmod := word_mod double s r (by rw [hsw]; rw [hb] at hle; omega)
  unfold Format.read
  rw [hmod, hi, hb]
  rw [hb] at hle
  simp only []
  split
  · rfl
  · rw [if_pos (by omega)]; rfl
end Go.Proofs.YtcojgmgoiopboaaGreatDoor
