import Derived.Test.YtglimhkpndfjgaaMT06
import Derived.Test.YtglimhkpndfjgaaMT08
/- Doubling and halving of single floats, and comparisons of positive ones, on their words. Plain laws. -/
namespace Go.Proofs.Ytglimhkpndfjgaa
open Ieee
set_option linter.unusedVariables false
set_option linter.unusedSimpArgs false

theorem read_norm {m : Nat} (h1 : 8388608 ≤ m) (h2 : m < 2139095040) : single.read m = .number false (8388608 + m % 8388608) (-149 + ((m / 8388608 - 1 : Nat) : Int)) := by
  obtain ⟨hb, hi, hl, hs, hf⟩ := single_facts
  unfold Format.read
  simp only [hs, hb, hi, hl]
  have e1 : m % 2147483648 = m := by omega
  have e2 : (m / 2147483648 % 2 == 1) = false := by simp; omega
  rw [e1, e2, if_neg (by omega), if_pos (by omega)]
theorem two_read : single.read 1073741824 = .number false 8388608 (-22) := by decide +kernel
theorem dbl_bits {m : Nat} (h1 : 8388608 ≤ m) (h2 : m < 2130706432) : floatBits .mul .f32 m 1073741824 = some (m + 8388608) := by
  have hr := read_norm h1 (by omega)
  have hr' := read_norm (m := m + 8388608) (by omega) (by omega)
  show ((single.read m).product (single.read 1073741824)).map single.write = _
  rw [hr, two_read]
  show some (single.nearest (false ^^ false) ((8388608 + m % 8388608) * 8388608) (-149 + ((m / 8388608 - 1 : Nat) : Int) + -22)) = _
  have e1 : (m + 8388608) % 8388608 = m % 8388608 := by omega
  have e2 : (m + 8388608) / 8388608 - 1 = m / 8388608 := by omega
  rw [e1, e2] at hr'
  have hn := nearest_word single (by decide) (m + 8388608) false false _ _ 23 hr'
  rw [show (8388608 + m % 8388608) * 8388608 = (8388608 + m % 8388608) <<< 23 by rw [Nat.shiftLeft_eq]]
  rw [show (-149 + ((m / 8388608 - 1 : Nat) : Int) + -22) = -149 + ((m / 8388608 : Nat) : Int) - ((23 : Nat) : Int) by omega]
  rw [show (false ^^ false) = false from rfl, hn]
  rw [single_facts.2.2.2.1, Nat.mod_eq_of_lt (by omega), word_plus]
theorem hlf_bits {m : Nat} (h1 : 16777216 ≤ m) (h2 : m < 2139095040) : floatBits .quo .f32 m 1073741824 = some (m - 8388608) := by
  have hr := read_norm (m := m) (by omega) (by omega)
  have hr' := read_norm (m := m - 8388608) (by omega) (by omega)
  show ((single.read m).quotient (single.fractionBits + 2) (single.read 1073741824)).map single.write = _
  rw [hr, two_read]
  have hM : ∃ M, 8388608 + m % 8388608 = M ∧ 8388608 ≤ M ∧ M < 16777216 := ⟨_, rfl, by omega, by omega⟩
  have e1 : (m - 8388608) % 8388608 = m % 8388608 := by omega
  rw [e1] at hr'
  obtain ⟨M, hMe, hM1, hM2⟩ := hM
  rw [hMe] at hr' ⊢
  have hlog : M.log2 = 23 := by
    have a : 23 ≤ M.log2 := (Nat.le_log2 (by omega)).2 (by omega)
    have b : M.log2 < 24 := (Nat.log2_lt (by omega)).2 (by omega)
    omega
  have hlog2 : (8388608 : Nat).log2 = 23 := by decide +kernel
  have hn := nearest_word single (by decide) (m - 8388608) false false _ _ 3 hr'
  show Option.map single.write (some (Datum.number (false ^^ false) (2 * (M <<< (single.fractionBits + 2 + (8388608 : Nat).log2 - M.log2) / 8388608) + (M <<< (single.fractionBits + 2 + (8388608 : Nat).log2 - M.log2) % 8388608 != 0).toNat) (-149 + ((m / 8388608 - 1 : Nat) : Int) - -22 - ((single.fractionBits + 2 + (8388608 : Nat).log2 - M.log2 : Nat) : Int) - 1))) = _
  rw [hlog, hlog2, single_facts.2.2.2.2]
  have e2 : M <<< (23 + 2 + 23 - 23) = M * 33554432 := by rw [Nat.shiftLeft_eq]
  rw [e2, show M * 33554432 / 8388608 = M * 4 by omega, show M * 33554432 % 8388608 = 0 by omega]
  show some (single.nearest (false ^^ false) (2 * (M * 4) + ((0 : Nat) != 0).toNat) _) = _
  rw [show 2 * (M * 4) + ((0 : Nat) != 0).toNat = M <<< 3 by rw [Nat.shiftLeft_eq]; simp; omega]
  rw [show (-149 + ((m / 8388608 - 1 : Nat) : Int) - -22 - ((23 + 2 + 23 - 23 : Nat) : Int) - 1) = -149 + (((m - 8388608) / 8388608 - 1 : Nat) : Int) - ((3 : Nat) : Int) by omega]
  rw [show (false ^^ false) = false from rfl, hn]
  rw [single_facts.2.2.2.1, Nat.mod_eq_of_lt (by omega), word_plus]
/-- Positive words compare as numbers do. -/
theorem order_norm {a b : Nat} (ha1 : 8388608 ≤ a) (ha2 : a < 2139095040) (hb1 : 8388608 ≤ b) (hb2 : b < 2139095040) : single.order a b = some (compare (a : Int) (b : Int)) := by
  have ra := read_norm ha1 ha2
  have rb := read_norm hb1 hb2
  have ha := val_num ra
  have hb := val_num rb
  rw [order_val ha hb]
  congr 1
  have key : ∀ x y : Nat, 8388608 ≤ x → 8388608 ≤ y → x < y → (8388608 + x % 8388608) * 2 ^ (x / 8388608 - 1) < (8388608 + y % 8388608) * 2 ^ (y / 8388608 - 1) := fun x y hx hy h => by
    by_cases e : x / 8388608 = y / 8388608
    · rw [e]
      exact Nat.mul_lt_mul_of_pos_right (by omega) (Nat.two_pow_pos _)
    · have hlt : x / 8388608 < y / 8388608 := by omega
      obtain ⟨d, hd⟩ : ∃ d, y / 8388608 - 1 = (x / 8388608 - 1) + 1 + d := ⟨y / 8388608 - 1 - (x / 8388608 - 1) - 1, by omega⟩
      rw [hd]
      calc (8388608 + x % 8388608) * 2 ^ (x / 8388608 - 1) < 16777216 * 2 ^ (x / 8388608 - 1) := Nat.mul_lt_mul_of_pos_right (by omega) (Nat.two_pow_pos _)
        _ = 8388608 * 2 ^ (x / 8388608 - 1 + 1) := by rw [Nat.pow_succ]; omega
        _ ≤ (8388608 + y % 8388608) * 2 ^ (x / 8388608 - 1 + 1 + d) := Nat.mul_le_mul (by omega) (Nat.pow_le_pow_right (by omega) (by omega))
  unfold sg
  simp only [Bool.false_eq_true, if_false]
  rcases Nat.lt_trichotomy a b with h | h | h
  · have k := key a b ha1 hb1 h
    rw [cmp_int, cmp_int, if_pos (by omega), if_pos (by omega)]
  · subst h; rw [cmp_int, cmp_int, if_neg (by omega), if_pos rfl, if_neg (by omega), if_pos rfl]
  · have k := key b a hb1 ha1 h
    rw [cmp_int, cmp_int, if_neg (by omega), if_neg (by omega), if_neg (by omega), if_neg (by omega)]
theorem fge_norm {a b : Nat} (ha1 : 8388608 ≤ a) (ha2 : a < 2139095040) (hb1 : 8388608 ≤ b) (hb2 : b < 2139095040) : fge a b = decide (b ≤ a) := by
  unfold fge
  rw [show FloatKind.f32.format.order a b = single.order a b from rfl, order_norm ha1 ha2 hb1 hb2, cmp_int]
  rcases Nat.lt_trichotomy a b with h | h | h
  · rw [if_pos (by omega), decide_eq_false (by omega)]; rfl
  · subst h; rw [if_neg (by omega), if_pos rfl]; simp
  · rw [if_neg (by omega), if_neg (by omega), decide_eq_true (by omega)]; rfl
theorem flt_norm {a b : Nat} (ha1 : 8388608 ≤ a) (ha2 : a < 2139095040) (hb1 : 8388608 ≤ b) (hb2 : b < 2139095040) : flt a b = decide (a < b) := by
  unfold flt
  rw [show FloatKind.f32.format.order a b = single.order a b from rfl, order_norm ha1 ha2 hb1 hb2, cmp_int]
  rcases Nat.lt_trichotomy a b with h | h | h
  · rw [if_pos (by omega), decide_eq_true (by omega)]; rfl
  · subst h; rw [if_neg (by omega), if_pos rfl]; simp
  · rw [if_neg (by omega), if_neg (by omega), decide_eq_false (by omega)]; rfl
end Go.Proofs.Ytglimhkpndfjgaa
/- Products and quotients of positive normal single floats: their words' bounds. Plain laws. -/
namespace Go.Proofs.Ytglimhkpndfjgaa
open Ieee
set_option linter.unusedVariables false
set_option linter.unusedSimpArgs false

theorem cut_low (s : Bool) (n d : Nat) (hd : d ≤ n.log2 + 2) : n / 2 ^ d ≤ Toward.even.cut s n d := by
  unfold Toward.cut
  rw [Nat.min_eq_left hd, Nat.one_shiftLeft]
  exact Nat.le_add_right _ _
/-- What is written lies within its binade, if that is not past the greatest one. -/
theorem near_gen (N : Nat) (p : Int) (E : Nat) (h0 : N ≠ 0) (hE : p + (N.log2 : Int) = (E : Int) - 127) (h1 : 1 ≤ E) : ∃ K, 8388608 ≤ K ∧ K ≤ 16777216 ∧ single.nearest false N p = min ((E - 1) * 8388608 + K) 2139095040 := by
  obtain ⟨hb, hi, hl, hs, hf⟩ := single_facts
  obtain ⟨last, hlast⟩ : ∃ last, max (p + N.log2 - single.fractionBits) single.leastPlace = last := ⟨_, rfl⟩
  have hn := nearest_of single false N p last _ h0 hlast rfl
  rw [hf, hl] at hlast
  have hle : last = (E : Int) - 150 := by omega
  have hM1 : 2 ^ N.log2 ≤ N := Nat.log2_self_le h0
  have hM2 : N < 2 ^ (N.log2 + 1) := Nat.lt_log2_self
  obtain ⟨K, hKe⟩ : ∃ K, Toward.even.cut false (N <<< (p - last).toNat) (last - p).toNat = K := ⟨_, rfl⟩
  have hK2 : K ≤ 16777216 := by
    rw [← hKe]
    refine cut_bound _ _ _ _ ?_
    rw [Nat.shiftLeft_eq, Nat.div_lt_iff_lt_mul (Nat.two_pow_pos _)]
    calc N * 2 ^ (p - last).toNat < 2 ^ (N.log2 + 1) * 2 ^ (p - last).toNat := Nat.mul_lt_mul_of_pos_right hM2 (Nat.two_pow_pos _)
      _ = 2 ^ (N.log2 + 1 + (p - last).toNat) := (Nat.pow_add 2 (N.log2 + 1) _).symm
      _ ≤ 2 ^ (24 + (last - p).toNat) := Nat.pow_le_pow_right (by omega) (by omega)
      _ = 16777216 * 2 ^ (last - p).toNat := by rw [Nat.pow_add]
  have hK1 : 8388608 ≤ K := by
    rw [← hKe]
    have hbig : 2 ^ (23 + (last - p).toNat) ≤ N <<< (p - last).toNat := by
      rw [Nat.shiftLeft_eq]
      calc 2 ^ (23 + (last - p).toNat) ≤ 2 ^ (N.log2 + (p - last).toNat) := Nat.pow_le_pow_right (by omega) (by omega)
        _ = 2 ^ N.log2 * 2 ^ (p - last).toNat := Nat.pow_add 2 _ _
        _ ≤ N * 2 ^ (p - last).toNat := Nat.mul_le_mul_right _ hM1
    have hlg : 23 + (last - p).toNat ≤ (N <<< (p - last).toNat).log2 := (Nat.le_log2 (by have := Nat.two_pow_pos (23 + (last - p).toNat); omega)).2 hbig
    refine Nat.le_trans ?_ (cut_low false _ _ (by omega))
    rw [Nat.le_div_iff_mul_le (Nat.two_pow_pos _)]
    calc 8388608 * 2 ^ (last - p).toNat = 2 ^ (23 + (last - p).toNat) := by rw [Nat.pow_add]
      _ ≤ _ := hbig
  rw [hKe, hb, hi, hl] at hn
  have e : (last - -149).toNat = E - 1 := by omega
  rw [e, word_plus] at hn
  exact ⟨K, hK1, hK2, hn⟩
theorem near_norm (N : Nat) (p : Int) (E : Nat) (h0 : N ≠ 0) (hE : p + (N.log2 : Int) = (E : Int) - 127) (h1 : 1 ≤ E) (h2 : E ≤ 253) : ∃ r, single.nearest false N p = r ∧ E * 8388608 ≤ r ∧ r ≤ (E + 1) * 8388608 := by
  obtain ⟨K, hK1, hK2, hn⟩ := near_gen N p E h0 hE h1
  obtain ⟨q, hq⟩ : ∃ q, E - 1 = q := ⟨_, rfl⟩
  rw [hq] at hn
  have hlt : q * 8388608 + K ≤ 2139095040 := by omega
  rw [Nat.min_eq_left hlt] at hn
  refine ⟨_, hn, ?_, ?_⟩
  · have h3 : E = q + 1 := by omega
    rw [h3, Nat.add_mul]
    exact Nat.add_le_add_left hK1 _
  · have h3 : E = q + 1 := by omega
    rw [h3, Nat.add_assoc, Nat.add_mul]
    exact Nat.add_le_add_left hK2 _
theorem mul_norm {a b : Nat} (ha1 : 8388608 ≤ a) (ha2 : a < 2139095040) (hb1 : 8388608 ≤ b) (hb2 : b < 2139095040) (h1 : 128 ≤ a / 8388608 + b / 8388608) (h2 : a / 8388608 + b / 8388608 ≤ 379) :
    ∃ r, floatBits .mul .f32 a b = some r ∧ (a / 8388608 + b / 8388608 - 127) * 8388608 ≤ r ∧ r ≤ (a / 8388608 + b / 8388608 - 125) * 8388608 := by
  have ra := read_norm ha1 ha2
  have rb := read_norm hb1 hb2
  have hv : floatBits .mul .f32 a b = some (single.nearest (false ^^ false) ((8388608 + a % 8388608) * (8388608 + b % 8388608)) (-149 + ((a / 8388608 - 1 : Nat) : Int) + (-149 + ((b / 8388608 - 1 : Nat) : Int)))) := by
    show ((single.read a).product (single.read b)).map single.write = _
    rw [ra, rb]; rfl
  rw [hv]
  obtain ⟨M, hM⟩ : ∃ M, 8388608 + a % 8388608 = M := ⟨_, rfl⟩
  obtain ⟨K, hK⟩ : ∃ K, 8388608 + b % 8388608 = K := ⟨_, rfl⟩
  rw [hM, hK]
  have m1 : 8388608 ≤ M := by omega
  have m2 : M < 16777216 := by omega
  have k1 : 8388608 ≤ K := by omega
  have k2 : K < 16777216 := by omega
  have p1 : 8388608 * 8388608 ≤ M * K := Nat.mul_le_mul m1 k1
  have p2 : M * K < 16777216 * 16777216 := Nat.mul_lt_mul'' m2 k2
  have hne : M * K ≠ 0 := by omega
  have l1 : 46 ≤ (M * K).log2 := (Nat.le_log2 hne).2 (by omega)
  have l2 : (M * K).log2 < 48 := (Nat.log2_lt hne).2 (by omega)
  obtain ⟨r, hr, r1, r2⟩ := near_norm (M * K) (-149 + ((a / 8388608 - 1 : Nat) : Int) + (-149 + ((b / 8388608 - 1 : Nat) : Int))) (a / 8388608 + b / 8388608 + (M * K).log2 - 173) hne (by omega) (by omega) (by omega)
  refine ⟨r, by rw [← hr]; rfl, Nat.le_trans (Nat.mul_le_mul_right _ (by omega)) r1, Nat.le_trans r2 (Nat.mul_le_mul_right _ (by omega))⟩
theorem quo_norm {a b : Nat} (ha1 : 8388608 ≤ a) (ha2 : a < 2139095040) (hb1 : 8388608 ≤ b) (hb2 : b < 2139095040) (h1 : b / 8388608 ≤ a / 8388608 + 125) (h2 : a / 8388608 ≤ b / 8388608 + 126) :
    ∃ r, floatBits .quo .f32 a b = some r ∧ (a / 8388608 + 126 - b / 8388608) * 8388608 ≤ r ∧ r ≤ (a / 8388608 + 128 - b / 8388608) * 8388608 := by
  have ra := read_norm ha1 ha2
  have rb := read_norm hb1 hb2
  obtain ⟨M, hM⟩ : ∃ M, 8388608 + a % 8388608 = M := ⟨_, rfl⟩
  obtain ⟨K, hK⟩ : ∃ K, 8388608 + b % 8388608 = K := ⟨_, rfl⟩
  rw [hM] at ra
  rw [hK] at rb
  have m1 : 8388608 ≤ M := by omega
  have m2 : M < 16777216 := by omega
  have k1 : 8388608 ≤ K := by omega
  have k2 : K < 16777216 := by omega
  have lg : ∀ x, 8388608 ≤ x → x < 16777216 → x.log2 = 23 := fun x h1 h2 => by
    have a : 23 ≤ x.log2 := (Nat.le_log2 (by omega)).2 (by omega)
    have b : x.log2 < 24 := (Nat.log2_lt (by omega)).2 (by omega)
    omega
  have hmore : single.fractionBits + 2 + K.log2 - M.log2 = 25 := by rw [lg M m1 m2, lg K k1 k2, single_facts.2.2.2.2]
  have hv : floatBits .quo .f32 a b = some (single.nearest (false ^^ false) (2 * ((M <<< 25) / K) + ((M <<< 25) % K != 0).toNat) (-149 + ((a / 8388608 - 1 : Nat) : Int) - (-149 + ((b / 8388608 - 1 : Nat) : Int)) - ((25 : Nat) : Int) - 1)) := by
    show ((single.read a).quotient (single.fractionBits + 2) (single.read b)).map single.write = _
    rw [ra, rb]
    unfold Datum.quotient
    simp only
    rw [if_neg (by omega), hmore]
    rfl
  rw [hv]
  have e2 : M <<< 25 = M * 33554432 := by rw [Nat.shiftLeft_eq]
  rw [e2]
  have q1 : 16777216 ≤ M * 33554432 / K := by rw [Nat.le_div_iff_mul_le (by omega)]; omega
  have q2 : M * 33554432 / K < 67108864 := by rw [Nat.div_lt_iff_lt_mul (by omega)]; omega
  have t1 : (M * 33554432 % K != 0).toNat ≤ 1 := by cases (M * 33554432 % K != 0) <;> decide
  obtain ⟨N, hN⟩ : ∃ N, 2 * (M * 33554432 / K) + (M * 33554432 % K != 0).toNat = N := ⟨_, rfl⟩
  rw [hN]
  have n1 : 33554432 ≤ N := by omega
  have n2 : N < 134217728 := by omega
  have hne : N ≠ 0 := by omega
  have l1 : 25 ≤ N.log2 := (Nat.le_log2 hne).2 (by omega)
  have l2 : N.log2 < 27 := (Nat.log2_lt hne).2 (by omega)
  obtain ⟨r, hr, r1, r2⟩ := near_norm N (-149 + ((a / 8388608 - 1 : Nat) : Int) - (-149 + ((b / 8388608 - 1 : Nat) : Int)) - ((25 : Nat) : Int) - 1) (a / 8388608 + 101 + N.log2 - b / 8388608) hne (by omega) (by omega) (by omega)
  refine ⟨r, by rw [← hr]; rfl, Nat.le_trans (Nat.mul_le_mul_right _ (by omega)) r1, Nat.le_trans r2 (Nat.mul_le_mul_right _ (by omega))⟩
/-- Whole numbers as floats. -/
theorem int_norm {n : Nat} (h1 : 1 ≤ n) (h2 : n < 16777216) : (n.log2 + 127) * 8388608 ≤ floatOfInt .f32 (n : Int) ∧ floatOfInt .f32 (n : Int) ≤ (n.log2 + 128) * 8388608 := by
  have l2 : n.log2 < 24 := (Nat.log2_lt (by omega)).2 (by omega)
  obtain ⟨r, hr, r1, r2⟩ := near_norm n 0 (n.log2 + 127) (by omega) (by omega) (by omega) (by omega)
  have e : floatOfInt .f32 (n : Int) = single.nearest false n 0 := by
    show FloatKind.f32.nearest (n : Int) = _
    unfold FloatKind.nearest
    rw [decide_eq_false (by omega), Int.natAbs_natCast]
    rfl
  rw [e, hr]
  exact ⟨r1, r2⟩
end Go.Proofs.Ytglimhkpndfjgaa
/- The series of wells on words: logarithm, exponential, well function, argument, drawdown. Plain definitions and laws; no statement is proved here. -/
namespace Go.Proofs.Ytglimhkpndfjgaa
open Ieee
set_option linter.unusedVariables false
set_option linter.unusedSimpArgs false

def fI (z : Int) : Nat := floatOfInt .f32 z
/-- A positive normal word between two powers of two. -/
def Nrm (a lo hi : Nat) : Prop := lo * 8388608 ≤ a ∧ a ≤ hi * 8388608
theorem Nrm.lo {a i j : Nat} (h : Nrm a i j) (hi : 1 ≤ i) : 8388608 ≤ a := by
  have := h.1
  obtain ⟨k, rfl⟩ : ∃ k, i = k + 1 := ⟨i - 1, by omega⟩
  rw [Nat.add_mul] at this
  omega
theorem Nrm.hi {a i j : Nat} (h : Nrm a i j) (hj : j ≤ 254) : a < 2139095040 := by
  have := h.2
  have h2 : j * 8388608 ≤ 254 * 8388608 := Nat.mul_le_mul_right _ hj
  omega
theorem Nrm.mono {a i j i' j' : Nat} (h : Nrm a i j) (h1 : i' ≤ i) (h2 : j ≤ j') : Nrm a i' j' := ⟨Nat.le_trans (Nat.mul_le_mul_right _ h1) h.1, Nat.le_trans h.2 (Nat.mul_le_mul_right _ h2)⟩
theorem Nrm.field {a i j : Nat} (h : Nrm a i j) : i ≤ a / 8388608 ∧ a / 8388608 ≤ j := by
  obtain ⟨h1, h2⟩ := h
  constructor
  · rw [Nat.le_div_iff_mul_le (by omega)]; exact h1
  · calc a / 8388608 ≤ j * 8388608 / 8388608 := Nat.div_le_div_right h2
      _ = j := Nat.mul_div_cancel _ (by omega)
theorem Nrm.num {a i j : Nat} (h : Nrm a i j) (hj : j ≤ 254) : isN .f32 a = false := finF_num (by have := h.hi hj; omega)
theorem fop_is {op : BinOp} {a b r : Nat} (h : floatBits op .f32 a b = some r) (hr : isN .f32 r = false) : fop op a b = r := by
  unfold fop; rw [h, Option.getD_some]; exact cnk_of_not hr
theorem Nrm.mul {a b i j k l : Nat} (ha : Nrm a i j) (hb : Nrm b k l) (hi : 1 ≤ i) (hk : 1 ≤ k) (hj : j ≤ 254) (hl : l ≤ 254) (h1 : 128 ≤ i + k) (h2 : j + l ≤ 379) : Nrm (fop .mul a b) (i + k - 127) (j + l - 125) := by
  obtain ⟨f1, f2⟩ := ha.field
  obtain ⟨f3, f4⟩ := hb.field
  obtain ⟨r, h, r1, r2⟩ := mul_norm (ha.lo hi) (ha.hi hj) (hb.lo hk) (hb.hi hl) (by omega) (by omega)
  have hN : Nrm r (i + k - 127) (j + l - 125) := ⟨Nat.le_trans (Nat.mul_le_mul_right _ (by omega)) r1, Nat.le_trans r2 (Nat.mul_le_mul_right _ (by omega))⟩
  rw [fop_is h (hN.num (by omega))]
  exact hN
theorem Nrm.quo {a b i j k l : Nat} (ha : Nrm a i j) (hb : Nrm b k l) (hi : 1 ≤ i) (hk : 1 ≤ k) (hj : j ≤ 254) (hl : l ≤ 254) (h1 : l ≤ i + 125) (h2 : j ≤ k + 126) : Nrm (fop .quo a b) (i + 126 - l) (j + 128 - k) := by
  obtain ⟨f1, f2⟩ := ha.field
  obtain ⟨f3, f4⟩ := hb.field
  obtain ⟨r, h, r1, r2⟩ := quo_norm (ha.lo hi) (ha.hi hj) (hb.lo hk) (hb.hi hl) (by omega) (by omega)
  have hN : Nrm r (i + 126 - l) (j + 128 - k) := ⟨Nat.le_trans (Nat.mul_le_mul_right _ (by omega)) r1, Nat.le_trans r2 (Nat.mul_le_mul_right _ (by omega))⟩
  rw [fop_is h (hN.num (by omega))]
  exact hN
theorem fI_nrm {n lo hi : Nat} (h1 : 2 ^ lo ≤ n) (h2 : n < 2 ^ (hi + 1)) (h3 : hi ≤ 22) : Nrm (fI (n : Int)) (lo + 127) (hi + 128) := by
  have hp : 0 < 2 ^ lo := Nat.two_pow_pos _
  have h4 : n < 16777216 := Nat.lt_of_lt_of_le h2 (by
    calc 2 ^ (hi + 1) ≤ 2 ^ 23 := Nat.pow_le_pow_right (by omega) (by omega)
      _ ≤ 16777216 := by decide)
  obtain ⟨r1, r2⟩ := int_norm (n := n) (by omega) h4
  have l1 : lo ≤ n.log2 := (Nat.le_log2 (by omega)).2 h1
  have l2 : n.log2 < hi + 1 := (Nat.log2_lt (by omega)).2 h2
  exact ⟨Nat.le_trans (Nat.mul_le_mul_right _ (by omega)) r1, Nat.le_trans r2 (Nat.mul_le_mul_right _ (by omega))⟩
/-! ### The logarithm. -/
/-- How often a number is halved until it lies near 1. -/
def lnE (u : Nat) : Int := ((u : Int) - 1061158912) / 8388608
/-- What is left. -/
def lnM (u : Nat) : Nat := ((u : Int) - lnE u * 8388608).toNat
def lnS (m : Nat) (e : Nat) : Nat :=
  let t := fop .quo (fop .sub m 1065353216) (fop .add m 1065353216)
  let q := fop .mul t t
  let p := fop .add (fop .mul q 1041385765) 1045220557
  let p := fop .add (fop .mul p q) 1051372203
  let p := fop .add (fop .mul p q) 1065353216
  fop .add (fop .mul e 1060205080) (fop .mul 1073741824 (fop .mul t p))
def lnX (u : Nat) : Nat := lnS (lnM u) (fI (lnE u))
theorem lnM_in {u : Nat} (h : 8388608 ≤ u) : 1061158912 ≤ lnM u ∧ lnM u < 1069547520 ∧ (lnM u : Int) = (u : Int) - lnE u * 8388608 := by
  unfold lnM lnE; omega
def fE (k : Nat) : Nat := fI ((k : Int) - 64)
theorem fE_step : ∀ k : Nat, k < 128 → fop .add (fE k) 1065353216 = fE (k + 1) ∧ fop .sub (fE (k + 1)) 1065353216 = fE k := by decide +kernel
theorem fI_add {z : Int} (h1 : -64 ≤ z) (h2 : z < 64) : fop .add (fI z) 1065353216 = fI (z + 1) := by
  have h := (fE_step (z + 64).toNat (by omega)).1
  unfold fE at h
  rw [show ((z + 64).toNat : Int) - 64 = z by omega, show (((z + 64).toNat + 1 : Nat) : Int) - 64 = z + 1 by omega] at h
  exact h
theorem fI_sub {z : Int} (h1 : -64 < z) (h2 : z ≤ 64) : fop .sub (fI z) 1065353216 = fI (z - 1) := by
  have h := (fE_step (z + 63).toNat (by omega)).2
  unfold fE at h
  rw [show ((z + 63).toNat : Int) - 64 = z - 1 by omega, show (((z + 63).toNat + 1 : Nat) : Int) - 64 = z by omega] at h
  exact h
/-! ### The exponential. -/
def exP (u : Nat) : Nat :=
  let v := fop .quo u 1132462080
  let p := fop .add (fop .mul v 1042983595) 1056964608
  let p := fop .add (fop .mul p v) 1065353216
  fop .add (fop .mul p v) 1065353216
def sqN : Nat → Nat → Nat
  | p, 0 => p
  | p, k + 1 => fop .mul (sqN p k) (sqN p k)
def exX (u : Nat) : Nat := fop .quo 1065353216 (sqN (exP u) 8)
/-! ### The well function. -/
def wfH (u : Nat) : Nat :=
  let h := fop .sub (fop .mul u 987395086) 1009429163
  let h := fop .add (fop .mul h u) 1029934649
  let h := fop .sub (fop .mul h u) 1048576000
  fop .add (fop .mul h u) 1065353216
def wfI (u : Nat) : Nat → Nat
  | 0 => u
  | k + 1 => fop .add u (fop .quo (fI (8 - (k : Int))) (fop .add 1065353216 (fop .quo (fI (8 - (k : Int))) (wfI u k))))
def wfX (u : Nat) : Nat :=
  if u ≤ 1065353216 then fop .add (fop .sub 3205743720 (lnX u)) (fop .mul (wfH u) u)
  else fop .quo (exX u) (wfI u 8)
/-! ### The argument. -/
def sqD (x : Int) (y : Int) : Nat := if x = 0 ∧ y = 0 then 1031798784 else fI (x * x + y * y)
/-- A valid aquifer's words. -/
structure Aq (T S : Nat) : Prop where
  t : Nrm T 117 147
  s : Nrm S 107 127
def argX (T S : Nat) (dx dy : Int) (time : Nat) : Nat := fop .quo (fop .mul (sqD dx dy) S) (fop .mul (fop .mul 1082130432 T) (fI (time : Int)))
theorem sqD_nrm {x y : Int} (hx : -15 ≤ x ∧ x ≤ 15) (hy : -15 ≤ y ∧ y ≤ 15) : Nrm (sqD x y) 123 136 := by
  unfold sqD
  split
  · exact ⟨by decide, by decide⟩
  · rename_i h
    have a1 : 0 ≤ x * x ∧ x * x ≤ 225 := by
      obtain ⟨a, rfl | rfl⟩ : ∃ a : Nat, x = a ∨ x = -(a : Int) := ⟨x.natAbs, by omega⟩
      · have : a ≤ 15 := by omega
        have := Nat.mul_le_mul this this
        rw [← Int.natCast_mul]; omega
      · have : a ≤ 15 := by omega
        have := Nat.mul_le_mul this this
        rw [Int.neg_mul_neg, ← Int.natCast_mul]; omega
    have a2 : 0 ≤ y * y ∧ y * y ≤ 225 := by
      obtain ⟨a, rfl | rfl⟩ : ∃ a : Nat, y = a ∨ y = -(a : Int) := ⟨y.natAbs, by omega⟩
      · have : a ≤ 15 := by omega
        have := Nat.mul_le_mul this this
        rw [← Int.natCast_mul]; omega
      · have : a ≤ 15 := by omega
        have := Nat.mul_le_mul this this
        rw [Int.neg_mul_neg, ← Int.natCast_mul]; omega
    have a3 : x * x ≠ 0 ∨ y * y ≠ 0 := by
      by_cases hx0 : x = 0
      · right
        intro e
        rcases Int.mul_eq_zero.1 e with e | e <;> exact h ⟨hx0, e⟩
      · left
        intro e
        rcases Int.mul_eq_zero.1 e with e | e <;> exact hx0 e
    obtain ⟨n, hn⟩ : ∃ n : Nat, x * x + y * y = n := ⟨(x * x + y * y).toNat, by omega⟩
    rw [hn]
    have := fI_nrm (n := n) (lo := 0) (hi := 8) (by simp; omega) (by simp; omega) (by omega)
    exact this.mono (by omega) (by omega)
theorem argX_nrm {T S : Nat} (h : Aq T S) {x y : Int} (hx : -15 ≤ x ∧ x ≤ 15) (hy : -15 ≤ y ∧ y ≤ 15) {time : Nat} (h1 : 1 ≤ time) (h2 : time ≤ 100000) : Nrm (argX T S x y time) 59 147 := by
  unfold argX
  have d := (sqD_nrm hx hy).mul h.s (by omega) (by omega) (by omega) (by omega) (by omega) (by omega)
  have t4 : Nrm 1082130432 129 129 := ⟨by decide, by decide⟩
  have t := (t4.mul h.t (by omega) (by omega) (by omega) (by omega) (by omega) (by omega)).mul (fI_nrm (n := time) (lo := 0) (hi := 16) (by simp; omega) (by simp; omega) (by omega)) (by omega) (by omega) (by omega) (by omega) (by omega) (by omega)
  exact (d.quo t (by omega) (by omega) (by omega) (by omega) (by omega) (by omega)).mono (by omega) (by omega)
/-- The argument is not too small. -/
def argV (T S : Nat) (dx dy : Int) (time : Nat) : Nat := if argX T S dx dy time < 562036736 then 562036736 else argX T S dx dy time
theorem argV_in {T S : Nat} (h : Aq T S) {x y : Int} (hx : -15 ≤ x ∧ x ≤ 15) (hy : -15 ≤ y ∧ y ≤ 15) {time : Nat} (h1 : 1 ≤ time) (h2 : time ≤ 100000) : 562036736 ≤ argV T S x y time ∧ argV T S x y time ≤ 1233125376 := by
  have := (argX_nrm h hx hy h1 h2).2
  unfold argV
  split
  · omega
  · omega
/-- The drawdown of a well with this rate. -/
def ddX (T S R : Nat) (dx dy : Int) (time : Nat) : Nat :=
  if 1117782016 < argV T S dx dy time then 0 else fop .mul (fop .quo R (fop .mul 1095307227 T)) (wfX (argV T S dx dy time))
end Go.Proofs.Ytglimhkpndfjgaa
/- The well function's words are finite. Plain laws; no statement is proved here. -/
namespace Go.Proofs.Ytglimhkpndfjgaa
open Ieee
set_option linter.unusedVariables false
set_option linter.unusedSimpArgs false

/-- A finite word of at most this size. -/
def Mg (a j : Nat) : Prop := a % 2147483648 ≤ j * 8388608
theorem Mg.mono {a i j : Nat} (h : Mg a i) (hj : i ≤ j) : Mg a j := Nat.le_trans h (Nat.mul_le_mul_right _ hj)
theorem Mg.fin {a i : Nat} (h : Mg a i) (hi : i ≤ 254) : a % 2147483648 < 2139095040 := by
  have h2 : i * 8388608 ≤ 254 * 8388608 := Nat.mul_le_mul_right _ hi
  unfold Mg at h; omega
theorem Mg.num {a i : Nat} (h : Mg a i) (hi : i ≤ 254) : isN .f32 a = false := finF_num (h.fin hi)
theorem Nrm.mg {a i j : Nat} (h : Nrm a i j) (hj : j ≤ 254) : Mg a j := by
  have := h.hi hj
  unfold Mg
  rw [Nat.mod_eq_of_lt (by omega)]; exact h.2
theorem Mg.read {a i : Nat} (h : Mg a i) (hi1 : 1 ≤ i) (hi : i ≤ 254) : ∃ (s : Bool) (m k : Nat), single.read a = .number s m (-149 + (k : Int)) ∧ m < 16777216 ∧ k + 1 ≤ i := by
  obtain ⟨hb, hi', hl, hs, hf⟩ := single_facts
  have hfin := h.fin hi
  unfold Mg at h
  unfold Format.read
  simp only [hs, hb, hi', hl]
  generalize a % 2147483648 = r at *
  by_cases h1 : r < 8388608
  · rw [if_pos h1]; exact ⟨a / 2147483648 % 2 == 1, r, 0, by simp, by omega, by omega⟩
  · rw [if_neg h1, if_pos (by omega)]
    refine ⟨_, _, _, rfl, by omega, ?_⟩
    have : r / 8388608 ≤ i := by
      calc r / 8388608 ≤ i * 8388608 / 8388608 := Nat.div_le_div_right h
        _ = i := Nat.mul_div_cancel _ (by omega)
    omega
theorem word_mg {s : Bool} {R j : Nat} (h : R ≤ j * 8388608) (hR : R < 2139095040) : Mg (single.word s R) j := by
  unfold Mg Format.word
  rw [single_facts.2.2.2.1]
  split
  · rw [Nat.add_comm, Nat.add_mod_right, Nat.mod_eq_of_lt (by omega)]; exact h
  · rw [Nat.mod_eq_of_lt (by omega)]; exact h
theorem Mg.done {op : BinOp} {a b j : Nat} {s : Bool} {N : Nat} {p : Int} (E : Nat) (h : floatBits op .f32 a b = some (single.nearest s N p)) (hp : p + (N.log2 : Int) - 23 ≤ -149 + (E : Int)) (hE : E + 2 ≤ j) (hj : j ≤ 252) : Mg (fop op a b) j := by
  obtain ⟨R, hR, hR2, hw⟩ := nearest_small N p E hp (by omega)
  rw [hw] at h
  have hm : Mg (single.word s R) j := word_mg (Nat.le_trans (Nat.le_trans hR2 (Nat.le_of_eq (Nat.add_mul E 2 8388608).symm)) (Nat.mul_le_mul_right _ hE)) hR
  rw [fop_is h (hm.num (by omega))]
  exact hm
theorem Mg.mul {a b i j l : Nat} (ha : Mg a i) (hb : Mg b j) (hi : 1 ≤ i) (hj : 1 ≤ j) (hi2 : i ≤ 254) (hj2 : j ≤ 254) (h1 : 127 ≤ i + j) (h2 : i + j ≤ l + 125) (hl : l ≤ 252) : Mg (fop .mul a b) l := by
  obtain ⟨s, m, k, h3, h4, h5⟩ := ha.read hi hi2
  obtain ⟨t, n, q, h6, h7, h8⟩ := hb.read hj hj2
  have hlog : (m * n).log2 ≤ 47 := by
    by_cases h0 : m * n = 0
    · rw [h0]; decide
    · have : (m * n).log2 < 48 := (Nat.log2_lt h0).2 (by
        calc m * n < 16777216 * 16777216 := Nat.mul_lt_mul'' h4 h7
          _ = 2 ^ 48 := by decide)
      omega
  refine Mg.done (s := s ^^ t) (N := m * n) (p := -149 + (k : Int) + (-149 + (q : Int))) (i + j - 127) ?_ (by omega) (by omega) hl
  show ((single.read a).product (single.read b)).map single.write = _
  rw [h3, h6]; rfl
theorem abs_sum (a b : Int) : (a + b).natAbs ≤ a.natAbs + b.natAbs := Int.natAbs_add_le a b
theorem signed_abs (s : Bool) (m u : Nat) : (signed s m u).natAbs = m * 2 ^ u := by rw [signed_sg]; exact sg_natAbs32 s _
theorem sum_log {m n k q B : Nat} (hm : m < 16777216) (hn : n < 16777216) (s t : Bool) (hB : k ≤ B ∧ q ≤ B) : (-149 + ((min k q : Nat) : Int)) + (((signed s m (k - min k q) + signed t n (q - min k q)).natAbs).log2 : Int) - 23 ≤ -149 + ((B + 1 : Nat) : Int) := by
  by_cases h0 : (signed s m (k - min k q) + signed t n (q - min k q)).natAbs = 0
  · rw [h0, show (0 : Nat).log2 = 0 by decide]; omega
  · have h1 := abs_sum (signed s m (k - min k q)) (signed t n (q - min k q))
    rw [signed_abs, signed_abs] at h1
    have h2 : m * 2 ^ (k - min k q) < 16777216 * 2 ^ (B - min k q) := Nat.lt_of_le_of_lt (Nat.mul_le_mul_left m (Nat.pow_le_pow_right (by omega) (by omega))) (Nat.mul_lt_mul_of_pos_right hm (Nat.two_pow_pos _))
    have h3 : n * 2 ^ (q - min k q) < 16777216 * 2 ^ (B - min k q) := Nat.lt_of_le_of_lt (Nat.mul_le_mul_left n (Nat.pow_le_pow_right (by omega) (by omega))) (Nat.mul_lt_mul_of_pos_right hn (Nat.two_pow_pos _))
    have h4 : (signed s m (k - min k q) + signed t n (q - min k q)).natAbs < 2 ^ (25 + (B - min k q)) := by
      rw [Nat.pow_add]
      have := Nat.two_pow_pos (B - min k q)
      omega
    have h5 := (Nat.log2_lt h0).2 h4
    generalize (signed s m (k - min k q) + signed t n (q - min k q)).natAbs.log2 = L at *
    clear h0 h1 h2 h3 h4
    omega
theorem Mg.add {a b i j l : Nat} (ha : Mg a i) (hb : Mg b j) (hi : 1 ≤ i) (hj : 1 ≤ j) (hi2 : i ≤ 254) (hj2 : j ≤ 254) (h1 : i + 2 ≤ l) (h2 : j + 2 ≤ l) (hl : l ≤ 252) : Mg (fop .add a b) l := by
  obtain ⟨s, m, k, h3, h4, h5⟩ := ha.read hi hi2
  obtain ⟨t, n, q, h6, h7, h8⟩ := hb.read hj hj2
  have hs := sum_log (k := k) (q := q) (B := l - 3) h4 h7 s t ⟨by omega, by omega⟩
  refine Mg.done (s := if signed s m (k - min k q) + signed t n (q - min k q) = 0 then s && t else decide (signed s m (k - min k q) + signed t n (q - min k q) < 0)) (N := (signed s m (k - min k q) + signed t n (q - min k q)).natAbs) (p := -149 + ((min k q : Nat) : Int)) (l - 3 + 1) ?_ hs (by omega) hl
  show ((single.read a).sum (single.read b)).map single.write = _
  rw [h3, h6]
  unfold Datum.sum
  simp only
  have e0 : min (-149 + (k : Int)) (-149 + (q : Int)) = -149 + ((min k q : Nat) : Int) := by omega
  rw [e0]
  have e1 : (-149 + (k : Int) - (-149 + ((min k q : Nat) : Int))).toNat = k - min k q := by omega
  have e2 : (-149 + (q : Int) - (-149 + ((min k q : Nat) : Int))).toNat = q - min k q := by omega
  rw [e1, e2]
  rfl
theorem Mg.sub {a b i j l : Nat} (ha : Mg a i) (hb : Mg b j) (hi : 1 ≤ i) (hj : 1 ≤ j) (hi2 : i ≤ 254) (hj2 : j ≤ 254) (h1 : i + 2 ≤ l) (h2 : j + 2 ≤ l) (hl : l ≤ 252) : Mg (fop .sub a b) l := by
  obtain ⟨s, m, k, h3, h4, h5⟩ := ha.read hi hi2
  obtain ⟨t, n, q, h6, h7, h8⟩ := hb.read hj hj2
  have hs := sum_log (k := k) (q := q) (B := l - 3) h4 h7 s (!t) ⟨by omega, by omega⟩
  refine Mg.done (s := if signed s m (k - min k q) + signed (!t) n (q - min k q) = 0 then s && !t else decide (signed s m (k - min k q) + signed (!t) n (q - min k q) < 0)) (N := (signed s m (k - min k q) + signed (!t) n (q - min k q)).natAbs) (p := -149 + ((min k q : Nat) : Int)) (l - 3 + 1) ?_ hs (by omega) hl
  show ((single.read a).sum (single.read b).opposite).map single.write = _
  rw [h3, h6]
  show ((Datum.number s m (-149 + (k : Int))).sum (.number (!t) n (-149 + (q : Int)))).map single.write = _
  unfold Datum.sum
  simp only
  have e0 : min (-149 + (k : Int)) (-149 + (q : Int)) = -149 + ((min k q : Nat) : Int) := by omega
  rw [e0]
  have e1 : (-149 + (k : Int) - (-149 + ((min k q : Nat) : Int))).toNat = k - min k q := by omega
  have e2 : (-149 + (q : Int) - (-149 + ((min k q : Nat) : Int))).toNat = q - min k q := by omega
  rw [e1, e2]
  rfl
/-- Quotients by a number that is not too small. -/
theorem Mg.quo' {a b i k l : Nat} (ha : Mg a i) (hb1 : k * 8388608 ≤ b) (hb0 : 8388608 ≤ b) (hb2 : b < 2139095040) (hi : 1 ≤ i) (hi2 : i ≤ 254) (h1 : k ≤ i + 127) (h2 : i + 129 ≤ l + k) (hl : l ≤ 252) : Mg (fop .quo a b) l := by
  obtain ⟨s, m, q, h3, h4, h5⟩ := ha.read hi hi2
  have rb := read_norm hb0 hb2
  have f1 : k ≤ b / 8388608 := by rw [Nat.le_div_iff_mul_le (by omega)]; exact hb1
  obtain ⟨K, hK⟩ : ∃ K, 8388608 + b % 8388608 = K := ⟨_, rfl⟩
  rw [hK] at rb
  have k1 : 8388608 ≤ K := by omega
  have k2 : K < 16777216 := by omega
  have lgK : K.log2 = 23 := by
    have a : 23 ≤ K.log2 := (Nat.le_log2 (by omega)).2 (by omega)
    have b : K.log2 < 24 := (Nat.log2_lt (by omega)).2 (by omega)
    omega
  obtain ⟨more, hmore⟩ : ∃ more, single.fractionBits + 2 + K.log2 - m.log2 = more := ⟨_, rfl⟩
  have hm0 : m.log2 < 24 := by
    by_cases h0 : m = 0
    · rw [h0]; decide
    · exact (Nat.log2_lt h0).2 (by omega)
  have hmore2 : more + m.log2 = 48 := by rw [← hmore, lgK, single_facts.2.2.2.2]; omega
  obtain ⟨N, hN⟩ : ∃ N, 2 * ((m <<< more) / K) + ((m <<< more) % K != 0).toNat = N := ⟨_, rfl⟩
  have hv : floatBits .quo .f32 a b = some (single.nearest (s ^^ false) N (-149 + (q : Int) - (-149 + ((b / 8388608 - 1 : Nat) : Int)) - ((more : Nat) : Int) - 1)) := by
    show ((single.read a).quotient (single.fractionBits + 2) (single.read b)).map single.write = _
    rw [h3, rb]
    unfold Datum.quotient
    simp only
    rw [if_neg (by omega), hmore, ← hN]
    rfl
  have hlt : m <<< more < 2 ^ 49 := by
    rw [Nat.shiftLeft_eq]
    calc m * 2 ^ more < 2 ^ (m.log2 + 1) * 2 ^ more := Nat.mul_lt_mul_of_pos_right Nat.lt_log2_self (Nat.two_pow_pos _)
      _ = 2 ^ 49 := by rw [← Nat.pow_add]; congr 1; omega
  have q2 : (m <<< more) / K ≤ 67108864 := by
    have : (m <<< more) / K ≤ (m <<< more) / 8388608 := Nat.div_le_div_left k1 (by omega)
    omega
  have t1 : ((m <<< more) % K != 0).toNat ≤ 1 := by cases ((m <<< more) % K != 0) <;> decide
  have hlog : N.log2 ≤ 27 := by
    by_cases h0 : N = 0
    · rw [h0, show Nat.log2 0 = 0 by decide]; omega
    · have : N.log2 < 28 := (Nat.log2_lt h0).2 (by omega)
      omega
  exact Mg.done (i + 127 - k) hv (by omega) (by omega) hl
theorem Mg.quo {a b i k j l : Nat} (ha : Mg a i) (hb : Nrm b k j) (hi : 1 ≤ i) (hk : 1 ≤ k) (hi2 : i ≤ 254) (hj2 : j ≤ 254) (h1 : k ≤ i + 127) (h2 : i + 129 ≤ l + k) (hl : l ≤ 252) : Mg (fop .quo a b) l :=
  ha.quo' hb.1 (hb.lo hk) (hb.hi hj2) hi hi2 h1 h2 hl
/-- Sums of positive numbers. -/
theorem Nrm.add {a b i j k l : Nat} (ha : Nrm a i j) (hb : Nrm b k l) (hi : 1 ≤ i) (hk : 1 ≤ k) (hj : j ≤ 252) (hl : l ≤ 252) : Nrm (fop .add a b) (max i k) (max j l + 2) := by
  have ra := read_norm (ha.lo hi) (ha.hi (by omega))
  have rb := read_norm (hb.lo hk) (hb.hi (by omega))
  obtain ⟨f1, f2⟩ := ha.field
  obtain ⟨f3, f4⟩ := hb.field
  obtain ⟨M, hM⟩ : ∃ M, 8388608 + a % 8388608 = M := ⟨_, rfl⟩
  obtain ⟨K, hK⟩ : ∃ K, 8388608 + b % 8388608 = K := ⟨_, rfl⟩
  rw [hM] at ra
  rw [hK] at rb
  have m1 : 8388608 ≤ M := by omega
  have m2 : M < 16777216 := by omega
  have k1 : 8388608 ≤ K := by omega
  have k2 : K < 16777216 := by omega
  obtain ⟨p, hp⟩ : ∃ p, a / 8388608 - 1 = p := ⟨_, rfl⟩
  obtain ⟨q, hq⟩ : ∃ q, b / 8388608 - 1 = q := ⟨_, rfl⟩
  rw [hp] at ra
  rw [hq] at rb
  obtain ⟨N, hN⟩ : ∃ N, M * 2 ^ (p - min p q) + K * 2 ^ (q - min p q) = N := ⟨_, rfl⟩
  have hpos : 0 < N := by
    rw [← hN]
    have := Nat.mul_pos (show 0 < M by omega) (Nat.two_pow_pos (p - min p q))
    omega
  have hsum : signed false M (p - min p q) + signed false K (q - min p q) = (N : Int) := by
    rw [signed_sg, signed_sg, ← hN]
    unfold sg
    simp
  have hv : floatBits .add .f32 a b = some (single.nearest false N (-149 + ((min p q : Nat) : Int))) := by
    show ((single.read a).sum (single.read b)).map single.write = _
    rw [ra, rb]
    unfold Datum.sum
    simp only
    have e0 : min (-149 + (p : Int)) (-149 + (q : Int)) = -149 + ((min p q : Nat) : Int) := by omega
    rw [e0]
    have e1 : (-149 + (p : Int) - (-149 + ((min p q : Nat) : Int))).toNat = p - min p q := by omega
    have e2 : (-149 + (q : Int) - (-149 + ((min p q : Nat) : Int))).toNat = q - min p q := by omega
    rw [e1, e2, hsum, if_neg (by omega), decide_eq_false (by omega), Int.natAbs_natCast]
    rfl
  have hlow : 2 ^ (23 + (max p q - min p q)) ≤ N := by
    rw [Nat.pow_add, ← hN]
    rcases Nat.le_total p q with h | h
    · rw [Nat.max_eq_right h]
      have := Nat.mul_le_mul_right (2 ^ (q - min p q)) k1
      have h0 : (2 : Nat) ^ 23 = 8388608 := by decide
      rw [h0]
      exact Nat.le_trans this (Nat.le_add_left _ _)
    · rw [Nat.max_eq_left h]
      have := Nat.mul_le_mul_right (2 ^ (p - min p q)) m1
      have h0 : (2 : Nat) ^ 23 = 8388608 := by decide
      rw [h0]
      exact Nat.le_trans this (Nat.le_add_right _ _)
  have hhigh : N < 2 ^ (25 + (max p q - min p q)) := by
    rw [Nat.pow_add, ← hN]
    have e1 : M * 2 ^ (p - min p q) < 16777216 * 2 ^ (max p q - min p q) := Nat.lt_of_le_of_lt (Nat.mul_le_mul_left M (Nat.pow_le_pow_right (by omega) (by omega))) (Nat.mul_lt_mul_of_pos_right m2 (Nat.two_pow_pos _))
    have e2 : K * 2 ^ (q - min p q) < 16777216 * 2 ^ (max p q - min p q) := Nat.lt_of_le_of_lt (Nat.mul_le_mul_left K (Nat.pow_le_pow_right (by omega) (by omega))) (Nat.mul_lt_mul_of_pos_right k2 (Nat.two_pow_pos _))
    have h0 : (2 : Nat) ^ 25 = 33554432 := by decide
    rw [h0]
    omega
  have l1 := (Nat.le_log2 (by omega)).2 hlow
  have l2 := (Nat.log2_lt (by omega)).2 hhigh
  clear hlow hhigh hN hsum
  obtain ⟨r, hr, r1, r2⟩ := near_norm N (-149 + ((min p q : Nat) : Int)) (min p q + N.log2 - 22) (by omega) (by omega) (by omega) (by omega)
  have hR : Nrm r (max i k) (max j l + 2) := ⟨Nat.le_trans (Nat.mul_le_mul_right _ (by omega)) r1, Nat.le_trans r2 (Nat.mul_le_mul_right _ (by omega))⟩
  rw [hr] at hv
  rw [fop_is hv (hR.num (by omega))]
  exact hR
end Go.Proofs.Ytglimhkpndfjgaa
