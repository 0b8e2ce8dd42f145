import Derived.Test.YtglimhkpndfjgaaMT10
import Derived.Test.YtglimhkpndfjgaaMT03
import Derived.IntWalk
import Derived.Test.YtglimhkpndfjgaaMT04
/- Rounding keeps the order of numbers, sums of numbers that are not negative. Plain laws; no statement is proved here. -/
namespace Go.Proofs.Ytglimhkpndfjgaa
open Ieee
set_option linter.unusedVariables false
set_option linter.unusedSimpArgs false

theorem magS_at {q m : Nat} (h1 : m ≤ 16777216) (h2 : 8388608 ≤ m ∨ q = 0) : magS (q * 8388608 + m) = m * 2 ^ q := by
  unfold magS
  by_cases e : m = 16777216
  · subst e
    rw [if_neg (by omega)]
    have h3 : (q * 8388608 + 16777216) % 8388608 = 0 := by omega
    have h4 : (q * 8388608 + 16777216) / 8388608 = q + 2 := by omega
    rw [h3, h4, show q + 2 - 1 = q + 1 by omega, Nat.pow_succ]; omega
  · have key : 8388608 ≤ m → (if q * 8388608 + m < 8388608 then q * 8388608 + m else (8388608 + (q * 8388608 + m) % 8388608) * 2 ^ ((q * 8388608 + m) / 8388608 - 1)) = m * 2 ^ q := by
      intro h3
      rw [if_neg (by omega)]
      have h5 : (q * 8388608 + m) / 8388608 = q + 1 := by omega
      have h6 : (q * 8388608 + m) % 8388608 = m - 8388608 := by omega
      rw [h5, h6, show q + 1 - 1 = q by omega, show 8388608 + (m - 8388608) = m by omega]
    rcases h2 with h2 | rfl
    · exact key h2
    · by_cases h3 : 8388608 ≤ m
      · exact key h3
      · rw [if_pos (by omega)]; simp
theorem magS_zero : magS 0 = 0 := by simp [magS]
theorem magS_le {x y : Nat} (h : x ≤ y) : magS x ≤ magS y := by
  rcases Nat.lt_or_ge x y with h1 | h1
  · exact Nat.le_of_lt (magS_lt h1)
  · obtain rfl : x = y := by omega
    exact Nat.le_refl _
theorem cut_none (s : Bool) (n : Nat) : Toward.even.cut s n 0 = n := by
  unfold Toward.cut
  simp [Nat.mod_one]
theorem cut_two (n d : Nat) (hd : d ≤ n.log2 + 2) : Toward.even.cut false n d = n / 2 ^ d ∨ (Toward.even.cut false n d = n / 2 ^ d + 1 ∧ n % 2 ^ d ≠ 0) := by
  unfold Toward.cut
  rw [Nat.min_eq_left hd, Nat.one_shiftLeft]
  simp only
  by_cases h0 : n % 2 ^ d = 0
  · left
    have h1 := Nat.two_pow_pos d
    simp only [h0]
    have e1 : decide (2 ^ d < 2 * 0) = false := decide_eq_false (by omega)
    have e2 : (2 ^ d == 2 * 0) = false := by rw [beq_eq_false_iff_ne]; omega
    rw [e1, e2]; rfl
  · generalize (decide (2 ^ d < 2 * (n % 2 ^ d)) || 2 ^ d == 2 * (n % 2 ^ d) && n / 2 ^ d % 2 == 1) = b
    cases b
    · left; simp
    · right; exact ⟨rfl, h0⟩
/-- The word that is written, by its digits. -/
theorem near_form (N k : Nat) (h0 : N ≠ 0) : ∃ q K low, single.nearest false N (-149 + (k : Int)) = min (q * 8388608 + K) 2139095040 ∧ low * 2 ^ q ≤ N * 2 ^ k ∧ N * 2 ^ k < (low + 1) * 2 ^ q ∧ (8388608 ≤ low ∨ q = 0) ∧ low < 16777216 ∧ (K = low ∨ (K = low + 1 ∧ low * 2 ^ q < N * 2 ^ k)) := by
  obtain ⟨hb, hi, hl, hs, hf⟩ := single_facts
  obtain ⟨last, hlast⟩ : ∃ last, max ((-149 + (k : Int)) + N.log2 - single.fractionBits) single.leastPlace = last := ⟨_, rfl⟩
  have hn := nearest_of single false N (-149 + (k : Int)) last _ h0 hlast rfl
  rw [hf, hl] at hlast
  rw [hb, hi, hl, word_plus] at hn
  have hM1 : 2 ^ N.log2 ≤ N := Nat.log2_self_le h0
  have hM2 : N < 2 ^ (N.log2 + 1) := Nat.lt_log2_self
  obtain ⟨L, hL⟩ : ∃ L, N.log2 = L := ⟨_, rfl⟩
  rw [hL] at hM1 hM2 hlast
  by_cases hc : last ≤ -149 + (k : Int)
  · -- exact
    obtain ⟨e, he⟩ : ∃ e : Nat, (-149 + (k : Int) - last).toNat = e := ⟨_, rfl⟩
    have hd : (last - (-149 + (k : Int))).toNat = 0 := by omega
    rw [he, hd, cut_none, Nat.shiftLeft_eq] at hn
    obtain ⟨q, hq⟩ : ∃ q : Nat, (last - -149).toNat = q := ⟨_, rfl⟩
    rw [hq] at hn
    have hk : k = e + q := by omega
    have hlow : N * 2 ^ e < 16777216 := by
      have : N * 2 ^ e < 2 ^ (L + 1) * 2 ^ e := Nat.mul_lt_mul_of_pos_right hM2 (Nat.two_pow_pos _)
      rw [← Nat.pow_add] at this
      exact Nat.lt_of_lt_of_le this (Nat.le_trans (Nat.pow_le_pow_right (by omega) (by omega : L + 1 + e ≤ 24)) (by decide))
    refine ⟨q, N * 2 ^ e, N * 2 ^ e, hn, ?_, ?_, ?_, hlow, .inl rfl⟩
    · rw [hk, Nat.pow_add, Nat.mul_assoc]; exact Nat.le_refl _
    · rw [hk, Nat.pow_add, ← Nat.mul_assoc]
      exact Nat.mul_lt_mul_of_pos_right (Nat.lt_succ_self _) (Nat.two_pow_pos _)
    · by_cases h1 : q = 0
      · exact .inr h1
      · left
        have : 2 ^ L * 2 ^ e ≤ N * 2 ^ e := Nat.mul_le_mul_right _ hM1
        rw [← Nat.pow_add] at this
        exact Nat.le_trans (Nat.le_trans (by decide : 8388608 ≤ 2 ^ 23) (Nat.pow_le_pow_right (by omega) (by omega : 23 ≤ L + e))) this
  · obtain ⟨d, hd⟩ : ∃ d : Nat, (last - (-149 + (k : Int))).toNat = d := ⟨_, rfl⟩
    have he : (-149 + (k : Int) - last).toNat = 0 := by omega
    rw [he, hd] at hn
    obtain ⟨q, hq⟩ : ∃ q : Nat, (last - -149).toNat = q := ⟨_, rfl⟩
    rw [hq] at hn
    have hqk : q = d + k := by omega
    have hdL : L = d + 23 := by omega
    rw [show N <<< 0 = N by simp] at hn
    have hdm := Nat.div_add_mod N (2 ^ d)
    have hml := Nat.mod_lt N (Nat.two_pow_pos d)
    have l1 : 8388608 ≤ N / 2 ^ d := by
      rw [Nat.le_div_iff_mul_le (Nat.two_pow_pos _)]
      calc 8388608 * 2 ^ d = 2 ^ (23 + d) := by rw [Nat.pow_add]
        _ = 2 ^ L := by rw [hdL, Nat.add_comm]
        _ ≤ N := hM1
    have l2 : N / 2 ^ d < 16777216 := by
      rw [Nat.div_lt_iff_lt_mul (Nat.two_pow_pos _)]
      calc N < 2 ^ (L + 1) := hM2
        _ = 2 ^ (24 + d) := by congr 1; omega
        _ = 16777216 * 2 ^ d := by rw [Nat.pow_add]
    have hct := cut_two N d (by omega)
    generalize Toward.even.cut false N d = K at *
    have e1 : N * 2 ^ k = (N / 2 ^ d) * 2 ^ q + (N % 2 ^ d) * 2 ^ k := by
      conv => lhs; rw [← hdm]
      rw [Nat.add_mul, hqk, Nat.pow_add, Nat.mul_comm (2 ^ d) (N / 2 ^ d), Nat.mul_assoc]
    refine ⟨q, K, N / 2 ^ d, hn, by omega, ?_, .inl l1, l2, ?_⟩
    · rw [e1, Nat.add_mul, Nat.one_mul]
      refine Nat.add_lt_add_left ?_ _
      rw [hqk, Nat.pow_add]
      exact Nat.mul_lt_mul_of_pos_right hml (Nat.two_pow_pos _)
    · rcases hct with h | ⟨h, h2⟩
      · exact .inl h
      · refine .inr ⟨h, ?_⟩
        have : 0 < (N % 2 ^ d) * 2 ^ k := Nat.mul_pos (by omega) (Nat.two_pow_pos _)
        omega
theorem near_ge {N k r : Nat} (hr : r ≤ 2139095040) (h : magS r ≤ N * 2 ^ k) : r ≤ single.nearest false N (-149 + (k : Int)) := by
  by_cases h0 : N = 0
  · subst h0
    have : r = 0 := by
      rcases Nat.eq_zero_or_pos r with h1 | h1
      · exact h1
      · have := magS_lt h1; rw [magS_zero] at this; omega
    omega
  obtain ⟨q, K, low, hn, h1, h2, h3, h4, h5⟩ := near_form N k h0
  rw [hn]
  refine Nat.le_min.2 ⟨?_, hr⟩
  have hle : r ≤ q * 8388608 + low := by
    rcases Nat.lt_or_ge (q * 8388608 + low) r with h6 | h6
    · have h7 : magS (q * 8388608 + (low + 1)) ≤ magS r := magS_le (by omega)
      rw [magS_at (by omega) (by omega)] at h7
      omega
    · exact h6
  rcases h5 with h5 | ⟨h5, _⟩ <;> omega
theorem near_le {N k r : Nat} (h : N * 2 ^ k ≤ magS r) : single.nearest false N (-149 + (k : Int)) ≤ r := by
  by_cases h0 : N = 0
  · subst h0; simp [Format.nearest, word_plus]
  obtain ⟨q, K, low, hn, h1, h2, h3, h4, h5⟩ := near_form N k h0
  rw [hn]
  refine Nat.le_trans (Nat.min_le_left _ _) ?_
  rcases h5 with rfl | ⟨rfl, h6⟩
  · rcases Nat.lt_or_ge r (q * 8388608 + K) with h7 | h7
    · have h8 := magS_lt h7
      rw [magS_at (by omega) h3] at h8
      omega
    · exact h7
  · rcases Nat.lt_or_ge r (q * 8388608 + (low + 1)) with h7 | h7
    · have h8 : magS r ≤ magS (q * 8388608 + low) := magS_le (by omega)
      rw [magS_at (by omega) h3] at h8
      omega
    · exact h7
theorem read_pos {r : Nat} (h : r < 2139095040) : ∃ m k : Nat, single.read r = .number false m (-149 + (k : Int)) ∧ m * 2 ^ k = magS r ∧ m < 16777216 := by
  by_cases h1 : r < 8388608
  · refine ⟨r, 0, ?_, ?_, by omega⟩
    · obtain ⟨hb, hi, hl, hs, hf⟩ := single_facts
      unfold Format.read
      simp only [hs, hb, hi, hl]
      rw [Nat.mod_eq_of_lt (by omega), if_pos h1]
      have e2 : (r / 2147483648 % 2 == 1) = false := by simp; omega
      rw [e2]; simp
    · unfold magS; rw [if_pos h1]; simp
  · refine ⟨8388608 + r % 8388608, r / 8388608 - 1, read_norm (by omega) h, ?_, by omega⟩
    unfold magS; rw [if_neg h1]
/-- The sum of two numbers that are not negative, by its digits. -/
theorem add_is {a b : Nat} (ha : a < 2139095040) (hb : b < 2139095040) : ∃ N e : Nat, floatBits .add .f32 a b = some (single.nearest false N (-149 + (e : Int))) ∧ N * 2 ^ e = magS a + magS b := by
  obtain ⟨m, k, h3, h4, h5⟩ := read_pos ha
  obtain ⟨n, q, h6, h7, h8⟩ := read_pos hb
  refine ⟨m * 2 ^ (k - min k q) + n * 2 ^ (q - min k q), min k q, ?_, ?_⟩
  · show ((single.read a).sum (single.read b)).map single.write = _
    rw [h3, h6]
    unfold Datum.sum
    simp only
    have e0 : min (-149 + (k : Int)) (-149 + (q : Int)) = -149 + ((min k q : Nat) : Int) := by omega
    rw [e0]
    have e1 : (-149 + (k : Int) - (-149 + ((min k q : Nat) : Int))).toNat = k - min k q := by omega
    have e2 : (-149 + (q : Int) - (-149 + ((min k q : Nat) : Int))).toNat = q - min k q := by omega
    rw [e1, e2]
    have e3 : signed false m (k - min k q) + signed false n (q - min k q) = ((m * 2 ^ (k - min k q) + n * 2 ^ (q - min k q) : Nat) : Int) := by
      rw [signed_sg, signed_sg]; simp [sg]
    rw [e3]
    generalize m * 2 ^ (k - min k q) + n * 2 ^ (q - min k q) = Z
    have e4 : (if ((Z : Nat) : Int) = 0 then false && false else decide (((Z : Nat) : Int) < 0)) = false := by split <;> simp <;> omega
    show some (single.write (.number (if ((Z : Nat) : Int) = 0 then false && false else decide (((Z : Nat) : Int) < 0)) ((Z : Nat) : Int).natAbs (-149 + ((min k q : Nat) : Int)))) = _
    rw [e4]; rfl
  · rw [Nat.add_mul, Nat.mul_assoc, Nat.mul_assoc, ← Nat.pow_add, ← Nat.pow_add, show k - min k q + min k q = k by omega, show q - min k q + min k q = q by omega, h4, h7]
theorem near_inf (N k : Nat) : single.nearest false N (-149 + (k : Int)) ≤ 2139095040 := by
  by_cases h0 : N = 0
  · subst h0; simp [Format.nearest, word_plus]
  obtain ⟨q, K, low, hn, _⟩ := near_form N k h0
  rw [hn]; exact Nat.min_le_right _ _
/-- A sum of two numbers that are not negative is no less than either. -/
theorem fadd_ge {a b : Nat} (ha : a < 2139095040) (hb : b < 2139095040) : a ≤ fop .add a b ∧ b ≤ fop .add a b ∧ fop .add a b ≤ 2139095040 := by
  obtain ⟨N, e, h1, h2⟩ := add_is ha hb
  have hr := near_inf N e
  have hnum : isN .f32 (single.nearest false N (-149 + (e : Int))) = false := by
    rcases Nat.lt_or_eq_of_le hr with h | h
    · exact finF_num (by omega)
    · rw [h]; decide +kernel
  rw [fop_is h1 hnum]
  exact ⟨near_ge (by omega) (by omega), near_ge (by omega) (by omega), hr⟩
end Go.Proofs.Ytglimhkpndfjgaa
/- The wells' series: the walks of both sides. -/
namespace Go.Proofs.Ytglimhkpndfjgaa
open Go.ChangeShapes Go.WideShapes Go.ChangeAt Go.RowKit
set_option linter.unusedVariables false
set_option linter.unusedSimpArgs false
attribute [local irreducible] Calls
theorem fle_norm {a b : Nat} (ha1 : 8388608 ≤ a) (ha2 : a < 2139095040) (hb1 : 8388608 ≤ b) (hb2 : b < 2139095040) : fle a b = decide (a ≤ b) := by
  unfold fle
  rw [show FloatKind.f32.format.order a b = Ieee.single.order a b from rfl, order_norm ha1 ha2 hb1 hb2, cmp_int]
  rcases Nat.lt_trichotomy a b with h | h | h
  · rw [if_pos (by omega), decide_eq_true (by omega)]; rfl
  · subst h; rw [if_neg (by omega), if_pos rfl]; simp
  · rw [if_neg (by omega), if_neg (by omega), decide_eq_false (by omega)]; rfl
theorem fgt_norm {a b : Nat} (ha1 : 8388608 ≤ a) (ha2 : a < 2139095040) (hb1 : 8388608 ≤ b) (hb2 : b < 2139095040) : fgt a b = decide (b < a) := by
  unfold fgt
  rw [show FloatKind.f32.format.order a b = Ieee.single.order a b from rfl, order_norm ha1 ha2 hb1 hb2, cmp_int]
  rcases Nat.lt_trichotomy a b with h | h | h
  · rw [if_pos (by omega), decide_eq_false (by omega)]; rfl
  · subst h; rw [if_neg (by omega), if_pos rfl]; simp
  · rw [if_neg (by omega), if_neg (by omega), decide_eq_true (by omega)]; rfl
theorem ln_end {u m : Nat} {z : Int} (h : (m : Int) = (u : Int) - z * 8388608) (h1 : 1061158912 ≤ m) (h2 : m < 1069547520) : lnE u = z ∧ lnM u = m := by
  have e : lnE u = z := by unfold lnE; omega
  refine ⟨e, ?_⟩
  unfold lnM; rw [e]; omega
theorem opr_half {m : Nat} (h1 : 16777216 ≤ m) (h2 : m < 2139095040) : Opr .quo m 1073741824 (m - 8388608) := Opr.told (hlf_bits h1 h2)
theorem opr_twice {m : Nat} (h1 : 8388608 ≤ m) (h2 : m < 2130706432) : Opr .mul m 1073741824 (m + 8388608) := Opr.told (dbl_bits h1 h2)
theorem fI_inc {z : Int} (h1 : -64 ≤ z) (h2 : z < 64) : Opr .add (fI z) 1065353216 (fI (z + 1)) := by
  have h := fI_add h1 h2
  have := Opr.of (op := .add) (a := fI z) (b := 1065353216) (j := 134) (by rw [h]; exact fI_mg (by omega) (by omega)) (by omega)
  rw [h] at this; exact this
theorem fI_dec {z : Int} (h1 : -64 < z) (h2 : z ≤ 64) : Opr .sub (fI z) 1065353216 (fI (z - 1)) := by
  have h := fI_sub h1 h2
  have := Opr.of (op := .sub) (a := fI z) (b := 1065353216) (j := 134) (by rw [h]; exact fI_mg (by omega) (by omega)) (by omega)
  rw [h] at this; exact this
set_option maxRecDepth 100000 in
set_option maxHeartbeats 1000000 in
theorem lnOf_any (u : Nat) (h1 : 562036736 ≤ u) (h2 : u ≤ 1568669696) (w : World) :
    Calls Try.prog 89 #[.float .f32 u] w fun e w' => e = .returned (.tuple #[.float .f32 (lnX u), .int .i64 0]) ∧ ∃ n, w' = w.drewN n := by
  obtain ⟨X, hX0⟩ : ∃ X, lnX u = X := ⟨_, rfl⟩
  rw [hX0]
  have t1 := fge_eq u 562036736
  have t2 := fgt_eq u 1568669696
  rw [fge_norm (by omega) (by omega) (by omega) (by omega), decide_eq_true (by omega)] at t1
  rw [fgt_norm (by omega) (by omega) (by omega) (by omega), decide_eq_false (by omega)] at t2
  go_enter Try.func89, Try.ntmps89
  go_wp2_with fail
  clear t1 t2
  go_loopw [4, 5] (fun y e wr => ∃ (m : Nat) (z : Int), y = .float .f32 m ∧ e = .float .f32 (fI z) ∧ (m : Int) = (u : Int) - z * 8388608 ∧ 0 ≤ z ∧ (z = 0 ∨ 1061158912 ≤ m) ∧ ∃ n, wr = w.drewN n) (fun y _ _ => (match y with | .float _ m => m | _ => 0))
  case atStart => exact ⟨u, 0, rfl, rfl, by omega, by omega, .inl rfl, 0, rfl⟩
  case round =>
    obtain ⟨m, z, rfl, rfl, hm, hz, hm2, n0, rfl⟩ := hrel
    have k1 := fge_eq m 1069547520
    rw [fge_norm (by omega) (by omega) (by omega) (by omega)] at k1
    by_cases hlt : 1069547520 ≤ m
    · rw [decide_eq_true hlt] at k1
      obtain ⟨o1, o2⟩ := opr_half (m := m) (by omega) (by omega)
      obtain ⟨o3, o4⟩ := fI_inc (z := z) (by omega) (by omega)
      go_wp2_with fail
      exact ⟨⟨m - 8388608, z + 1, rfl, rfl, by omega, by omega, .inr (by omega), n0, rfl⟩, by show m - 8388608 < m; omega⟩
    · rw [decide_eq_false hlt] at k1
      go_wp2_with fail
      clear k1
      go_loopw [4, 5] (fun y e wr => ∃ (m : Nat) (z : Int), y = .float .f32 m ∧ e = .float .f32 (fI z) ∧ (m : Int) = (u : Int) - z * 8388608 ∧ m < 1069547520 ∧ (0 < z → 1061158912 ≤ m) ∧ 562036736 ≤ m ∧ ∃ n, wr = w.drewN n) (fun y _ _ => (match y with | .float _ m => 1069547520 - m | _ => 0))
      case atStart => exact ⟨m, z, rfl, rfl, hm, by omega, by omega, by omega, n0, rfl⟩
      case round =>
        clear hm hz hm2 hlt
        obtain ⟨m, z, rfl, rfl, hm, hm1, hm2, hm3, n0, rfl⟩ := hrel
        have k1 := flt_eq m 1061158912
        rw [flt_norm (by omega) (by omega) (by omega) (by omega)] at k1
        by_cases hlt : m < 1061158912
        · rw [decide_eq_true hlt] at k1
          obtain ⟨o1, o2⟩ := opr_twice (m := m) (by omega) (by omega)
          obtain ⟨o3, o4⟩ := fI_dec (z := z) (by omega) (by omega)
          go_wp2_with fail
          exact ⟨⟨m + 8388608, z - 1, rfl, rfl, by omega, by omega, by omega, by omega, n0, rfl⟩, by show 1069547520 - (m + 8388608) < 1069547520 - m; omega⟩
        · rw [decide_eq_false hlt] at k1
          obtain ⟨q1, q2⟩ := ln_end hm (by omega) hm1
          have he := fI_mg (z := z) (by omega) (by omega)
          have hX : lnX u = lnS m (fI z) := by unfold lnX; rw [q1, q2]
          rw [hX0] at hX
          obtain ⟨a, b, t, q, q7, p1, p1q, p2, p2q, p3, tp, y, el, ⟨c1, r1⟩, ⟨c2, r2⟩, ⟨c3, r3⟩, ⟨c4, r4⟩, ⟨c5, r5⟩, ⟨c6, r6⟩, ⟨c7, r7⟩, ⟨c8, r8⟩, ⟨c9, r9⟩, ⟨c10, r10⟩, ⟨c11, r11⟩, ⟨c12, r12⟩, ⟨c13, r13⟩, ⟨c14, r14⟩⟩ := lnS_steps (m := m) (e := fI z) ⟨by omega, by omega⟩ he
          generalize lnS m (fI z) = R at *
          generalize fI z = E at *
          subst hX
          clear q1 q2 he hX0 hm hm1 hm2 hm3 hlt
          go_wp2_with fail
          go_ret2
          exact ⟨rfl, n0, rfl⟩
set_option maxRecDepth 100000 in
set_option maxHeartbeats 1000000 in
theorem expDown_any (u : Nat) (hu : Nrm u 127 134) (h2 : u ≤ 1117782016) (w : World) :
    Calls Try.prog 90 #[.float .f32 u] w fun e w' => e = .returned (.tuple #[.float .f32 (exX u), .int .i64 0]) ∧ ∃ n, w' = w.drewN n := by
  have h1 := hu.lo (by omega)
  have t1 := fge_eq u 0
  have t2 := fgt_eq u 1117782016
  rw [fge_zero (by omega)] at t1
  rw [fgt_norm h1 (by omega) (by omega) (by omega), decide_eq_false (by omega)] at t2
  obtain ⟨v, a, p, b, q, c, ⟨c1, r1⟩, ⟨c2, r2⟩, ⟨c3, r3⟩, ⟨c4, r4⟩, ⟨c5, r5⟩, ⟨c6, r6⟩, ⟨c7, r7⟩⟩ := exP_steps hu
  have hp := exP_pge hu
  have hx := exX_step hu
  generalize exX u = X at *
  generalize exP u = p0 at *
  go_enter Try.func90, Try.ntmps90
  go_wp2_with fail
  clear t1 t2 c1 r1 c2 r2 c3 r3 c4 r4 c5 r5 c6 r6 c7 r7
  go_loopw [5, 26] (fun y i wr => ∃ k : Nat, k ≤ 8 ∧ y = .float .f32 (sqN p0 k) ∧ i = .int .i64 k ∧ ∃ n, wr = w.drewN n) (fun _ i _ => 8 - (intOf i).toNat)
  case atStart => exact ⟨0, by omega, rfl, rfl, 0, rfl⟩
  case round =>
    obtain ⟨k, hk, rfl, rfl, n0, rfl⟩ := hrel
    have bk : (0 : Int) ≤ k := by omega
    by_cases hlt : k < 8
    · have bl : (k : Int) < 8 := by omega
      obtain ⟨o1, o2⟩ := sqN_step hp k
      go_wp2_with fail
      exact ⟨⟨k + 1, by omega, rfl, by go_num, n0, rfl⟩, by simp [intOf]; omega⟩
    · obtain rfl : k = 8 := by omega
      obtain ⟨c1, r1⟩ := hx
      go_wp2_with fail
      go_ret2
      exact ⟨rfl, n0, rfl⟩
theorem kE : ∀ j : Nat, j < 8 → fge (fI (8 - (j : Int))) 1065353216 = true ∧ Opr .sub (fI (8 - (j : Int))) 1065353216 (fI (8 - ((j + 1 : Nat) : Int))) ∧ fI (8 - ((j + 1 : Nat) : Int)) < fI (8 - (j : Int)) := by
  have h : ∀ j : Nat, j < 8 → fge (fI (8 - (j : Int))) 1065353216 = true ∧ floatBits .sub .f32 (fI (8 - (j : Int))) 1065353216 = some (fI (8 - ((j + 1 : Nat) : Int))) ∧ fI (8 - ((j + 1 : Nat) : Int)) < fI (8 - (j : Int)) := by decide +kernel
  intro j hj
  obtain ⟨a, b, c⟩ := h j hj
  exact ⟨a, Opr.told b, c⟩
set_option maxRecDepth 100000 in
set_option maxHeartbeats 1000000 in
theorem wellFunction_any (u : Nat) (h1 : 562036736 ≤ u) (h2 : u ≤ 1117782016) (w : World) :
    Calls Try.prog 87 #[.float .f32 u] w fun e w' => e = .returned (.tuple #[.float .f32 (wfX u), .int .i64 0]) ∧ ∃ n, w' = w.drewN n := by
  have t1 := fge_eq u 562036736
  have t2 := fgt_eq u 1117782016
  have t3 := fle_eq u 1065353216
  rw [fge_norm (by omega) (by omega) (by omega) (by omega), decide_eq_true (by omega)] at t1
  rw [fgt_norm (by omega) (by omega) (by omega) (by omega), decide_eq_false (by omega)] at t2
  rw [fle_norm (by omega) (by omega) (by omega) (by omega)] at t3
  by_cases hlow : u ≤ 1065353216
  · rw [decide_eq_true hlow] at t3
    have hln := fun w' => lnOf_any u h1 (by omega) w'
    have hu : Mg u 127 := by unfold Mg; rw [Nat.mod_eq_of_lt (by omega)]; omega
    obtain ⟨a, x1, b, x2, c, x3, d, ⟨c1, r1⟩, ⟨c2, r2⟩, ⟨c3, r3⟩, ⟨c4, r4⟩, ⟨c5, r5⟩, ⟨c6, r6⟩, ⟨c7, r7⟩, ⟨c8, r8⟩⟩ := wfH_steps hu
    obtain ⟨y, z, ⟨c9, r9⟩, ⟨c10, r10⟩, ⟨c11, r11⟩⟩ := wfX_low h1 hlow
    generalize wfX u = X at *
    generalize wfH u = H at *
    generalize lnX u = L at *
    go_enter Try.func87, Try.ntmps87
    go_wp2_with (go_at_call 89; refine (hln _).mono ?_; rintro e w' ⟨rfl, n0, rfl⟩)
    go_ret2
    exact ⟨rfl, n0, rfl⟩
  · rw [decide_eq_false hlow] at t3
    obtain ⟨hu, c1, r1⟩ := wfX_high (by omega) h2
    have hex := fun w' => expDown_any u hu h2 w'
    have HS := Lib.hid fun k (hk : k < 8) => wfI_step hu hk
    generalize wfX u = X at *
    generalize exX u = E at *
    have k0 : (1090519040 : Nat) = fI (8 - ((0 : Nat) : Int)) := by decide +kernel
    go_enter Try.func87, Try.ntmps87
    go_wp2_with fail
    clear t1 t2 t3
    go_loopw [7, 8] (fun f k wr => ∃ j : Nat, j ≤ 8 ∧ f = .float .f32 (wfI u j) ∧ k = .float .f32 (fI (8 - (j : Int))) ∧ ∃ n, wr = w.drewN n) (fun f k _ => (match k with | .float _ m => m | _ => 0))
    case atStart => exact ⟨0, by omega, rfl, by rw [← k0], 0, rfl⟩
    case round =>
      obtain ⟨j, hj, rfl, rfl, n0, rfl⟩ := hrel
      by_cases hlt : j < 8
      · obtain ⟨d1, d2, d3⟩ := kE j hlt
        have t1 := fge_eq (fI (8 - (j : Int))) 1065353216
        rw [d1] at t1
        obtain ⟨d4, d5⟩ := d2
        obtain ⟨a, b, c, ⟨o1, o2⟩, ⟨o3, o4⟩, ⟨o5, o6⟩, ⟨o7, o8⟩⟩ := HS.out j hlt
        go_wp2_with fail
        exact ⟨⟨j + 1, by omega, rfl, rfl, n0, rfl⟩, d3⟩
      · obtain rfl : j = 8 := by omega
        have t1 := fge_eq (fI (8 - ((8 : Nat) : Int))) 1065353216
        rw [show fge (fI (8 - ((8 : Nat) : Int))) 1065353216 = false by decide +kernel] at t1
        go_wp2_with (go_at_call 90; refine (hex _).mono ?_; rintro e w' ⟨rfl, n1, rfl⟩)
        go_ret2
        exact ⟨rfl, _, rfl⟩
end Go.Proofs.Ytglimhkpndfjgaa
/- The permits' rates, scaled; marks that a caller leaves in a list: the walks that FnExactScaledPermits needs. -/
namespace Go.Proofs.Ytglimhkpndfjgaa
open Go.ChangeShapes Go.WideShapes Go.ChangeAt Go.RowKit
set_option linter.unusedVariables false

theorem Own.setCell {w : World} {g : Nat} {e : TypeId} {s : Nat} {v : Value} {n : Nat} {xs : List Value} (h : Own w g e s v n xs) (j : Nat) (u : Value) : Own (w.setCell ⟨g, j, none⟩ u) g e s v n (xs.set j u) := by
  obtain ⟨h1, cap, cur, rfl, hb, h2, h3, h4, h5⟩ := h
  refine ⟨by simpa using h1, cap, _, rfl, hb.setCell j u, h2, h3, by simpa using h4, ?_⟩
  have hle : n * s ≤ cur.size := by rw [h4]; exact Nat.mul_le_mul_right s h2
  rw [Array.toList_setIfInBounds, ← h5]
  apply List.ext_getElem?
  intro i
  simp only [List.getElem?_take, List.getElem?_set, List.length_take, Array.length_toList]
  by_cases hi : i < n * s
  · by_cases hj : j = i
    · subst hj; simp [hi, show j < cur.size by omega]; omega
    · simp [hi, hj]
  · by_cases hj : j = i
    · subst hj; simp [hi]; omega
    · simp [hi, hj]
theorem own_full {w : World} {g : Nat} {e : TypeId} {s n : Nat} {xs : List Value} (h : Own w g e s (.slice (some ⟨g, 0, none⟩) n n) n xs) : Blk w g xs.toArray e := by
  obtain ⟨h1, cap, cur, hv, hb, h2, h3, h4, h5⟩ := h
  have hc : cap = n := by injection hv with _ _ h; exact h.symm
  subst hc
  rw [← h5, List.take_of_length_le (by simp [h4])]
  exact hb

/-- P with another permit at i. -/
def updP (P : Nat → Pm) (i : Nat) (p : Pm) : Nat → Pm := fun j => if j = i then p else P j
theorem updP_same (P : Nat → Pm) (i : Nat) (p : Pm) : updP P i p i = p := by simp [updP]
theorem updP_other (P : Nat → Pm) (i : Nat) (p : Pm) (j : Nat) (h : j ≠ i) : updP P i p j = P j := by simp [updP, h]
theorem pls_set (n : Nat) (P : Nat → Pm) (i c : Nat) (u : Value) (p : Pm) (hi : i < n) (hc : c < 3) (hp : (P i).cells.toList.set c u = p.cells.toList) : (pls n P).set (i * 3 + c) u = pls n (updP P i p) := by
  apply List.ext_getElem?
  intro j
  by_cases hj : j < n * 3
  · obtain ⟨k, d, hd, rfl⟩ : ∃ k d, d < 3 ∧ j = k * 3 + d := ⟨j / 3, j % 3, Nat.mod_lt _ (by decide), by omega⟩
    have hk : k < n := by omega
    rw [pls_get n _ k d hk hd, List.getElem?_set, pls_length]
    by_cases hki : k = i
    · subst hki
      rw [updP_same]
      have := congrArg (fun l : List Value => l[d]?) hp
      simp only [List.getElem?_set, Array.getElem?_toList, Array.length_toList, Pm.cells_size] at this
      rw [← this]
      by_cases hcd : c = d
      · subst hcd; simp [hc, hj]
      · rw [if_neg (by omega), if_neg hcd, pls_get n P k d hk hd]
    · rw [updP_other P i p k hki, if_neg (by omega), pls_get n P k d hk hd]
  · rw [List.getElem?_eq_none (by simp [pls_length]; omega), List.getElem?_eq_none (by simp [pls_length]; omega)]

/-- Nothing but block g has turned. -/
structure Only (g : Nat) (w w' : World) : Prop where
  os : w'.os = w.os
  tape : w'.tape = w.tape
  output : w'.output = w.output
  size : w'.heap.size = w.heap.size
  block : ∀ b, b ≠ g → w'.heap[b]? = w.heap[b]?
theorem Only.refl (g : Nat) (w : World) : Only g w w := ⟨rfl, rfl, rfl, rfl, fun _ _ => rfl⟩
theorem Only.setCell {g : Nat} {w w' : World} (h : Only g w w') (j : Nat) (u : Value) : Only g w (w'.setCell ⟨g, j, none⟩ u) :=
  ⟨h.os, h.tape, h.output, by rw [← h.size]; simp [World.setCell], fun b hb => (heap_setCell_other w' ⟨g, j, none⟩ b u hb).trans (h.block b hb)⟩
theorem Only.drew {g : Nat} {w w' : World} (h : Only g w w') : Only g w w'.drew := ⟨h.os, h.tape, h.output, h.size, h.block⟩
theorem Only.drewN {g : Nat} {w w' : World} (h : Only g w w') (k : Nat) : Only g w (w'.drewN k) := ⟨h.os, h.tape, h.output, h.size, h.block⟩
theorem below_only {B g : Nat} {w0 w w' : World} (h : Below B w0 w) (ho : Only g w w') (hg : B ≤ g) : Below B w0 w' :=
  ⟨ho.os.trans h.os, ho.tape.trans h.tape, ho.output.trans h.output, by rw [ho.size]; exact h.size, fun b hb => (ho.block b (by omega)).trans (h.block b hb)⟩

/-- The marks that a list's cells get, from m on. -/
def markP (m : Int) (i : Nat) : Pm := ⟨IntKind.i8.wrap (m + 3 * i), IntKind.i8.wrap (m + 3 * i + 1), IntKind.i16.wrap (m + 3 * i + 2)⟩
/-- .. after k rounds. -/
def marked (m : Int) (P : Nat → Pm) (k : Nat) : Nat → Pm := fun i => if i < k then markP m i else P i

/-- The rate of a permit, scaled. -/
def scl (pc : Int) (p : Pm) : Pm := ⟨p.own, p.cel, p.rat * pc / 100⟩
def scaledTo (pc : Int) (P : Nat → Pm) (k : Nat) : Nat → Pm := fun i => if i < k then scl pc (P i) else P i
/-- What both functions return: how many permits, which, and the code. -/
def scN (n : Nat) (P : Nat → Pm) (pc : Int) : Nat := if ratesAre n P && (decide (0 ≤ pc) && decide (pc ≤ 100)) then n else 0
def scC (n : Nat) (P : Nat → Pm) (pc : Int) : Int := if ratesAre n P then (if decide (0 ≤ pc) && decide (pc ≤ 100) then 0 else 2) else 1
theorem rates_bd {n : Nat} {P : Nat → Pm} (h : ratesAre n P = true) : n ≤ 6 ∧ ∀ i, i < n → 0 ≤ (P i).rat ∧ (P i).rat ≤ 400 := by
  simp [ratesAre] at h
  refine ⟨h.1, fun i hi => ?_⟩
  have h2 := anyTo_false.1 h.2 i hi
  simp [badRate] at h2
  omega

end Go.Proofs.Ytglimhkpndfjgaa
/- Numbers of single precision: plain laws; no statement is proved here. -/
namespace Go.Proofs.Ytglimhkpndfjgaa
open Go.ChangeShapes Go.WideShapes Go.ChangeAt Go.RowKit Ieee
set_option linter.unusedVariables false
set_option linter.unusedSimpArgs false

theorem run_widen_numW {P : Program} (src dst : TypeId) (b : Nat) (hs : P.underlying src = some (.float .f32)) (hd : P.underlying dst = some (.float .f64)) (h : isN .f32 b = false) (w : World) : (convert src dst (.float .f32 b)).run P w = .ok (.float .f64 (widen b)) w := by
  rw [run_convert_widen w src dst b hs hd]
  have h1 : fwid b w = widen b := by unfold fwid; rw [h]; rfl
  have h2 : wcnt b = 0 := by unfold wcnt; rw [h]; rfl
  rw [h1, h2, World.drewN_zero]
theorem read_f32W (b : Nat) : FloatKind.f32.format.read b = single.read b := rfl
theorem isN_wordW (s : Bool) (r : Nat) (h : r ≤ 2139095040) : isN .f32 (single.word s r) = false := by
  obtain ⟨hb, hi, hl, hs, hf⟩ := single_facts
  unfold isN
  rw [read_f32W, read_word _ _ _ (by rw [hs]; omega), hb, hi, hl]
  split
  · rfl
  · split
    · rfl
    · rw [if_pos (by omega)]; rfl
theorem isN_nearestW (s : Bool) (m : Nat) (e : Int) : isN .f32 (single.nearest s m e) = false := by
  unfold Format.nearest
  split
  · exact isN_wordW _ _ (by omega)
  · exact isN_wordW _ _ (Nat.min_le_right _ _)
theorem plain_numW {a : Nat} (h : plain a = true) : isN .f32 a = false := by
  unfold plain at h; exact fge_num (Bool.and_eq_true_iff.1 h).1
end Go.Proofs.Ytglimhkpndfjgaa
/- Wells in memory: lists of them, marks that a caller leaves in a list. Plain laws and the walks of the law's own functions. -/
namespace Go.Proofs.Ytglimhkpndfjgaa
open Go.ChangeShapes Go.WideShapes Go.ChangeAt Go.RowKit
set_option linter.unusedVariables false

/-- A well's place and the bits of its rate. -/
structure Wl where
  px : Int
  py : Int
  rt : Nat
@[irreducible] def Wl.cells (p : Wl) : Array Value := #[.int .i8 p.px, .int .i8 p.py, .float .f32 p.rt]
theorem Wl.cells_eq (p : Wl) : p.cells = #[.int .i8 p.px, .int .i8 p.py, .float .f32 p.rt] := by unfold Wl.cells; rfl
theorem Wl.cells_size (p : Wl) : p.cells.size = 3 := by rw [p.cells_eq]; rfl
theorem Wl.get0 (p : Wl) : p.cells[0]? = some (.int .i8 p.px) := by rw [p.cells_eq]; rfl
theorem Wl.get1 (p : Wl) : p.cells[1]? = some (.int .i8 p.py) := by rw [p.cells_eq]; rfl
theorem Wl.get2 (p : Wl) : p.cells[2]? = some (.float .f32 p.rt) := by rw [p.cells_eq]; rfl
theorem Wl.one (p : Wl) : ∀ v ∈ p.cells.toList, v.oneCell' = true := by
  intro v hv; rw [p.cells_eq] at hv; simp at hv; rcases hv with rfl | rfl | rfl <;> rfl
/-- n permits, one behind the other. -/
@[irreducible] def lws (n : Nat) (P : Nat → Wl) : List Value := (List.range n).flatMap fun i => (P i).cells.toList
theorem lws_zero (P : Nat → Wl) : lws 0 P = [] := by simp [lws]
theorem lws_succ (n : Nat) (P : Nat → Wl) : lws (n + 1) P = lws n P ++ (P n).cells.toList := by simp [lws, List.range_succ, List.flatMap_append]
theorem lws_length (n : Nat) (P : Nat → Wl) : (lws n P).length = n * 3 := by
  induction n with
  | zero => simp [lws_zero]
  | succ n ih => rw [lws_succ, List.length_append, ih]; simp [Wl.cells_size]; omega
theorem lws_congr {P P' : Nat → Wl} : ∀ {n : Nat}, (∀ i, i < n → P i = P' i) → lws n P = lws n P'
  | 0, _ => by rw [lws_zero, lws_zero]
  | n + 1, h => by rw [lws_succ, lws_succ, lws_congr (fun i hi => h i (by omega)), h n (by omega)]
theorem lws_get (n : Nat) (P : Nat → Wl) (i c : Nat) (h : i < n) (hc : c < 3) : (lws n P)[i * 3 + c]? = (P i).cells[c]? := by
  induction n with
  | zero => omega
  | succ n ih =>
    rw [lws_succ, List.getElem?_append, lws_length]
    by_cases hi : i < n
    · rw [if_pos (by omega), ih hi]
    · obtain rfl : i = n := by omega
      rw [if_neg (by omega), show i * 3 + c - i * 3 = c by omega]; simp
theorem lws_one (n : Nat) (P : Nat → Wl) : ∀ v ∈ lws n P, v.oneCell' = true := by
  intro v hv; unfold lws at hv; simp only [List.mem_flatMap] at hv; obtain ⟨i, _, hi⟩ := hv; exact (P i).one v hi
theorem lws_drop (n : Nat) (P : Nat → Wl) (k : Nat) (h : k < n) : ((lws n P).drop (k * 3)).take 3 = (P k).cells.toList := by
  apply List.ext_getElem?
  intro c
  rw [List.getElem?_take]
  by_cases hc : c < 3
  · rw [if_pos hc, List.getElem?_drop, lws_get n P k c h hc]; simp
  · rw [if_neg hc, List.getElem?_eq_none]; simp [Wl.cells_size]; omega

/-- The slice v holds n permits, P. -/
def LSl (w : World) (v : Value) (n : Nat) (P : Nat → Wl) : Prop :=
  ∃ a cap, v = .slice a n cap ∧ n ≤ cap ∧ cap ≤ maxLen ∧ (n = 0 ∨ ∃ b o, a = some ⟨b, o, none⟩ ∧ b < w.heap.size ∧ ∀ i c, i < n → c < 3 → w.cell? ⟨b, o + i * 3 + c, none⟩ = (P i).cells[c]?)
theorem LSl.below {w w' : World} {v : Value} {n : Nat} {P : Nat → Wl} (h : LSl w v n P) (hb : Below w.heap.size w w') : LSl w' v n P := by
  obtain ⟨a, cap, rfl, h1, h2, h3⟩ := h
  refine ⟨a, cap, rfl, h1, h2, ?_⟩
  rcases h3 with h3 | ⟨b, o, rfl, hlt, hc⟩
  · exact .inl h3
  · exact .inr ⟨b, o, rfl, Nat.lt_of_lt_of_le hlt hb.size, fun i c hi h3 => (hb.cell (p := ⟨b, _, none⟩) hlt).trans (hc i c hi h3)⟩
theorem Own.lsl {w : World} {g : Nat} {e : TypeId} {v : Value} {n : Nat} {P : Nat → Wl} (h : Own w g e 3 v n (lws n P)) : LSl w v n P := by
  obtain ⟨cap, rfl, h1, h2⟩ := h.form
  exact ⟨_, cap, rfl, h1, h2, .inr ⟨g, 0, rfl, h.lt, fun i c hi hc => by rw [Nat.zero_add, h.cell _ (by omega), lws_get n P i c hi hc]⟩⟩

theorem rowWl : RowTy Try.prog 30 3 := ⟨_, Try.underlying30, rfl, by kernel_rfl⟩
theorem sizeWl : (Try.prog.info? 30).map (·.size) = some 3 := by kernel_rfl
theorem isN_int' (n : Int) : isN .f32 (floatOfInt .f32 n) = false := by
  unfold floatOfInt FloatKind.nearest FloatKind.encode Ieee.Format.write
  exact isN_nearestW _ _ _
/-- P with another permit at i. -/
def updL (P : Nat → Wl) (i : Nat) (p : Wl) : Nat → Wl := fun j => if j = i then p else P j
theorem updL_same (P : Nat → Wl) (i : Nat) (p : Wl) : updL P i p i = p := by simp [updL]
theorem updL_other (P : Nat → Wl) (i : Nat) (p : Wl) (j : Nat) (h : j ≠ i) : updL P i p j = P j := by simp [updL, h]
theorem wls_set (n : Nat) (P : Nat → Wl) (i c : Nat) (u : Value) (p : Wl) (hi : i < n) (hc : c < 3) (hp : (P i).cells.toList.set c u = p.cells.toList) : (lws n P).set (i * 3 + c) u = lws n (updL P i p) := by
  apply List.ext_getElem?
  intro j
  by_cases hj : j < n * 3
  · obtain ⟨k, d, hd, rfl⟩ : ∃ k d, d < 3 ∧ j = k * 3 + d := ⟨j / 3, j % 3, Nat.mod_lt _ (by decide), by omega⟩
    have hk : k < n := by omega
    rw [lws_get n _ k d hk hd, List.getElem?_set, lws_length]
    by_cases hki : k = i
    · subst hki
      rw [updL_same]
      have := congrArg (fun l : List Value => l[d]?) hp
      simp only [List.getElem?_set, Array.getElem?_toList, Array.length_toList, Wl.cells_size] at this
      rw [← this]
      by_cases hcd : c = d
      · subst hcd; simp [hc, hj]
      · rw [if_neg (by omega), if_neg hcd, lws_get n P k d hk hd]
    · rw [updL_other P i p k hki, if_neg (by omega), lws_get n P k d hk hd]
  · rw [List.getElem?_eq_none (by simp [lws_length]; omega), List.getElem?_eq_none (by simp [lws_length]; omega)]

/-- A list of permits that a call has made, or none. -/
def ResW (w : World) (g : Nat) (v : Value) (n : Nat) (P : Nat → Wl) : Prop := (n = 0 ∧ ∃ a cap, v = .slice a 0 cap ∧ cap ≤ maxLen) ∨ Own w g 30 3 v n (lws n P)
theorem ResW.wsl {w : World} {g : Nat} {v : Value} {n : Nat} {P : Nat → Wl} (h : ResW w g v n P) : LSl w v n P := by
  rcases h with ⟨rfl, a, cap, rfl, h⟩ | h
  · exact ⟨a, cap, rfl, Nat.zero_le _, h, .inl rfl⟩
  · exact h.lsl
theorem ResW.below {w w' : World} {g : Nat} {v : Value} {n : Nat} {P : Nat → Wl} (h : ResW w g v n P) (hb : Below w.heap.size w w') : ResW w' g v n P := by
  rcases h with h | h
  · exact .inl h
  · exact .inr (h.below hb h.lt)
theorem ResW.only {w w' : World} {g k : Nat} {v : Value} {n : Nat} {P : Nat → Wl} (h : ResW w g v n P) (hb : Only k w w') (hk : n = 0 ∨ g ≠ k) : ResW w' g v n P := by
  rcases h with h | h
  · exact .inl h
  · rcases hk with rfl | hk
    · obtain ⟨cap, rfl, _, hc⟩ := h.form
      exact .inl ⟨rfl, _, cap, rfl, hc⟩
    · exact .inr (h.move (hb.block g hk))
theorem ResW.ne {w : World} {g : Nat} {v : Value} {n : Nat} {P : Nat → Wl} (h : ResW w g v n P) {k : Nat} (hk : w.heap.size ≤ k) : n = 0 ∨ g ≠ k := by
  rcases h with h | h
  · exact .inl h.1
  · have := h.lt; exact .inr (by omega)

def markL (m : Int) (i : Nat) : Wl := ⟨IntKind.i8.wrap (m + 3 * i), IntKind.i8.wrap (m + 3 * i + 1), (floatOfInt .f32 (m + 3 * i + 2))⟩
/-- .. after k rounds. -/
def markedL (m : Int) (P : Nat → Wl) (k : Nat) : Nat → Wl := fun i => if i < k then markL m i else P i

end Go.Proofs.Ytglimhkpndfjgaa
