import Derived.Test.YtdnnjahdcabdmaaGreatDoorMD08
/- Words of double precision as whole numbers of the least place; the nearest whole number. Plain laws on words; no statement is proved here. -/
namespace Go.Proofs.YtdnnjahdcabdmaaGreatDoor
open Ieee
set_option linter.unusedVariables false
set_option linter.unusedSimpArgs false

/-! ### Values, counted in the least place. -/
@[irreducible] def pw (k : Nat) : Nat := 2 ^ k
theorem pw_eq (k : Nat) : pw k = 2 ^ k := pw.eq_1 k
theorem pw_pos (k : Nat) : 0 < pw k := by rw [pw_eq]; exact Nat.two_pow_pos k
theorem pw_split {k n : Nat} (h : k ≤ n) : pw n = pw k * pw (n - k) := by rw [pw_eq, pw_eq, pw_eq, ← Nat.pow_add, Nat.add_sub_cancel' h]
def sg (s : Bool) (n : Nat) : Int := if s then -(n : Int) else (n : Int)
/-- A word stands for V of the format's least places. -/
def Val (f : Format) (b : Nat) (V : Int) : Prop := ∃ (s : Bool) (m k : Nat), f.read b = .number s m (f.leastPlace + k) ∧ V = sg s (m * 2 ^ k)
theorem sg_mul (s : Bool) (m k : Nat) : sg s (m * k) = sg s m * k := by unfold sg; cases s <;> simp [Int.neg_mul]
theorem signed_sg (s : Bool) (m u : Nat) : signed s m u = sg s (m * 2 ^ u) := by unfold signed sg; rw [Nat.shiftLeft_eq]
theorem compare_scale (a b : Int) (c : Nat) (hc : 0 < c) : compare (a * c) (b * c) = compare a b := by
  have h1 : (a * c < b * c) ↔ a < b := by
    constructor
    · intro h; exact Int.lt_of_mul_lt_mul_right h (by omega)
    · intro h; exact Int.mul_lt_mul_of_pos_right h (by omega)
  have h2 : (a * c = b * c) ↔ a = b := by
    constructor
    · intro h; exact Int.eq_of_mul_eq_mul_right (by omega) h
    · intro h; rw [h]
  show compareOfLessAndEq _ _ = compareOfLessAndEq _ _
  unfold compareOfLessAndEq
  simp only [h1, h2]
theorem order_val {f : Format} {a b : Nat} {x y : Int} (ha : Val f a x) (hb : Val f b y) : f.order a b = some (compare x y) := by
  obtain ⟨s, m, k, h1, rfl⟩ := ha
  obtain ⟨t, n, l, h2, rfl⟩ := hb
  unfold Format.order
  rw [h1, h2]
  simp only [Datum.order]
  congr 1
  rw [signed_sg, signed_sg]
  have e1 : (f.leastPlace + (k : Int) - min (f.leastPlace + (k : Int)) (f.leastPlace + (l : Int))).toNat = k - min k l := by omega
  have e2 : (f.leastPlace + (l : Int) - min (f.leastPlace + (k : Int)) (f.leastPlace + (l : Int))).toNat = l - min k l := by omega
  rw [e1, e2]
  rw [← compare_scale _ _ (2 ^ min k l) (Nat.two_pow_pos _), ← sg_mul, ← sg_mul, Nat.mul_assoc, Nat.mul_assoc, ← Nat.pow_add, ← Nat.pow_add, Nat.sub_add_cancel (Nat.min_le_left _ _), Nat.sub_add_cancel (Nat.min_le_right _ _)]
theorem cut_zero (s : Bool) (n d : Nat) : Toward.zero.cut s n d = n / 2 ^ d := by
  unfold Toward.cut
  simp only [Bool.toNat_false, Nat.add_zero, Nat.one_shiftLeft]
  by_cases h : d ≤ n.log2 + 2
  · rw [Nat.min_eq_left h]
  · rw [Nat.min_eq_right (by omega)]
    have h1 : n < 2 ^ (n.log2 + 2) := Nat.lt_of_lt_of_le Nat.lt_log2_self (Nat.pow_le_pow_right (by omega) (by omega))
    rw [Nat.div_eq_of_lt h1, Nat.div_eq_of_lt (Nat.lt_of_lt_of_le h1 (Nat.pow_le_pow_right (by omega) (by omega)))]
theorem tdiv_sg (s : Bool) (n d : Nat) : Int.tdiv (sg s n) d = sg s (n / d) := by
  unfold sg
  cases s
  · simp [Int.ofNat_tdiv]
  · simp [Int.neg_tdiv, Int.ofNat_tdiv]
theorem toInt_val {f : Format} {a : Nat} {x : Int} (T : Nat) (hT : f.leastPlace = -T) (ha : Val f a x) : (f.read a).toInt .zero = some (Int.tdiv x (pw T : Nat)) := by
  obtain ⟨s, m, k, h1, rfl⟩ := ha
  unfold Datum.toInt
  rw [h1, pw_eq, tdiv_sg]
  simp only [Datum.integral, cut_zero]
  congr 1
  rw [signed_sg, Nat.pow_zero, Nat.mul_one, hT]
  congr 1
  by_cases h : T ≤ k
  · rw [show (-(T : Int) + (k : Int)).toNat = k - T by omega, show (-(-(T : Int) + (k : Int))).toNat = 0 by omega, Nat.shiftLeft_eq, Nat.pow_zero, Nat.div_one]
    rw [show m * 2 ^ k = m * 2 ^ (k - T) * 2 ^ T by rw [Nat.mul_assoc, ← Nat.pow_add, Nat.sub_add_cancel h], Nat.mul_div_cancel _ (Nat.two_pow_pos _)]
  · rw [show (-(T : Int) + (k : Int)).toNat = 0 by omega, show (-(-(T : Int) + (k : Int))).toNat = T - k by omega, Nat.shiftLeft_zero]
    rw [show 2 ^ T = 2 ^ (T - k) * 2 ^ k by rw [← Nat.pow_add, Nat.sub_add_cancel (by omega)], Nat.mul_div_mul_right _ _ (Nat.two_pow_pos _)]
/-- The magnitude of a rung of double precision. -/
def magW (r : Nat) : Nat := if r < 4503599627370496 then r else (4503599627370496 + r % 4503599627370496) * 2 ^ (r / 4503599627370496 - 1)
theorem val_word (s : Bool) (r : Nat) (h : r < 9218868437227405312) : Val double (double.word s r) (sg s (magW r)) := by
  obtain ⟨hb, hi, hl, hs, hf⟩ := double_facts
  have := read_word double s r (by rw [hs]; omega)
  rw [hb, hi] at this
  by_cases h1 : r < 4503599627370496
  · rw [if_pos h1] at this
    exact ⟨s, r, 0, by rw [this]; simp, by unfold magW; rw [if_pos h1]; simp⟩
  · rw [if_neg h1, if_pos h] at this
    exact ⟨s, _, r / 4503599627370496 - 1, this, by unfold magW; rw [if_neg h1]⟩
/-- A number of so many digits is written as it is. -/
theorem nearest_exact (s : Bool) (m a c : Nat) (hm : m < 9007199254740992) (hac : a + c ≤ 2044) : ∃ r, double.nearest s (m * 2 ^ a) (-1074 + (c : Int)) = double.word s r ∧ r < 9218868437227405312 ∧ magW r = m * 2 ^ (a + c) := by
  obtain ⟨hb, hi, hl, hs, hf⟩ := double_facts
  by_cases h0 : m = 0
  · subst h0; exact ⟨0, by simp [Format.nearest], by omega, by simp [magW]⟩
  have hM0 : m * 2 ^ a ≠ 0 := Nat.ne_of_gt (Nat.mul_pos (by omega) (Nat.two_pow_pos _))
  have hL : m.log2 < 53 := (Nat.log2_lt h0).2 (by simpa using hm)
  have hlog : (m * 2 ^ a).log2 = m.log2 + a := by rw [← Nat.shiftLeft_eq]; exact log2_shl h0 a
  -- what is dropped is none: the last place is at most c + a
  obtain ⟨t, ht, htd⟩ : ∃ t : Nat, max (-1074 + (c : Int) + (m * 2 ^ a).log2 - double.fractionBits) double.leastPlace = -1074 + (t : Int) ∧ t ≤ a + c ∧ (t = 0 ∨ t + 52 = c + m.log2 + a) := by
    rw [hlog, hf, hl]
    by_cases hh : 52 ≤ c + m.log2 + a
    · exact ⟨c + m.log2 + a - 52, by omega, by omega, by omega⟩
    · exact ⟨0, by omega, by omega, by omega⟩
  have hk : Toward.even.cut s ((m * 2 ^ a) <<< ((-1074 + (c : Int)) - (-1074 + (t : Int))).toNat) ((-1074 + (t : Int)) - (-1074 + (c : Int))).toNat = m * 2 ^ (a + c - t) := by
    by_cases hct : t ≤ c
    · rw [show ((-1074 + (c : Int)) - (-1074 + (t : Int))).toNat = c - t by omega, show ((-1074 + (t : Int)) - (-1074 + (c : Int))).toNat = 0 by omega]
      have := cut_shl s ((m * 2 ^ a) <<< (c - t)) 0
      rw [Nat.shiftLeft_zero] at this
      rw [this, Nat.shiftLeft_eq, Nat.mul_assoc, ← Nat.pow_add]
      congr 2; omega
    · rw [show ((-1074 + (c : Int)) - (-1074 + (t : Int))).toNat = 0 by omega, show ((-1074 + (t : Int)) - (-1074 + (c : Int))).toNat = t - c by omega, Nat.shiftLeft_zero]
      have := cut_shl s (m * 2 ^ (a + c - t)) (t - c)
      rw [Nat.shiftLeft_eq, Nat.mul_assoc, ← Nat.pow_add, show a + c - t + (t - c) = a by omega] at this
      exact this
  have hn := nearest_of double s (m * 2 ^ a) (-1074 + (c : Int)) (-1074 + (t : Int)) _ hM0 ht hk
  rw [hb, hi, hl, show ((-1074 + (t : Int)) - -1074).toNat = t by omega] at hn
  have hKlog : (m * 2 ^ (a + c - t)).log2 = m.log2 + (a + c - t) := by rw [← Nat.shiftLeft_eq]; exact log2_shl h0 _
  have hK0 : m * 2 ^ (a + c - t) ≠ 0 := Nat.ne_of_gt (Nat.mul_pos (by omega) (Nat.two_pow_pos _))
  have hKlt : m * 2 ^ (a + c - t) < 9007199254740992 := by
    have := (Nat.log2_lt (k := 53) hK0).1 (by rw [hKlog]; omega)
    simpa using this
  have hmul : m * 2 ^ (a + c) = m * 2 ^ (a + c - t) * 2 ^ t := by rw [Nat.mul_assoc, ← Nat.pow_add, Nat.sub_add_cancel htd.1]
  rw [hmul]
  have hKge : t = 0 ∨ 4503599627370496 ≤ m * 2 ^ (a + c - t) := by
    rcases htd.2 with h | h
    · exact .inl h
    · right
      have := (Nat.le_log2 (k := 52) hK0).1 (by rw [hKlog]; omega)
      simpa using this
  generalize m * 2 ^ (a + c - t) = K at *
  rw [Nat.min_eq_left (by omega)] at hn
  refine ⟨_, hn, by omega, ?_⟩
  unfold magW
  rcases hKge with rfl | hge
  · simp only [Nat.zero_mul, Nat.zero_add, Nat.pow_zero, Nat.mul_one]
    by_cases h1 : K < 4503599627370496
    · rw [if_pos h1]
    · rw [if_neg h1, show K / 4503599627370496 - 1 = 0 by omega, Nat.pow_zero, Nat.mul_one]; omega
  · rw [if_neg (by omega), show (t * 4503599627370496 + K) / 4503599627370496 - 1 = t by omega, show 4503599627370496 + (t * 4503599627370496 + K) % 4503599627370496 = K by omega]
/-! ### To the nearest whole number, halves away from nought. -/
/-- One, counted in the least place of double precision. -/
def one64 : Nat := pw 1074
theorem one64_split (k : Nat) (h : k ≤ 1074) : one64 = pw k * pw (1074 - k) := pw_split h
def rnd (v : Nat) : Nat := (2 * v + one64) / (2 * one64)
theorem one64_pos : 0 < one64 := pw_pos _
theorem magW_ge {r : Nat} (h : 4503599627370496 ≤ r) : magW r = (4503599627370496 + r % 4503599627370496) * 2 ^ (r / 4503599627370496 - 1) := by unfold magW; rw [if_neg (by omega)]
theorem magW_lt (r E : Nat) (h : r / 4503599627370496 ≤ E + 1) : magW r < 9007199254740992 * pw E := by
  rw [pw_eq]
  have hp : 1 ≤ 2 ^ E := Nat.two_pow_pos _
  by_cases h1 : r < 4503599627370496
  · unfold magW; rw [if_pos h1]; omega
  · rw [magW_ge (by omega)]
    have h2 : 2 ^ (r / 4503599627370496 - 1) ≤ 2 ^ E := Nat.pow_le_pow_right (by omega) (by omega)
    calc _ < 9007199254740992 * 2 ^ (r / 4503599627370496 - 1) := Nat.mul_lt_mul_of_pos_right (by omega) (Nat.two_pow_pos _)
      _ ≤ _ := Nat.mul_le_mul_left _ h2
theorem rnd_small (r : Nat) (h : r / 4503599627370496 < 1022) : rnd (magW r) = 0 := by
  have h1 := magW_lt r (1074 - 54) (by omega)
  have h2 := one64_split 54 (by omega)
  unfold rnd
  apply Nat.div_eq_of_lt
  rw [show pw 54 = 18014398509481984 by rw [pw_eq]] at h2
  generalize pw (1074 - 54) = p at *
  omega
theorem rnd_half (r : Nat) (h : r / 4503599627370496 = 1022) : rnd (magW r) = 1 := by
  have h1 := magW_ge (r := r) (by omega)
  rw [← pw_eq, show r / 4503599627370496 - 1 = 1074 - 53 by omega] at h1
  have h2 := one64_split 53 (by omega)
  rw [show pw 53 = 9007199254740992 by rw [pw_eq]] at h2
  have hp : 0 < pw (1074 - 53) := pw_pos _
  unfold rnd
  generalize pw (1074 - 53) = p at *
  rw [h1, h2]
  have h3 : r % 4503599627370496 < 4503599627370496 := Nat.mod_lt _ (by decide)
  have h4 : (4503599627370496 + r % 4503599627370496) * p = 4503599627370496 * p + r % 4503599627370496 * p := Nat.add_mul _ _ _
  have h5 : r % 4503599627370496 * p ≤ 4503599627370495 * p := Nat.mul_le_mul_right _ (by omega)
  rw [Nat.div_eq_iff (by omega)]
  omega
/-- What is cut off a rung with a binade of e digits ahead of the point. -/
theorem rnd_mid (r e : Nat) (h : r / 4503599627370496 = 1023 + e) (he : e < 52) :
    magW ((r + 2 ^ (51 - e)) / 2 ^ (52 - e) * 2 ^ (52 - e)) = rnd (magW r) * one64 ∧ (r + 2 ^ (51 - e)) / 2 ^ (52 - e) * 2 ^ (52 - e) ≤ (1024 + e) * 4503599627370496 := by
  have h1 := magW_ge (r := r) (by omega)
  rw [h] at h1
  have hdm := Nat.div_add_mod r 4503599627370496
  have h3 : r % 4503599627370496 < 4503599627370496 := Nat.mod_lt _ (by decide)
  rw [h] at hdm
  generalize r % 4503599627370496 = f at *
  -- powers
  have hq : (2 : Nat) ^ (52 - e) = 2 * 2 ^ (51 - e) := by rw [show 52 - e = 51 - e + 1 by omega, Nat.pow_succ, Nat.mul_comm]
  have hB : 4503599627370496 = 2 ^ (52 - e) * 2 ^ e := by rw [← Nat.pow_add, show 52 - e + e = 52 by omega]
  have hone : one64 = 2 ^ (52 - e) * 2 ^ (1022 + e) := by rw [one64_split (52 - e) (by omega), show 1074 - (52 - e) = 1022 + e by omega, pw_eq, pw_eq]
  have hpq : 0 < 2 ^ (51 - e) := Nat.two_pow_pos _
  have hpe : 0 < 2 ^ e := Nat.two_pow_pos _
  have hpu : 0 < 2 ^ (1022 + e) := Nat.two_pow_pos _
  have hu1 : (2 : Nat) ^ (1023 + e) = 2 * 2 ^ (1022 + e) := by rw [show 1023 + e = 1022 + e + 1 by omega, Nat.pow_succ, Nat.mul_comm]
  -- the whole number
  have hN : rnd (magW r) = 2 ^ e + (f + 2 ^ (51 - e)) / 2 ^ (52 - e) := by
    unfold rnd
    rw [h1, hone, show 1023 + e - 1 = 1022 + e by omega]
    have e1 : 2 * ((4503599627370496 + f) * 2 ^ (1022 + e)) + 2 ^ (52 - e) * 2 ^ (1022 + e) = (2 ^ (52 - e) * 2 ^ e + (f + 2 ^ (51 - e))) * (2 * 2 ^ (1022 + e)) := by
      rw [← hB, hq]; simp only [Nat.add_mul, Nat.mul_add]; simp only [Nat.mul_assoc, Nat.mul_comm, Nat.mul_left_comm]; omega
    have e2 : 2 * (2 ^ (52 - e) * 2 ^ (1022 + e)) = 2 ^ (52 - e) * (2 * 2 ^ (1022 + e)) := by rw [Nat.mul_left_comm]
    rw [e1, e2, Nat.mul_div_mul_right _ _ (by omega), Nat.mul_add_div (by omega)]
  obtain ⟨F, hF⟩ : ∃ F, F = (f + 2 ^ (51 - e)) / 2 ^ (52 - e) := ⟨_, rfl⟩
  rw [← hF] at hN
  have hFle : F ≤ 2 ^ e := by
    rw [hF]
    have : (f + 2 ^ (51 - e)) / 2 ^ (52 - e) < 2 ^ e + 1 := by
      rw [Nat.div_lt_iff_lt_mul (by omega), Nat.add_mul, Nat.mul_comm (2 ^ e), ← hB]
      omega
    omega
  have hr' : (r + 2 ^ (51 - e)) / 2 ^ (52 - e) * 2 ^ (52 - e) = (1023 + e) * 4503599627370496 + F * 2 ^ (52 - e) := by
    rw [← hdm, Nat.add_assoc]
    have : 4503599627370496 * (1023 + e) + (f + 2 ^ (51 - e)) = 2 ^ (52 - e) * (2 ^ e * (1023 + e)) + (f + 2 ^ (51 - e)) := by rw [← Nat.mul_assoc, ← hB]
    rw [this, Nat.mul_add_div (by omega), ← hF, Nat.add_mul]
    congr 1
    rw [Nat.mul_comm (1023 + e), Nat.mul_comm _ (2 ^ (52 - e)), ← Nat.mul_assoc, ← hB]
  rw [hr', hN, hone]
  have hFB : F * 2 ^ (52 - e) ≤ 4503599627370496 := by
    have := Nat.mul_le_mul_right (2 ^ (52 - e)) hFle
    rw [Nat.mul_comm (2 ^ e), ← hB] at this
    exact this
  refine ⟨?_, by omega⟩
  rw [magW_ge (by omega)]
  by_cases hlt : F < 2 ^ e
  · have hFB2 : F * 2 ^ (52 - e) < 4503599627370496 := by
      have := Nat.mul_lt_mul_of_pos_right hlt (show 0 < 2 ^ (52 - e) by omega)
      rw [Nat.mul_comm (2 ^ e), ← hB] at this
      exact this
    generalize hG : F * 2 ^ (52 - e) = G at *
    rw [show ((1023 + e) * 4503599627370496 + G) % 4503599627370496 = G by omega, show ((1023 + e) * 4503599627370496 + G) / 4503599627370496 - 1 = 1022 + e by omega]
    rw [← Nat.mul_assoc, Nat.add_mul (2 ^ e), hG, Nat.mul_comm (2 ^ e), ← hB]
  · obtain rfl : F = 2 ^ e := by omega
    rw [Nat.mul_comm (2 ^ e), ← hB]
    rw [show ((1023 + e) * 4503599627370496 + 4503599627370496) % 4503599627370496 = 0 by omega, show ((1023 + e) * 4503599627370496 + 4503599627370496) / 4503599627370496 - 1 = 1023 + e by omega, Nat.add_zero]
    rw [hu1, ← Nat.mul_assoc, ← Nat.mul_assoc, Nat.add_mul, Nat.mul_comm (2 ^ e), ← hB]

end Go.Proofs.YtdnnjahdcabdmaaGreatDoor
/- A hundred times a head, and its nearest whole number cut to sixteen bits. Plain laws on words; no statement is proved here. -/
namespace Go.Proofs.YtdnnjahdcabdmaaGreatDoor
open Go.ChangeShapes Go.WideShapes Go.ChangeAt Go.RowKit Ieee
set_option linter.unusedVariables false
set_option linter.unusedSimpArgs false

theorem pw_le {a b : Nat} (h : a ≤ b) : pw a ≤ pw b := by rw [pw_eq, pw_eq]; exact Nat.pow_le_pow_right (by omega) h
theorem cmp_int (a b : Int) : compare a b = if a < b then .lt else if a = b then .eq else .gt := rfl
theorem order_ge {f : Format} {a b : Nat} {x y : Int} (ha : Val f a x) (hb : Val f b y) : (f.order a b == some .gt || f.order a b == some .eq) = decide (y ≤ x) := by
  rw [order_val ha hb, cmp_int]
  by_cases h1 : x < y
  · rw [if_pos h1, decide_eq_false (by omega)]; rfl
  · rw [if_neg h1, decide_eq_true (by omega)]
    by_cases h2 : x = y
    · rw [if_pos h2]; rfl
    · rw [if_neg h2]; rfl
theorem order_le {f : Format} {a b : Nat} {x y : Int} (ha : Val f a x) (hb : Val f b y) : (f.order a b == some .lt || f.order a b == some .eq) = decide (x ≤ y) := by
  rw [order_val ha hb, cmp_int]
  by_cases h1 : x < y
  · rw [if_pos h1, decide_eq_true (by omega)]; rfl
  · rw [if_neg h1]
    by_cases h2 : x = y
    · rw [if_pos h2, decide_eq_true (by omega)]; rfl
    · rw [if_neg h2, decide_eq_false (by omega)]; rfl
theorem val_num {b : Nat} {s : Bool} {m k : Nat} (h : single.read b = .number s m (-149 + (k : Int))) : Val single b (sg s (m * 2 ^ k)) := ⟨s, m, k, by rw [h]; rfl, rfl⟩
/-- What a plain number's bits are. -/
theorem plain_form {b : Nat} (h : plain b = true) : ∃ (s : Bool) (m k : Nat), single.read b = .number s m (-149 + (k : Int)) ∧ m < 16777216 ∧ m * 2 ^ k ≤ pw 169 := by
  unfold plain fge fle at h
  rw [Bool.and_eq_true] at h
  obtain ⟨h1, h2⟩ := h
  have c1 : Val single 3380609024 (sg true (8388608 * 2 ^ 146)) := ⟨true, 8388608, 146, by decide, rfl⟩
  have c2 : Val single 1233125376 (sg false (8388608 * 2 ^ 146)) := ⟨false, 8388608, 146, by decide, rfl⟩
  have e1 : single.read 3380609024 = .number true 8388608 (-3) := by decide
  have e2 : single.read 1233125376 = .number false 8388608 (-3) := by decide
  change (single.order b 3380609024 == some .gt || single.order b 3380609024 == some .eq) = true at h1
  change (single.order b 1233125376 == some .lt || single.order b 1233125376 == some .eq) = true at h2
  cases hr : single.read b with
  | nan s f => unfold Format.order at h1; rw [hr] at h1; cases h1
  | infinity s =>
    unfold Format.order at h1 h2; rw [hr, e1] at h1; rw [hr, e2] at h2
    cases s
    · cases h2
    · cases h1
  | number s m e =>
    obtain ⟨q1, q2, q3⟩ := single_range hr
    have he : e = -149 + ((e + 149).toNat : Int) := by omega
    rw [he] at hr
    have hv := val_num hr
    rw [order_ge hv c1] at h1
    rw [order_le hv c2] at h2
    have h1 := of_decide_eq_true h1
    have h2 := of_decide_eq_true h2
    rw [he]
    refine ⟨s, m, _, rfl, q1, ?_⟩
    have hp : pw 169 = 8388608 * 2 ^ 146 := by rw [pw_eq]
    rw [hp]
    unfold sg at h1 h2
    generalize m * 2 ^ (e + 149).toNat = X at *
    cases s
    · simp only [Bool.false_eq_true, if_false] at h2
      exact Int.ofNat_le.1 h2
    · simp only [if_true] at h1
      exact Int.ofNat_le.1 (by omega)
/-- A hundred times a plain head: a finite word, not too great. -/
theorem hundred_word {b : Nat} (h : plain b = true) : ∃ (s : Bool) (r : Nat), floatBits .mul .f64 4636737291354636288 (widen b) = some (double.word s r) ∧ r < 9218868437227405312 ∧ magW r ≤ 104857600 * one64 := by
  obtain ⟨s, m, k, hr, hm, hle⟩ := plain_form h
  have hn : isN .f32 b = false := by unfold isN; show (single.read b).isNaN = false; rw [hr]; rfl
  have hw : widen b = double.nearest s m (-149 + (k : Int)) := by
    unfold widen; rw [hn]
    show double.write (single.read b) = _
    rw [hr]; rfl
  have hc : double.read 4636737291354636288 = .number false 7036874417766400 (-46) := by decide
  show ∃ (s' : Bool) (r : Nat), ((double.read 4636737291354636288).product (double.read (widen b))).map double.write = some (double.word s' r) ∧ _
  rw [hc, hw]
  by_cases h0 : m = 0
  · subst h0
    have e1 : double.nearest s 0 (-149 + (k : Int)) = double.word s 0 := by simp [Format.nearest]
    have e2 : double.read (double.word s 0) = .number s 0 (-1074) := by cases s <;> decide
    rw [e1, e2]
    refine ⟨false ^^ s, 0, ?_, by omega, by simp [magW]⟩
    show some (double.nearest (false ^^ s) (7036874417766400 * 0) (-46 + -1074)) = _
    simp [Format.nearest]
  · obtain ⟨r0, h1, h2, h3⟩ := read_widen hr h0
    have hL : m.log2 < 24 := (Nat.log2_lt h0).2 (by omega)
    have hk : k ≤ 169 := by
      have : 2 ^ k ≤ 2 ^ 169 := by rw [← pw_eq 169]; exact Nat.le_trans (Nat.le_mul_of_pos_left _ (by omega)) hle
      exact (Nat.pow_le_pow_iff_right (by omega)).1 this
    rw [h1, h3]
    obtain ⟨r, g1, g2, g3⟩ := nearest_exact (false ^^ s) (25 * m) (100 - m.log2) (827 + k + m.log2) (by omega) (by omega)
    refine ⟨false ^^ s, r, ?_, g2, ?_⟩
    · show some (double.nearest (false ^^ s) (7036874417766400 * (m <<< (52 - m.log2))) (-46 + (-149 + (k : Int) - (52 - m.log2 : Nat)))) = _
      rw [← g1]
      congr 2
      · rw [Nat.shiftLeft_eq, show 100 - m.log2 = 48 + (52 - m.log2) by omega, Nat.pow_add, ← Nat.mul_assoc, ← Nat.mul_assoc]
        congr 1
        rw [show (2 : Nat) ^ 48 = 281474976710656 by decide]; omega
      · omega
    · rw [g3, show 100 - m.log2 + (827 + k + m.log2) = k + 927 by omega, Nat.pow_add, ← Nat.mul_assoc, Nat.mul_assoc 25, ← pw_eq 927]
      have e1 : pw 1096 = pw 169 * pw 927 := pw_split (by omega)
      have e2 : pw 1096 = pw 22 * one64 := pw_split (by omega)
      have e3 : pw 22 = 4194304 := by rw [pw_eq]
      rw [e3] at e2
      have e4 : m * 2 ^ k * pw 927 ≤ pw 169 * pw 927 := Nat.mul_le_mul_right _ hle
      rw [← e1, e2] at e4
      rw [Nat.mul_assoc]
      omega
/-- The nearest whole number, cut to sixteen bits. -/
def lgv (s : Bool) (r : Nat) : Int := max (min (sg s (rnd (magW r))) 32767) (-32768)
def lg (b : Nat) : Int := match floatBits .mul .f64 4636737291354636288 (widen b) with | some y => lgv (y / 9223372036854775808 % 2 == 1) (y % 9223372036854775808) | none => 0
theorem lg_word {b : Nat} {s : Bool} {r : Nat} (h : floatBits .mul .f64 4636737291354636288 (widen b) = some (double.word s r)) (hr : r < 9218868437227405312) : lg b = lgv s r := by
  unfold lg
  rw [h]
  have h1 := word_mod double s r (by rw [double_facts.2.2.2.1]; omega)
  rw [double_facts.2.2.2.1] at h1
  have h2 : (double.word s r / 9223372036854775808 % 2 == 1) = s := by
    unfold Format.word
    rw [double_facts.2.2.2.1]
    cases s
    · simp only [Bool.false_eq_true, if_false]; rw [Nat.div_eq_of_lt (by omega)]; rfl
    · simp only [if_true]; rw [Nat.add_div_left _ (by omega), Nat.div_eq_of_lt (by omega)]; rfl
  show lgv _ _ = _
  rw [h1, h2]
/-- The exponent of a word that is not too great. -/
theorem exp_small {r : Nat} (h : magW r ≤ 104857600 * one64) : r / 4503599627370496 < 1075 := by
  by_cases hlt : r / 4503599627370496 < 1075
  · exact hlt
  · exfalso
    have h1 := magW_ge (r := r) (by omega)
    have h3 : 4503599627370496 * 2 ^ (r / 4503599627370496 - 1) ≤ magW r := by rw [h1]; exact Nat.mul_le_mul_right _ (by omega)
    have h4 : one64 ≤ 2 ^ (r / 4503599627370496 - 1) := by rw [← pw_eq]; exact pw_le (by omega)
    have := one64_pos
    omega
/-- The lesser, and the greater, of two numbers. -/
def fmin (a b : Nat) : Nat := match double.order a b with | some .lt => a | some .gt => b | _ => if (FloatKind.f64.decode a).neg then a else b
def fmax (a b : Nat) : Nat := match double.order a b with | some .lt => b | some .gt => a | _ => if (FloatKind.f64.decode a).neg then b else a
theorem val_min {a b : Nat} {x y : Int} (ha : Val double a x) (hb : Val double b y) : Val double (fmin a b) (min x y) := by
  unfold fmin
  rw [order_val ha hb, cmp_int]
  by_cases h1 : x < y
  · rw [if_pos h1, show min x y = x by omega]; exact ha
  · rw [if_neg h1, show min x y = y by omega]
    by_cases h2 : x = y
    · rw [if_pos h2]; subst h2
      show Val double (if _ then a else b) x
      split
      · exact ha
      · exact hb
    · rw [if_neg h2]; exact hb
theorem val_max {a b : Nat} {x y : Int} (ha : Val double a x) (hb : Val double b y) : Val double (fmax a b) (max x y) := by
  unfold fmax
  rw [order_val ha hb, cmp_int]
  by_cases h1 : x < y
  · rw [if_pos h1, show max x y = y by omega]; exact hb
  · rw [if_neg h1, show max x y = x by omega]
    by_cases h2 : x = y
    · rw [if_pos h2]; subst h2
      show Val double (if _ then b else a) x
      split
      · exact hb
      · exact ha
    · rw [if_neg h2]; exact ha
theorem order_val_some {a b : Nat} {x y : Int} (ha : Val double a x) (hb : Val double b y) : ∃ o, FloatKind.f64.format.order a b = some o := ⟨_, order_val ha hb⟩
theorem run_fmin {P : Program} (w : World) (ts : Array TypeId) (t : TypeId) (a b : Nat) (h : ∃ o, FloatKind.f64.format.order a b = some o) : (Builtin.min_ ts t #[.float .f64 a, .float .f64 b]).run P w = .ok (.float .f64 (fmin a b)) w := by
  obtain ⟨o, h⟩ := h
  have h' : double.order a b = some o := h
  unfold fmin
  rw [h']
  cases o <;> simp [Builtin.min_, Builtin.min2, h]
theorem run_fmax {P : Program} (w : World) (ts : Array TypeId) (t : TypeId) (a b : Nat) (h : ∃ o, FloatKind.f64.format.order a b = some o) : (Builtin.max_ ts t #[.float .f64 a, .float .f64 b]).run P w = .ok (.float .f64 (fmax a b)) w := by
  obtain ⟨o, h⟩ := h
  have h' : double.order a b = some o := h
  unfold fmax
  rw [h']
  cases o <;> simp [Builtin.max_, Builtin.max2, h]
theorem toInt64_val {a : Nat} {x : Int} (ha : Val double a x) : (FloatKind.f64.decode a).toInt .zero = some (Int.tdiv x (one64 : Int)) := toInt_val 1074 rfl ha
theorem scale_min (x c : Int) : min (x * (one64 : Int)) (c * (one64 : Int)) = min x c * (one64 : Int) := by
  have hp : (0 : Int) ≤ (one64 : Int) := by omega
  by_cases h : x ≤ c
  · have h2 := Int.mul_le_mul_of_nonneg_right h hp
    rw [Int.min_eq_left h, Int.min_eq_left h2]
  · have h' : c ≤ x := by omega
    have h2 := Int.mul_le_mul_of_nonneg_right h' hp
    rw [Int.min_eq_right h', Int.min_eq_right h2]
theorem scale_max (x c : Int) : max (x * (one64 : Int)) (c * (one64 : Int)) = max x c * (one64 : Int) := by
  have hp : (0 : Int) ≤ (one64 : Int) := by omega
  by_cases h : x ≤ c
  · have h2 := Int.mul_le_mul_of_nonneg_right h hp
    rw [Int.max_eq_right h, Int.max_eq_right h2]
  · have h' : c ≤ x := by omega
    have h2 := Int.mul_le_mul_of_nonneg_right h' hp
    rw [Int.max_eq_left h', Int.max_eq_left h2]
theorem val_neg32768 : Val double 13898108450065350656 (-32768 * (one64 : Int)) := by
  refine ⟨true, 4503599627370496, 1037, by decide, ?_⟩
  rw [show sg true (4503599627370496 * 2 ^ 1037) = -((4503599627370496 * pw 1037 : Nat) : Int) by rw [pw_eq]; rfl, one64_split 37 (by omega), show pw 37 = 137438953472 by rw [pw_eq], show 1074 - 37 = 1037 from rfl]
  omega
theorem val_half : ∃ V : Nat, Val double 4602678819172646912 (V : Int) ∧ Val double 13826050856027422720 (-(V : Int)) ∧ one64 = 2 * V := by
  refine ⟨4503599627370496 * pw 1021, ⟨false, 4503599627370496, 1021, by decide, by rw [pw_eq]; rfl⟩, ⟨true, 4503599627370496, 1021, by decide, by rw [pw_eq]; rfl⟩, ?_⟩
  rw [one64_split 53 (by omega), show pw 53 = 9007199254740992 by rw [pw_eq], show 1074 - 53 = 1021 from rfl]
  omega
theorem val_32767 : Val double 4674736138332667904 (32767 * (one64 : Int)) := by
  refine ⟨false, 9006924376834048, 1036, by decide, ?_⟩
  rw [show sg false (9006924376834048 * 2 ^ 1036) = ((9006924376834048 * pw 1036 : Nat) : Int) by rw [pw_eq]; rfl, one64_split 38 (by omega), show pw 38 = 274877906944 by rw [pw_eq], show 1074 - 38 = 1036 from rfl]
  omega
end Go.Proofs.YtdnnjahdcabdmaaGreatDoor
