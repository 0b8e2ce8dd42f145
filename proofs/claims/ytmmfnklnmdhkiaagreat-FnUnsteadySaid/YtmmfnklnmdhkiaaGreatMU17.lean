import Derived.Test.YtmmfnklnmdhkiaaGreatMU16
import Derived.Test.YtmmfnklnmdhkiaaGreatMU03
import Derived.Test.YtmmfnklnmdhkiaaGreatMU07
/- LoggedLevels, in the program and in the reference, over what is kept of one head (lg). -/
namespace Go.Proofs.YtmmfnklnmdhkiaaGreat
open Go.ChangeShapes Go.WideShapes Go.ChangeAt Go.RowKit
set_option linter.unusedVariables false
set_option linter.unusedSimpArgs false
attribute [local irreducible] Calls

def updI (f : Nat → Int) (k : Nat) (x : Int) : Nat → Int := fun i => if i = k then x else f i
theorem i16s_set (n : Nat) (f : Nat → Int) (k : Nat) (x : Int) (hk : k < n) : (i16s n f).setIfInBounds k (.int .i16 x) = i16s n (updI f k x) := by
  apply Array.ext_getElem?
  intro i
  rw [Array.getElem?_setIfInBounds]
  by_cases hi : i < n
  · rw [i16s_get n (updI f k x) i hi]
    by_cases h : k = i
    · subst h; rw [if_pos rfl, if_pos (by rw [i16s_size]; exact hk)]; unfold updI; rw [if_pos rfl]
    · rw [if_neg h, i16s_get n f i hi]; unfold updI; rw [if_neg (Ne.symm h)]
  · rw [Array.getElem?_eq_none (by rw [i16s_size]; omega), if_neg (by omega), Array.getElem?_eq_none (by rw [i16s_size]; omega)]
theorem i16s_congr {n : Nat} {f f' : Nat → Int} (h : ∀ i, i < n → f i = f' i) : i16s n f = i16s n f' := by
  apply Array.ext_getElem?
  intro i
  by_cases hi : i < n
  · rw [i16s_get n _ i hi, i16s_get n _ i hi, h i hi]
  · rw [Array.getElem?_eq_none (by rw [i16s_size]; omega), Array.getElem?_eq_none (by rw [i16s_size]; omega)]
/-- What the loggers keep of a ground. -/
def levF (lg : Nat → Int) (g : Gr) (k : Nat) : Int := if validG g && isC g k then lg (g.hea k) else 0
def levC (g : Gr) : Int := if validG g then 0 else 1

end Go.Proofs.YtmmfnklnmdhkiaaGreat
/- What a logger keeps of a head: math.Round walked through its bits. -/
namespace Go.Proofs.YtmmfnklnmdhkiaaGreat
open Go.ChangeShapes Go.WideShapes Go.ChangeAt Go.RowKit
set_option linter.unusedVariables false
set_option linter.unusedSimpArgs false

theorem bits_u64 (op : BinOp) (f : BitVec 64 → BitVec 64 → BitVec 64) (a b : Nat) (h : bits op .u64 (a : Int) (b : Int) = IntKind.u64.wrap ((f (BitVec.ofInt 64 (a : Int)) (BitVec.ofInt 64 (b : Int))).toNat : Int)) : bits op .u64 (a : Int) (b : Int) = (((f (BitVec.ofNat 64 a) (BitVec.ofNat 64 b)).toNat : Nat) : Int) := by
  rw [h, IntKind.wrap_u64, show BitVec.ofInt 64 (a : Int) = BitVec.ofNat 64 a by simp, show BitVec.ofInt 64 (b : Int) = BitVec.ofNat 64 b by simp]
  have := (f (BitVec.ofNat 64 a) (BitVec.ofNat 64 b)).isLt
  simp only [Nat.reducePow] at this
  omega
theorem and_low (a k : Nat) (hk : k ≤ 64) (ha : a < 18446744073709551616) : bits .and .u64 (a : Int) ((2 ^ k - 1 : Nat) : Int) = ((a % 2 ^ k : Nat) : Int) := by
  rw [bits_u64 .and (fun x y => x &&& y) a (2 ^ k - 1) rfl, BitVec.toNat_and]
  simp only [BitVec.toNat_ofNat]
  have h1 : 2 ^ k ≤ 2 ^ 64 := Nat.pow_le_pow_right (by omega) hk
  have h2 : 0 < 2 ^ k := Nat.two_pow_pos _
  simp only [Nat.reducePow] at h1 ⊢
  rw [Nat.mod_eq_of_lt ha, Nat.mod_eq_of_lt (by omega), Nat.and_two_pow_sub_one_eq_mod]
theorem andNot_low (a k : Nat) (hk : k ≤ 64) (ha : a < 18446744073709551616) : bits .andNot .u64 (a : Int) ((2 ^ k - 1 : Nat) : Int) = ((a / 2 ^ k * 2 ^ k : Nat) : Int) := by
  rw [bits_u64 .andNot (fun x y => x &&& ~~~ y) a (2 ^ k - 1) rfl]
  have h1 : 2 ^ k ≤ 2 ^ 64 := Nat.pow_le_pow_right (by omega) hk
  have h2 : 0 < 2 ^ k := Nat.two_pow_pos _
  congr 1
  apply Nat.eq_of_testBit_eq
  intro i
  rw [BitVec.toNat_and]
  simp only [BitVec.toNat_not, BitVec.toNat_ofNat]
  rw [Nat.mod_eq_of_lt (show a < 2 ^ 64 by simpa using ha), Nat.mod_eq_of_lt (show 2 ^ k - 1 < 2 ^ 64 by omega)]
  rw [Nat.testBit_and, Nat.testBit_mul_two_pow, Nat.testBit_div_two_pow]
  rw [show 2 ^ 64 - 1 - (2 ^ k - 1) = 2 ^ 64 - ((2 ^ k - 1) + 1) by omega, Nat.testBit_two_pow_sub_succ (by omega)]
  rw [Nat.testBit_two_pow_sub_one]
  by_cases hi : k ≤ i
  · simp [hi, show i - k + k = i by omega, show ¬ i < k by omega]
    intro h
    by_cases h64 : i < 64
    · exact h64
    · have : a < 2 ^ i := Nat.lt_of_lt_of_le (by simpa using ha) (Nat.pow_le_pow_right (by omega) (show 64 ≤ i by omega))
      rw [Nat.testBit_lt_two_pow this] at h
      cases h
  · simp [hi, show i < k by omega]
/-- The exponent of a word. -/
theorem exp_word (s : Bool) (r : Nat) (hr : r < 9223372036854775808) : bits .and .u64 ((Ieee.double.word s r : Nat) / 4503599627370496 : Int) 2047 = ((r / 4503599627370496 : Nat) : Int) := by
  have h0 : ((Ieee.double.word s r : Nat) / 4503599627370496 : Int) = ((Ieee.double.word s r / 4503599627370496 : Nat) : Int) := by omega
  have hw : Ieee.double.word s r < 18446744073709551616 := by unfold Ieee.Format.word; rw [double_facts.2.2.2.1]; split <;> omega
  rw [h0]
  have := and_low (Ieee.double.word s r / 4503599627370496) 11 (by omega) (by omega)
  rw [show ((2 ^ 11 - 1 : Nat) : Int) = 2047 from rfl] at this
  rw [this]
  congr 1
  unfold Ieee.Format.word
  rw [double_facts.2.2.2.1]
  simp only [Nat.reducePow]
  split <;> omega
theorem sign_word (s : Bool) (r : Nat) (hr : r < 9223372036854775808) : bits .and .u64 ((Ieee.double.word s r : Nat) : Int) 9223372036854775808 = ((Ieee.double.word s 0 : Nat) : Int) := by
  have hw : Ieee.double.word s r < 18446744073709551616 := by unfold Ieee.Format.word; rw [double_facts.2.2.2.1]; split <;> omega
  rw [show (9223372036854775808 : Int) = ((9223372036854775808 : Nat) : Int) from rfl, bits_u64 .and (fun x y => x &&& y) _ _ rfl, BitVec.toNat_and]
  simp only [BitVec.toNat_ofNat]
  simp only [Nat.reducePow]
  rw [Nat.mod_eq_of_lt hw, Nat.mod_eq_of_lt (by omega)]
  congr 1
  have h2 : (9223372036854775808 : Nat) = 2 ^ 63 := by decide
  unfold Ieee.Format.word
  rw [double_facts.2.2.2.1, h2]
  apply Nat.eq_of_testBit_eq
  intro i
  rw [Nat.testBit_and, Nat.testBit_two_pow]
  rw [h2] at hr
  cases s
  · simp only [Bool.false_eq_true, if_false, Nat.zero_testBit]
    by_cases hi : 63 = i
    · subst hi; rw [Nat.testBit_lt_two_pow hr]; rfl
    · simp [hi]
  · simp only [if_true, Nat.add_zero, Nat.testBit_two_pow]
    by_cases hi : 63 = i
    · subst hi
      rw [Nat.testBit_two_pow_add_eq, Nat.testBit_lt_two_pow hr]; rfl
    · simp [hi]
attribute [local irreducible] Calls
theorem or_one (s : Bool) : bits .or .u64 ((Ieee.double.word s 0 : Nat) : Int) 4607182418800017408 = ((Ieee.double.word s 4607182418800017408 : Nat) : Int) := by cases s <;> decide
theorem shr_half (e : Nat) (h : e < 52) : (2251799813685248 : Int) / 2 ^ e = ((2 ^ (51 - e) : Nat) : Int) := by
  have h1 : (2251799813685248 : Nat) / 2 ^ e = 2 ^ (51 - e) := by
    rw [show (2251799813685248 : Nat) = 2 ^ 51 by decide, Nat.pow_div (by omega) (by omega)]
  rw [← h1]
  simp
theorem shr_mask (e : Nat) (h : e < 52) : (4503599627370495 : Int) / 2 ^ e = ((2 ^ (52 - e) - 1 : Nat) : Int) := by
  have h1 : (4503599627370495 : Nat) / 2 ^ e = 2 ^ (52 - e) - 1 := by
    have hp : 0 < 2 ^ e := Nat.two_pow_pos _
    have hm : 2 ^ (52 - e) * 2 ^ e = 4503599627370496 := by rw [← Nat.pow_add, show 52 - e + e = 52 by omega]
    have ha : 0 < 2 ^ (52 - e) := Nat.two_pow_pos _
    rw [Nat.div_eq_iff hp]
    generalize 2 ^ (52 - e) = a at *
    generalize 2 ^ e = b at *
    have : (a - 1) * b = a * b - b := by rw [Nat.sub_mul, Nat.one_mul]
    omega
  rw [← h1]
  simp
theorem word_cut (s : Bool) (r h e : Nat) (he : e < 52) : Ieee.double.word s ((r + h) / 2 ^ (52 - e) * 2 ^ (52 - e)) = (Ieee.double.word s r + h) / 2 ^ (52 - e) * 2 ^ (52 - e) := by
  unfold Ieee.Format.word
  rw [double_facts.2.2.2.1]
  cases s
  · rfl
  · simp only [if_true]
    have hp : 0 < 2 ^ (52 - e) := Nat.two_pow_pos _
    have hm : 9223372036854775808 = 2 ^ (52 - e) * 2 ^ (11 + e) := by rw [← Nat.pow_add, show 52 - e + (11 + e) = 63 by omega]
    rw [hm, Nat.add_assoc, Nat.mul_add_div hp, Nat.add_mul, Nat.mul_comm (2 ^ (11 + e))]
end Go.Proofs.YtmmfnklnmdhkiaaGreat
/- Words of double precision as whole numbers of the least place; the nearest whole number. Plain laws on words; no statement is proved here. -/
namespace Go.Proofs.YtmmfnklnmdhkiaaGreat
open Ieee
set_option linter.unusedVariables false
set_option linter.unusedSimpArgs false

/-! ### Values, counted in the least place. -/
@[irreducible] def pw (k : Nat) : Nat := 2 ^ k
theorem pw_eq (k : Nat) : pw k = 2 ^ k := pw.eq_1 k
theorem pw_pos (k : Nat) : 0 < pw k := by rw [pw_eq]; exact Nat.two_pow_pos k
theorem pw_split {k n : Nat} (h : k ≤ n) : pw n = pw k * pw (n - k) := by rw [pw_eq, pw_eq, pw_eq, ← Nat.pow_add, Nat.add_sub_cancel' h]
def sg (s : Bool) (n : Nat) : Int := if s then -(n : Int) else (n : Int)
/-- A word stands for V of the format's least places. -/
def Val (f : Format) (b : Nat) (V : Int) : Prop := ∃ (s : Bool) (m k : Nat), f.read b = .number s m (f.leastPlace + k) ∧ V = sg s (m * 2 ^ k)
theorem sg_mul (s : Bool) (m k : Nat) : sg s (m * k) = sg s m * k := by unfold sg; cases s <;> simp [Int.neg_mul]
theorem signed_sg (s : Bool) (m u : Nat) : signed s m u = sg s (m * 2 ^ u) := by unfold signed sg; rw [Nat.shiftLeft_eq]
theorem compare_scale (a b : Int) (c : Nat) (hc : 0 < c) : compare (a * c) (b * c) = compare a b := by
  have h1 : (a * c < b * c) ↔ a < b := by
    constructor
    · intro h; exact Int.lt_of_mul_lt_mul_right h (by omega)
    · intro h; exact Int.mul_lt_mul_of_pos_right h (by omega)
  have h2 : (a * c = b * c) ↔ a = b := by
    constructor
    · intro h; exact Int.eq_of_mul_eq_mul_right (by omega) h
    · intro h; rw [h]
  show compareOfLessAndEq _ _ = compareOfLessAndEq _ _
  unfold compareOfLessAndEq
  simp only [h1, h2]
theorem order_val {f : Format} {a b : Nat} {x y : Int} (ha : Val f a x) (hb : Val f b y) : f.order a b = some (compare x y) := by
  obtain ⟨s, m, k, h1, rfl⟩ := ha
  obtain ⟨t, n, l, h2, rfl⟩ := hb
  unfold Format.order
  rw [h1, h2]
  simp only [Datum.order]
  congr 1
  rw [signed_sg, signed_sg]
  have e1 : (f.leastPlace + (k : Int) - min (f.leastPlace + (k : Int)) (f.leastPlace + (l : Int))).toNat = k - min k l := by omega
  have e2 : (f.leastPlace + (l : Int) - min (f.leastPlace + (k : Int)) (f.leastPlace + (l : Int))).toNat = l - min k l := by omega
  rw [e1, e2]
  rw [← compare_scale _ _ (2 ^ min k l) (Nat.two_pow_pos _), ← sg_mul, ← sg_mul, Nat.mul_assoc, Nat.mul_assoc, ← Nat.pow_add, ← Nat.pow_add, Nat.sub_add_cancel (Nat.min_le_left _ _), Nat.sub_add_cancel (Nat.min_le_right _ _)]
theorem cut_zero (s : Bool) (n d : Nat) : Toward.zero.cut s n d = n / 2 ^ d := by
  unfold Toward.cut
  simp only [Bool.toNat_false, Nat.add_zero, Nat.one_shiftLeft]
  by_cases h : d ≤ n.log2 + 2
  · rw [Nat.min_eq_left h]
  · rw [Nat.min_eq_right (by omega)]
    have h1 : n < 2 ^ (n.log2 + 2) := Nat.lt_of_lt_of_le Nat.lt_log2_self (Nat.pow_le_pow_right (by omega) (by omega))
    rw [Nat.div_eq_of_lt h1, Nat.div_eq_of_lt (Nat.lt_of_lt_of_le h1 (Nat.pow_le_pow_right (by omega) (by omega)))]
theorem tdiv_sg (s : Bool) (n d : Nat) : Int.tdiv (sg s n) d = sg s (n / d) := by
  unfold sg
  cases s
  · simp [Int.ofNat_tdiv]
  · simp [Int.neg_tdiv, Int.ofNat_tdiv]
theorem toInt_val {f : Format} {a : Nat} {x : Int} (T : Nat) (hT : f.leastPlace = -T) (ha : Val f a x) : (f.read a).toInt .zero = some (Int.tdiv x (pw T : Nat)) := by
  obtain ⟨s, m, k, h1, rfl⟩ := ha
  unfold Datum.toInt
  rw [h1, pw_eq, tdiv_sg]
  simp only [Datum.integral, cut_zero]
  congr 1
  rw [signed_sg, Nat.pow_zero, Nat.mul_one, hT]
  congr 1
  by_cases h : T ≤ k
  · rw [show (-(T : Int) + (k : Int)).toNat = k - T by omega, show (-(-(T : Int) + (k : Int))).toNat = 0 by omega, Nat.shiftLeft_eq, Nat.pow_zero, Nat.div_one]
    rw [show m * 2 ^ k = m * 2 ^ (k - T) * 2 ^ T by rw [Nat.mul_assoc, ← Nat.pow_add, Nat.sub_add_cancel h], Nat.mul_div_cancel _ (Nat.two_pow_pos _)]
  · rw [show (-(T : Int) + (k : Int)).toNat = 0 by omega, show (-(-(T : Int) + (k : Int))).toNat = T - k by omega, Nat.shiftLeft_zero]
    rw [show 2 ^ T = 2 ^ (T - k) * 2 ^ k by rw [← Nat.pow_add, Nat.sub_add_cancel (by omega)], Nat.mul_div_mul_right _ _ (Nat.two_pow_pos _)]
/-- The magnitude of a rung of double precision. -/
def magW (r : Nat) : Nat := if r < 4503599627370496 then r else (4503599627370496 + r % 4503599627370496) * 2 ^ (r / 4503599627370496 - 1)
theorem val_word (s : Bool) (r : Nat) (h : r < 9218868437227405312) : Val double (double.word s r) (sg s (magW r)) := by
  obtain ⟨hb, hi, hl, hs, hf⟩ := double_facts
  have := read_word double s r (by rw [hs]; omega)
  rw [hb, hi] at this
  by_cases h1 : r < 4503599627370496
  · rw [if_pos h1] at this
    exact ⟨s, r, 0, by rw [this]; simp, by unfold magW; rw [if_pos h1]; simp⟩
  · rw [if_neg h1, if_pos h] at this
    exact ⟨s, _, r / 4503599627370496 - 1, this, by unfold magW; rw [if_neg h1]⟩
/-- A number of so many digits is written as it is. -/
theorem nearest_exact (s : Bool) (m a c : Nat) (hm : m < 9007199254740992) (hac : a + c ≤ 2044) : ∃ r, double.nearest s (m * 2 ^ a) (-1074 + (c : Int)) = double.word s r ∧ r < 9218868437227405312 ∧ magW r = m * 2 ^ (a + c) := by
  obtain ⟨hb, hi, hl, hs, hf⟩ := double_facts
  by_cases h0 : m = 0
  · subst h0; exact ⟨0, by simp [Format.nearest], by omega, by simp [magW]⟩
  have hM0 : m * 2 ^ a ≠ 0 := Nat.ne_of_gt (Nat.mul_pos (by omega) (Nat.two_pow_pos _))
  have hL : m.log2 < 53 := (Nat.log2_lt h0).2 (by simpa using hm)
  have hlog : (m * 2 ^ a).log2 = m.log2 + a := by rw [← Nat.shiftLeft_eq]; exact log2_shl h0 a
  -- what is dropped is none: the last place is at most c + a
  obtain ⟨t, ht, htd⟩ : ∃ t : Nat, max (-1074 + (c : Int) + (m * 2 ^ a).log2 - double.fractionBits) double.leastPlace = -1074 + (t : Int) ∧ t ≤ a + c ∧ (t = 0 ∨ t + 52 = c + m.log2 + a) := by
    rw [hlog, hf, hl]
    by_cases hh : 52 ≤ c + m.log2 + a
    · exact ⟨c + m.log2 + a - 52, by omega, by omega, by omega⟩
    · exact ⟨0, by omega, by omega, by omega⟩
  have hk : Toward.even.cut s ((m * 2 ^ a) <<< ((-1074 + (c : Int)) - (-1074 + (t : Int))).toNat) ((-1074 + (t : Int)) - (-1074 + (c : Int))).toNat = m * 2 ^ (a + c - t) := by
    by_cases hct : t ≤ c
    · rw [show ((-1074 + (c : Int)) - (-1074 + (t : Int))).toNat = c - t by omega, show ((-1074 + (t : Int)) - (-1074 + (c : Int))).toNat = 0 by omega]
      have := cut_shl s ((m * 2 ^ a) <<< (c - t)) 0
      rw [Nat.shiftLeft_zero] at this
      rw [this, Nat.shiftLeft_eq, Nat.mul_assoc, ← Nat.pow_add]
      congr 2; omega
    · rw [show ((-1074 + (c : Int)) - (-1074 + (t : Int))).toNat = 0 by omega, show ((-1074 + (t : Int)) - (-1074 + (c : Int))).toNat = t - c by omega, Nat.shiftLeft_zero]
      have := cut_shl s (m * 2 ^ (a + c - t)) (t - c)
      rw [Nat.shiftLeft_eq, Nat.mul_assoc, ← Nat.pow_add, show a + c - t + (t - c) = a by omega] at this
      exact this
  have hn := nearest_of double s (m * 2 ^ a) (-1074 + (c : Int)) (-1074 + (t : Int)) _ hM0 ht hk
  rw [hb, hi, hl, show ((-1074 + (t : Int)) - -1074).toNat = t by omega] at hn
  have hKlog : (m * 2 ^ (a + c - t)).log2 = m.log2 + (a + c - t) := by rw [← Nat.shiftLeft_eq]; exact log2_shl h0 _
  have hK0 : m * 2 ^ (a + c - t) ≠ 0 := Nat.ne_of_gt (Nat.mul_pos (by omega) (Nat.two_pow_pos _))
  have hKlt : m * 2 ^ (a + c - t) < 9007199254740992 := by
    have := (Nat.log2_lt (k := 53) hK0).1 (by rw [hKlog]; omega)
    simpa using this
  have hmul : m * 2 ^ (a + c) = m * 2 ^ (a + c - t) * 2 ^ t := by rw [Nat.mul_assoc, ← Nat.pow_add, Nat.sub_add_cancel htd.1]
  rw [hmul]
  have hKge : t = 0 ∨ 4503599627370496 ≤ m * 2 ^ (a + c - t) := by
    rcases htd.2 with h | h
    · exact .inl h
    · right
      have := (Nat.le_log2 (k := 52) hK0).1 (by rw [hKlog]; omega)
      simpa using this
  generalize m * 2 ^ (a + c - t) = K at *
  rw [Nat.min_eq_left (by omega)] at hn
  refine ⟨_, hn, by omega, ?_⟩
  unfold magW
  rcases hKge with rfl | hge
  · simp only [Nat.zero_mul, Nat.zero_add, Nat.pow_zero, Nat.mul_one]
    by_cases h1 : K < 4503599627370496
    · rw [if_pos h1]
    · rw [if_neg h1, show K / 4503599627370496 - 1 = 0 by omega, Nat.pow_zero, Nat.mul_one]; omega
  · rw [if_neg (by omega), show (t * 4503599627370496 + K) / 4503599627370496 - 1 = t by omega, show 4503599627370496 + (t * 4503599627370496 + K) % 4503599627370496 = K by omega]
/-! ### To the nearest whole number, halves away from nought. -/
/-- One, counted in the least place of double precision. -/
def one64 : Nat := pw 1074
theorem one64_split (k : Nat) (h : k ≤ 1074) : one64 = pw k * pw (1074 - k) := pw_split h
def rnd (v : Nat) : Nat := (2 * v + one64) / (2 * one64)
theorem one64_pos : 0 < one64 := pw_pos _
theorem magW_ge {r : Nat} (h : 4503599627370496 ≤ r) : magW r = (4503599627370496 + r % 4503599627370496) * 2 ^ (r / 4503599627370496 - 1) := by unfold magW; rw [if_neg (by omega)]
theorem magW_lt (r E : Nat) (h : r / 4503599627370496 ≤ E + 1) : magW r < 9007199254740992 * pw E := by
  rw [pw_eq]
  have hp : 1 ≤ 2 ^ E := Nat.two_pow_pos _
  by_cases h1 : r < 4503599627370496
  · unfold magW; rw [if_pos h1]; omega
  · rw [magW_ge (by omega)]
    have h2 : 2 ^ (r / 4503599627370496 - 1) ≤ 2 ^ E := Nat.pow_le_pow_right (by omega) (by omega)
    calc _ < 9007199254740992 * 2 ^ (r / 4503599627370496 - 1) := Nat.mul_lt_mul_of_pos_right (by omega) (Nat.two_pow_pos _)
      _ ≤ _ := Nat.mul_le_mul_left _ h2
theorem rnd_small (r : Nat) (h : r / 4503599627370496 < 1022) : rnd (magW r) = 0 := by
  have h1 := magW_lt r (1074 - 54) (by omega)
  have h2 := one64_split 54 (by omega)
  unfold rnd
  apply Nat.div_eq_of_lt
  rw [show pw 54 = 18014398509481984 by rw [pw_eq]] at h2
  generalize pw (1074 - 54) = p at *
  omega
theorem rnd_half (r : Nat) (h : r / 4503599627370496 = 1022) : rnd (magW r) = 1 := by
  have h1 := magW_ge (r := r) (by omega)
  rw [← pw_eq, show r / 4503599627370496 - 1 = 1074 - 53 by omega] at h1
  have h2 := one64_split 53 (by omega)
  rw [show pw 53 = 9007199254740992 by rw [pw_eq]] at h2
  have hp : 0 < pw (1074 - 53) := pw_pos _
  unfold rnd
  generalize pw (1074 - 53) = p at *
  rw [h1, h2]
  have h3 : r % 4503599627370496 < 4503599627370496 := Nat.mod_lt _ (by decide)
  have h4 : (4503599627370496 + r % 4503599627370496) * p = 4503599627370496 * p + r % 4503599627370496 * p := Nat.add_mul _ _ _
  have h5 : r % 4503599627370496 * p ≤ 4503599627370495 * p := Nat.mul_le_mul_right _ (by omega)
  rw [Nat.div_eq_iff (by omega)]
  omega
/-- What is cut off a rung with a binade of e digits ahead of the point. -/
theorem rnd_mid (r e : Nat) (h : r / 4503599627370496 = 1023 + e) (he : e < 52) :
    magW ((r + 2 ^ (51 - e)) / 2 ^ (52 - e) * 2 ^ (52 - e)) = rnd (magW r) * one64 ∧ (r + 2 ^ (51 - e)) / 2 ^ (52 - e) * 2 ^ (52 - e) ≤ (1024 + e) * 4503599627370496 := by
  have h1 := magW_ge (r := r) (by omega)
  rw [h] at h1
  have hdm := Nat.div_add_mod r 4503599627370496
  have h3 : r % 4503599627370496 < 4503599627370496 := Nat.mod_lt _ (by decide)
  rw [h] at hdm
  generalize r % 4503599627370496 = f at *
  -- powers
  have hq : (2 : Nat) ^ (52 - e) = 2 * 2 ^ (51 - e) := by rw [show 52 - e = 51 - e + 1 by omega, Nat.pow_succ, Nat.mul_comm]
  have hB : 4503599627370496 = 2 ^ (52 - e) * 2 ^ e := by rw [← Nat.pow_add, show 52 - e + e = 52 by omega]
  have hone : one64 = 2 ^ (52 - e) * 2 ^ (1022 + e) := by rw [one64_split (52 - e) (by omega), show 1074 - (52 - e) = 1022 + e by omega, pw_eq, pw_eq]
  have hpq : 0 < 2 ^ (51 - e) := Nat.two_pow_pos _
  have hpe : 0 < 2 ^ e := Nat.two_pow_pos _
  have hpu : 0 < 2 ^ (1022 + e) := Nat.two_pow_pos _
  have hu1 : (2 : Nat) ^ (1023 + e) = 2 * 2 ^ (1022 + e) := by rw [show 1023 + e = 1022 + e + 1 by omega, Nat.pow_succ, Nat.mul_comm]
  -- the whole number
  have hN : rnd (magW r) = 2 ^ e + (f + 2 ^ (51 - e)) / 2 ^ (52 - e) := by
    unfold rnd
    rw [h1, hone, show 1023 + e - 1 = 1022 + e by omega]
    have e1 : 2 * ((4503599627370496 + f) * 2 ^ (1022 + e)) + 2 ^ (52 - e) * 2 ^ (1022 + e) = (2 ^ (52 - e) * 2 ^ e + (f + 2 ^ (51 - e))) * (2 * 2 ^ (1022 + e)) := by
      rw [← hB, hq]; simp only [Nat.add_mul, Nat.mul_add]; simp only [Nat.mul_assoc, Nat.mul_comm, Nat.mul_left_comm]; omega
    have e2 : 2 * (2 ^ (52 - e) * 2 ^ (1022 + e)) = 2 ^ (52 - e) * (2 * 2 ^ (1022 + e)) := by rw [Nat.mul_left_comm]
    rw [e1, e2, Nat.mul_div_mul_right _ _ (by omega), Nat.mul_add_div (by omega)]
  obtain ⟨F, hF⟩ : ∃ F, F = (f + 2 ^ (51 - e)) / 2 ^ (52 - e) := ⟨_, rfl⟩
  rw [← hF] at hN
  have hFle : F ≤ 2 ^ e := by
    rw [hF]
    have : (f + 2 ^ (51 - e)) / 2 ^ (52 - e) < 2 ^ e + 1 := by
      rw [Nat.div_lt_iff_lt_mul (by omega), Nat.add_mul, Nat.mul_comm (2 ^ e), ← hB]
      omega
    omega
  have hr' : (r + 2 ^ (51 - e)) / 2 ^ (52 - e) * 2 ^ (52 - e) = (1023 + e) * 4503599627370496 + F * 2 ^ (52 - e) := by
    rw [← hdm, Nat.add_assoc]
    have : 4503599627370496 * (1023 + e) + (f + 2 ^ (51 - e)) = 2 ^ (52 - e) * (2 ^ e * (1023 + e)) + (f + 2 ^ (51 - e)) := by rw [← Nat.mul_assoc, ← hB]
    rw [this, Nat.mul_add_div (by omega), ← hF, Nat.add_mul]
    congr 1
    rw [Nat.mul_comm (1023 + e), Nat.mul_comm _ (2 ^ (52 - e)), ← Nat.mul_assoc, ← hB]
  rw [hr', hN, hone]
  have hFB : F * 2 ^ (52 - e) ≤ 4503599627370496 := by
    have := Nat.mul_le_mul_right (2 ^ (52 - e)) hFle
    rw [Nat.mul_comm (2 ^ e), ← hB] at this
    exact this
  refine ⟨?_, by omega⟩
  rw [magW_ge (by omega)]
  by_cases hlt : F < 2 ^ e
  · have hFB2 : F * 2 ^ (52 - e) < 4503599627370496 := by
      have := Nat.mul_lt_mul_of_pos_right hlt (show 0 < 2 ^ (52 - e) by omega)
      rw [Nat.mul_comm (2 ^ e), ← hB] at this
      exact this
    generalize hG : F * 2 ^ (52 - e) = G at *
    rw [show ((1023 + e) * 4503599627370496 + G) % 4503599627370496 = G by omega, show ((1023 + e) * 4503599627370496 + G) / 4503599627370496 - 1 = 1022 + e by omega]
    rw [← Nat.mul_assoc, Nat.add_mul (2 ^ e), hG, Nat.mul_comm (2 ^ e), ← hB]
  · obtain rfl : F = 2 ^ e := by omega
    rw [Nat.mul_comm (2 ^ e), ← hB]
    rw [show ((1023 + e) * 4503599627370496 + 4503599627370496) % 4503599627370496 = 0 by omega, show ((1023 + e) * 4503599627370496 + 4503599627370496) / 4503599627370496 - 1 = 1023 + e by omega, Nat.add_zero]
    rw [hu1, ← Nat.mul_assoc, ← Nat.mul_assoc, Nat.add_mul, Nat.mul_comm (2 ^ e), ← hB]

end Go.Proofs.YtmmfnklnmdhkiaaGreat
