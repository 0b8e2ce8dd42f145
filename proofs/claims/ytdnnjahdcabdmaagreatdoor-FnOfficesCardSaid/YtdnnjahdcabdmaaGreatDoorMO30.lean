import Derived.Test.YtdnnjahdcabdmaaGreatDoorMO29
import Derived.Test.YtdnnjahdcabdmaaGreatDoorMO08
import Derived.Test.YtdnnjahdcabdmaaGreatDoorMO16
import Derived.Test.YtdnnjahdcabdmaaGreatDoorMO03
/- Differences of single precision: less nothing, and of two numbers in order. Plain laws on words; no statement is proved here. -/
namespace Go.Proofs.YtdnnjahdcabdmaaGreatDoor
open Ieee
set_option linter.unusedVariables false
set_option linter.unusedSimpArgs false

theorem sg_natAbs32 (s : Bool) (n : Nat) : (sg s n).natAbs = n := by unfold sg; cases s <;> simp
theorem word_sgl (x : Nat) (h : x < 4294967296) : single.word (x / 2147483648 % 2 == 1) (x % 2147483648) = x := by
  obtain ⟨hb, hi, hl, hs, hf⟩ := single_facts
  unfold Format.word
  rw [hs]
  by_cases h1 : x < 2147483648
  · rw [show (x / 2147483648 % 2 == 1) = false by rw [Nat.div_eq_of_lt h1]; rfl]
    simp only [Bool.false_eq_true, if_false]; omega
  · rw [show (x / 2147483648 % 2 == 1) = true by rw [show x / 2147483648 = 1 by omega]; rfl]
    simp only [if_true]; omega
/-- A number that is finite, read. -/
theorem fin_read {x : Nat} (h : x % 2147483648 < 2139095040) : ∃ (m k : Nat), single.read x = .number (x / 2147483648 % 2 == 1) m (-149 + (k : Int)) ∧ m < 16777216 ∧ k ≤ 253 := by
  obtain ⟨hb, hi, hl, hs, hf⟩ := single_facts
  unfold Format.read
  simp only [hs, hb, hi, hl]
  generalize x % 2147483648 = r at *
  by_cases h1 : r < 8388608
  · rw [if_pos h1]; exact ⟨r, 0, by simp, by omega, by omega⟩
  · rw [if_neg h1, if_pos h]; exact ⟨_, _, rfl, by omega, by omega⟩
theorem fin_of_num {x : Nat} {s : Bool} {m : Nat} {e : Int} (h : single.read x = .number s m e) : x % 2147483648 < 2139095040 := by
  obtain ⟨hb, hi, hl, hs, hf⟩ := single_facts
  unfold Format.read at h
  simp only [hs, hb, hi, hl] at h
  generalize x % 2147483648 = r at *
  by_cases h1 : r < 8388608
  · omega
  · by_cases h2 : r < 2139095040
    · exact h2
    · simp only [h1, h2, if_false] at h
      split at h <;> cases h
theorem finF_num {x : Nat} (h : x % 2147483648 < 2139095040) : isN .f32 x = false := by
  obtain ⟨m, k, h1, _⟩ := fin_read h
  show (single.read x).isNaN = false
  rw [h1]; rfl
theorem plain_fin {x : Nat} (h : plain x = true) : x % 2147483648 < 2139095040 := by
  obtain ⟨s, m, k, h1, _⟩ := plain_form h
  exact fin_of_num h1
/-- Less nothing. -/
theorem sub_zeroF {x : Nat} (h : x < 4294967296) (hf : x % 2147483648 < 2139095040) : fop .sub x 0 = x := by
  obtain ⟨m, k, h1, h2, h3⟩ := fin_read hf
  have hr0 : single.read 0 = .number false 0 (-149) := by decide
  have hw := nearest_word single (by decide) x (x / 2147483648 % 2 == 1) (x / 2147483648 % 2 == 1) m (-149 + (k : Int)) k h1
  have hs : single.signWeight = 2147483648 := single_facts.2.2.2.1
  have hk : (-149 + (k : Int) - (k : Int)) = -149 := by omega
  rw [hk, hs, word_sgl x h] at hw
  have hb : floatBits .sub .f32 x 0 = some x := by
    show ((single.read x).sum (single.read 0).opposite).map single.write = some x
    rw [h1, hr0]
    generalize (x / 2147483648 % 2 == 1) = s at *
    simp only [Datum.opposite, Datum.sum, Option.map_some, Bool.not_false]
    rw [show min (-149 + (k : Int)) (-149) = -149 by omega, show (-149 + (k : Int) - -149).toNat = k by omega, show ((-149 : Int) - -149).toNat = 0 by omega, signed_sg, signed_sg]
    have h0 : sg true (0 * 2 ^ 0) = 0 := by decide
    rw [h0, Int.add_zero, sg_natAbs32]
    show some (single.nearest (if sg s (m * 2 ^ k) = 0 then s && true else decide (sg s (m * 2 ^ k) < 0)) (m * 2 ^ k) (-149)) = some x
    congr 1
    rw [← hw, Nat.shiftLeft_eq]
    congr 1
    rw [Bool.and_true]
    split
    · rfl
    · rename_i hne
      generalize m * 2 ^ k = V at hne ⊢
      unfold sg at hne ⊢
      cases s
      · simp only [Bool.false_eq_true, if_false] at hne ⊢; exact decide_eq_false (by omega)
      · simp only [if_true] at hne ⊢; exact decide_eq_true (by omega)
  unfold fop
  rw [hb, Option.getD_some]
  exact cnk_of_not (finF_num hf)
theorem word_plus (r : Nat) : single.word false r = r := by unfold Format.word; simp
theorem rung_pos {x t K : Nat} (hn : x = single.word false (min (t * 8388608 + K) 2139095040)) (h : 1 ≤ t ∨ 1 ≤ K) : ∃ R, x = R ∧ 1 ≤ R ∧ R ≤ 2139095040 := by
  rw [word_plus] at hn
  refine ⟨_, hn, ?_, Nat.min_le_right _ _⟩
  refine Nat.le_min.2 ⟨?_, by decide⟩
  rcases h with h | h
  · have := Nat.mul_le_mul_right 8388608 h; omega
  · omega
/-- A number less a smaller one is more than nothing. -/
theorem sub_posF {a b : Nat} (ha : a % 2147483648 < 2139095040) (hb : b % 2147483648 < 2139095040) (h : flt a b = true) : fgt (fop .sub b a) 0 = true := by
  obtain ⟨m, k, h1, _, _⟩ := fin_read ha
  obtain ⟨n, l, h2, _, _⟩ := fin_read hb
  generalize (a / 2147483648 % 2 == 1) = s at *
  generalize (b / 2147483648 % 2 == 1) = t at *
  have va := val_num h1
  have vb := val_num h2
  obtain ⟨u, hu⟩ : ∃ u, u = min l k := ⟨_, rfl⟩
  obtain ⟨D, hD⟩ : ∃ D, D = sg t (n * 2 ^ (l - u)) + sg (!s) (m * 2 ^ (k - u)) := ⟨_, rfl⟩
  have hDp : 0 < D := by
    have ho : single.order a b = some (compare (sg s (m * 2 ^ k)) (sg t (n * 2 ^ l))) := order_val va vb
    unfold flt at h
    rw [show FloatKind.f32.format.order a b = single.order a b from rfl, ho, cmp_int] at h
    have hlt : sg s (m * 2 ^ k) < sg t (n * 2 ^ l) := by
      by_cases q : sg s (m * 2 ^ k) < sg t (n * 2 ^ l)
      · exact q
      · rw [if_neg q] at h
        split at h <;> cases h
    have eD : D * (2 ^ u : Nat) = sg t (n * 2 ^ l) - sg s (m * 2 ^ k) := by
      rw [hD, Int.add_mul, ← sg_mul, ← sg_mul, Nat.mul_assoc, Nat.mul_assoc, ← Nat.pow_add, ← Nat.pow_add, Nat.sub_add_cancel (by omega), Nat.sub_add_cancel (by omega)]
      have : sg (!s) (m * 2 ^ k) = - sg s (m * 2 ^ k) := by unfold sg; cases s <;> simp
      rw [this]; omega
    have hp : (0 : Int) < D * (2 ^ u : Nat) := by rw [eD]; omega
    have h2u : (0 : Int) < ((2 ^ u : Nat) : Int) := by have := Nat.two_pow_pos u; omega
    by_cases q : 0 < D
    · exact q
    · have := Int.mul_le_mul_of_nonneg_right (show D ≤ 0 by omega) (Int.le_of_lt h2u)
      omega
  obtain ⟨M, rfl⟩ : ∃ M : Nat, D = (M : Int) := ⟨D.toNat, by omega⟩
  have hM0 : M ≠ 0 := by omega
  obtain ⟨hbn, hi, hl, hs, hf⟩ := single_facts
  obtain ⟨last, hlast⟩ : ∃ last, max (-149 + (u : Int) + M.log2 - single.fractionBits) single.leastPlace = last := ⟨_, rfl⟩
  have hn := nearest_of single false M (-149 + (u : Int)) last _ hM0 hlast rfl
  rw [hf, hl] at hlast
  obtain ⟨K, hK⟩ : ∃ K, Toward.even.cut false (M <<< ((-149 + (u : Int)) - last).toNat) (last - (-149 + (u : Int))).toNat = K := ⟨_, rfl⟩
  rw [hK, hbn, hi, hl] at hn
  have hpos : 1 ≤ (last - -149).toNat ∨ 1 ≤ K := by
    by_cases q : last = -149
    · right
      rw [← hK, q, show (-149 - (-149 + (u : Int))).toNat = 0 by omega]
      have := cut_shl false (M <<< ((-149 + (u : Int)) - -149).toNat) 0
      rw [Nat.shiftLeft_zero] at this
      rw [this, Nat.shiftLeft_eq]
      exact Nat.mul_pos (by omega) (Nat.two_pow_pos _)
    · left; omega
  have hR : ∃ R, single.nearest false M (-149 + (u : Int)) = R ∧ 1 ≤ R ∧ R ≤ 2139095040 := rung_pos hn hpos
  obtain ⟨R, e1, e2, e3⟩ := hR
  have hbits : floatBits .sub .f32 b a = some R := by
    show ((single.read b).sum (single.read a).opposite).map single.write = some R
    rw [h1, h2]
    simp only [Datum.opposite, Datum.sum, Option.map_some]
    rw [show min (-149 + (l : Int)) (-149 + (k : Int)) = -149 + (u : Int) by omega, show (-149 + (l : Int) - (-149 + (u : Int))).toNat = l - u by omega, show (-149 + (k : Int) - (-149 + (u : Int))).toNat = k - u by omega, signed_sg, signed_sg, ← hD]
    show some (single.nearest (if (M : Int) = 0 then t && !s else decide ((M : Int) < 0)) (M : Int).natAbs (-149 + (u : Int))) = some R
    rw [if_neg (by omega), decide_eq_false (by omega), Int.natAbs_natCast, e1]
  unfold fop
  rw [hbits, Option.getD_some]
  have hr0 : single.read 0 = .number false 0 (-149) := by decide
  have hrR : ∃ d, single.read R = d ∧ (d = .infinity false ∨ ∃ m' e' : Nat, d = .number false m' (-149 + (e' : Int)) ∧ 0 < m' * 2 ^ e') := by
    have hw := read_word single false R (by rw [hs]; omega)
    have hwR : single.word false R = R := word_plus R
    rw [hwR, hbn, hi, hl] at hw
    refine ⟨_, hw, ?_⟩
    by_cases q1 : R < 8388608
    · rw [if_pos q1]; exact .inr ⟨R, 0, by simp, by simp; omega⟩
    · by_cases q2 : R < 2139095040
      · rw [if_neg q1, if_pos q2]; exact .inr ⟨_, _, rfl, Nat.mul_pos (by omega) (Nat.two_pow_pos _)⟩
      · rw [if_neg q1, if_neg q2, if_pos (by omega)]; exact .inl rfl
  obtain ⟨d, hd, hcase⟩ := hrR
  have hnn : isN .f32 R = false := by
    show (single.read R).isNaN = false
    rw [hd]
    rcases hcase with rfl | ⟨m', e', rfl, _⟩ <;> rfl
  rw [show cn R = R from cnk_of_not hnn]
  unfold fgt
  show (single.order R 0 == some .gt) = true
  unfold Format.order
  rw [hd, hr0]
  rcases hcase with rfl | ⟨m', e', rfl, hpos⟩
  · rfl
  · simp only [Datum.order]
    rw [show min (-149 + (e' : Int)) (-149) = -149 by omega, show (-149 + (e' : Int) - -149).toNat = e' by omega, show ((-149 : Int) - -149).toNat = 0 by omega, signed_sg, signed_sg]
    rw [show sg false (0 * 2 ^ 0) = 0 by decide, show sg false (m' * 2 ^ e') = ((m' * 2 ^ e' : Nat) : Int) from rfl, cmp_int, if_neg (by omega), if_neg (by omega)]
    rfl
end Go.Proofs.YtdnnjahdcabdmaaGreatDoor
/- LoggedLevels, in the program and in the reference, over what is kept of one head (lg). -/
namespace Go.Proofs.YtdnnjahdcabdmaaGreatDoor
open Go.ChangeShapes Go.WideShapes Go.ChangeAt Go.RowKit
set_option linter.unusedVariables false
set_option linter.unusedSimpArgs false
attribute [local irreducible] Calls

def updI (f : Nat → Int) (k : Nat) (x : Int) : Nat → Int := fun i => if i = k then x else f i
theorem i16s_set (n : Nat) (f : Nat → Int) (k : Nat) (x : Int) (hk : k < n) : (i16s n f).setIfInBounds k (.int .i16 x) = i16s n (updI f k x) := by
  apply Array.ext_getElem?
  intro i
  rw [Array.getElem?_setIfInBounds]
  by_cases hi : i < n
  · rw [i16s_get n (updI f k x) i hi]
    by_cases h : k = i
    · subst h; rw [if_pos rfl, if_pos (by rw [i16s_size]; exact hk)]; unfold updI; rw [if_pos rfl]
    · rw [if_neg h, i16s_get n f i hi]; unfold updI; rw [if_neg (Ne.symm h)]
  · rw [Array.getElem?_eq_none (by rw [i16s_size]; omega), if_neg (by omega), Array.getElem?_eq_none (by rw [i16s_size]; omega)]
theorem i16s_congr {n : Nat} {f f' : Nat → Int} (h : ∀ i, i < n → f i = f' i) : i16s n f = i16s n f' := by
  apply Array.ext_getElem?
  intro i
  by_cases hi : i < n
  · rw [i16s_get n _ i hi, i16s_get n _ i hi, h i hi]
  · rw [Array.getElem?_eq_none (by rw [i16s_size]; omega), Array.getElem?_eq_none (by rw [i16s_size]; omega)]
/-- What the loggers keep of a ground. -/
def levF (lg : Nat → Int) (g : Gr) (k : Nat) : Int := if validG g && isC g k then lg (g.hea k) else 0
def levC (g : Gr) : Int := if validG g then 0 else 1

end Go.Proofs.YtdnnjahdcabdmaaGreatDoor
/- What a logger keeps of a head: math.Round walked through its bits. -/
namespace Go.Proofs.YtdnnjahdcabdmaaGreatDoor
open Go.ChangeShapes Go.WideShapes Go.ChangeAt Go.RowKit
set_option linter.unusedVariables false
set_option linter.unusedSimpArgs false

theorem bits_u64 (op : BinOp) (f : BitVec 64 → BitVec 64 → BitVec 64) (a b : Nat) (h : bits op .u64 (a : Int) (b : Int) = IntKind.u64.wrap ((f (BitVec.ofInt 64 (a : Int)) (BitVec.ofInt 64 (b : Int))).toNat : Int)) : bits op .u64 (a : Int) (b : Int) = (((f (BitVec.ofNat 64 a) (BitVec.ofNat 64 b)).toNat : Nat) : Int) := by
  rw [h, IntKind.wrap_u64, show BitVec.ofInt 64 (a : Int) = BitVec.ofNat 64 a by simp, show BitVec.ofInt 64 (b : Int) = BitVec.ofNat 64 b by simp]
  have := (f (BitVec.ofNat 64 a) (BitVec.ofNat 64 b)).isLt
  simp only [Nat.reducePow] at this
  omega
theorem and_low (a k : Nat) (hk : k ≤ 64) (ha : a < 18446744073709551616) : bits .and .u64 (a : Int) ((2 ^ k - 1 : Nat) : Int) = ((a % 2 ^ k : Nat) : Int) := by
  rw [bits_u64 .and (fun x y => x &&& y) a (2 ^ k - 1) rfl, BitVec.toNat_and]
  simp only [BitVec.toNat_ofNat]
  have h1 : 2 ^ k ≤ 2 ^ 64 := Nat.pow_le_pow_right (by omega) hk
  have h2 : 0 < 2 ^ k := Nat.two_pow_pos _
  simp only [Nat.reducePow] at h1 ⊢
  rw [Nat.mod_eq_of_lt ha, Nat.mod_eq_of_lt (by omega), Nat.and_two_pow_sub_one_eq_mod]
theorem andNot_low (a k : Nat) (hk : k ≤ 64) (ha : a < 18446744073709551616) : bits .andNot .u64 (a : Int) ((2 ^ k - 1 : Nat) : Int) = ((a / 2 ^ k * 2 ^ k : Nat) : Int) := by
  rw [bits_u64 .andNot (fun x y => x &&& ~~~ y) a (2 ^ k - 1) rfl]
  have h1 : 2 ^ k ≤ 2 ^ 64 := Nat.pow_le_pow_right (by omega) hk
  have h2 : 0 < 2 ^ k := Nat.two_pow_pos _
  congr 1
  apply Nat.eq_of_testBit_eq
  intro i
  rw [BitVec.toNat_and]
  simp only [BitVec.toNat_not, BitVec.toNat_ofNat]
  rw [Nat.mod_eq_of_lt (show a < 2 ^ 64 by simpa using ha), Nat.mod_eq_of_lt (show 2 ^ k - 1 < 2 ^ 64 by omega)]
  rw [Nat.testBit_and, Nat.testBit_mul_two_pow, Nat.testBit_div_two_pow]
  rw [show 2 ^ 64 - 1 - (2 ^ k - 1) = 2 ^ 64 - ((2 ^ k - 1) + 1) by omega, Nat.testBit_two_pow_sub_succ (by omega)]
  rw [Nat.testBit_two_pow_sub_one]
  by_cases hi : k ≤ i
  · simp [hi, show i - k + k = i by omega, show ¬ i < k by omega]
    intro h
    by_cases h64 : i < 64
    · exact h64
    · have : a < 2 ^ i := Nat.lt_of_lt_of_le (by simpa using ha) (Nat.pow_le_pow_right (by omega) (show 64 ≤ i by omega))
      rw [Nat.testBit_lt_two_pow this] at h
      cases h
  · simp [hi, show i < k by omega]
/-- The exponent of a word. -/
theorem exp_word (s : Bool) (r : Nat) (hr : r < 9223372036854775808) : bits .and .u64 ((Ieee.double.word s r : Nat) / 4503599627370496 : Int) 2047 = ((r / 4503599627370496 : Nat) : Int) := by
  have h0 : ((Ieee.double.word s r : Nat) / 4503599627370496 : Int) = ((Ieee.double.word s r / 4503599627370496 : Nat) : Int) := by omega
  have hw : Ieee.double.word s r < 18446744073709551616 := by unfold Ieee.Format.word; rw [double_facts.2.2.2.1]; split <;> omega
  rw [h0]
  have := and_low (Ieee.double.word s r / 4503599627370496) 11 (by omega) (by omega)
  rw [show ((2 ^ 11 - 1 : Nat) : Int) = 2047 from rfl] at this
  rw [this]
  congr 1
  unfold Ieee.Format.word
  rw [double_facts.2.2.2.1]
  simp only [Nat.reducePow]
  split <;> omega
theorem sign_word (s : Bool) (r : Nat) (hr : r < 9223372036854775808) : bits .and .u64 ((Ieee.double.word s r : Nat) : Int) 9223372036854775808 = ((Ieee.double.word s 0 : Nat) : Int) := by
  have hw : Ieee.double.word s r < 18446744073709551616 := by unfold Ieee.Format.word; rw [double_facts.2.2.2.1]; split <;> omega
  rw [show (9223372036854775808 : Int) = ((9223372036854775808 : Nat) : Int) from rfl, bits_u64 .and (fun x y => x &&& y) _ _ rfl, BitVec.toNat_and]
  simp only [BitVec.toNat_ofNat]
  simp only [Nat.reducePow]
  rw [Nat.mod_eq_of_lt hw, Nat.mod_eq_of_lt (by omega)]
  congr 1
  have h2 : (9223372036854775808 : Nat) = 2 ^ 63 := by decide
  unfold Ieee.Format.word
  rw [double_facts.2.2.2.1, h2]
  apply Nat.eq_of_testBit_eq
  intro i
  rw [Nat.testBit_and, Nat.testBit_two_pow]
  rw [h2] at hr
  cases s
  · simp only [Bool.false_eq_true, if_false, Nat.zero_testBit]
    by_cases hi : 63 = i
    · subst hi; rw [Nat.testBit_lt_two_pow hr]; rfl
    · simp [hi]
  · simp only [if_true, Nat.add_zero, Nat.testBit_two_pow]
    by_cases hi : 63 = i
    · subst hi
      rw [Nat.testBit_two_pow_add_eq, Nat.testBit_lt_two_pow hr]; rfl
    · simp [hi]
attribute [local irreducible] Calls
theorem or_one (s : Bool) : bits .or .u64 ((Ieee.double.word s 0 : Nat) : Int) 4607182418800017408 = ((Ieee.double.word s 4607182418800017408 : Nat) : Int) := by cases s <;> decide
theorem shr_half (e : Nat) (h : e < 52) : (2251799813685248 : Int) / 2 ^ e = ((2 ^ (51 - e) : Nat) : Int) := by
  have h1 : (2251799813685248 : Nat) / 2 ^ e = 2 ^ (51 - e) := by
    rw [show (2251799813685248 : Nat) = 2 ^ 51 by decide, Nat.pow_div (by omega) (by omega)]
  rw [← h1]
  simp
theorem shr_mask (e : Nat) (h : e < 52) : (4503599627370495 : Int) / 2 ^ e = ((2 ^ (52 - e) - 1 : Nat) : Int) := by
  have h1 : (4503599627370495 : Nat) / 2 ^ e = 2 ^ (52 - e) - 1 := by
    have hp : 0 < 2 ^ e := Nat.two_pow_pos _
    have hm : 2 ^ (52 - e) * 2 ^ e = 4503599627370496 := by rw [← Nat.pow_add, show 52 - e + e = 52 by omega]
    have ha : 0 < 2 ^ (52 - e) := Nat.two_pow_pos _
    rw [Nat.div_eq_iff hp]
    generalize 2 ^ (52 - e) = a at *
    generalize 2 ^ e = b at *
    have : (a - 1) * b = a * b - b := by rw [Nat.sub_mul, Nat.one_mul]
    omega
  rw [← h1]
  simp
theorem word_cut (s : Bool) (r h e : Nat) (he : e < 52) : Ieee.double.word s ((r + h) / 2 ^ (52 - e) * 2 ^ (52 - e)) = (Ieee.double.word s r + h) / 2 ^ (52 - e) * 2 ^ (52 - e) := by
  unfold Ieee.Format.word
  rw [double_facts.2.2.2.1]
  cases s
  · rfl
  · simp only [if_true]
    have hp : 0 < 2 ^ (52 - e) := Nat.two_pow_pos _
    have hm : 9223372036854775808 = 2 ^ (52 - e) * 2 ^ (11 + e) := by rw [← Nat.pow_add, show 52 - e + (11 + e) = 63 by omega]
    rw [hm, Nat.add_assoc, Nat.mul_add_div hp, Nat.add_mul, Nat.mul_comm (2 ^ (11 + e))]
end Go.Proofs.YtdnnjahdcabdmaaGreatDoor
/- What a logger keeps of a head, in the program (logged) and in the reference (l07Logged). -/
namespace Go.Proofs.YtdnnjahdcabdmaaGreatDoor
open Go.ChangeShapes Go.WideShapes Go.ChangeAt Go.RowKit Ieee
set_option linter.unusedVariables false
set_option linter.unusedSimpArgs false
attribute [local irreducible] Calls

theorem magW_zero : magW 0 = 0 := by simp [magW]
theorem magW_bin (e : Nat) : magW ((e + 1) * 4503599627370496) = 4503599627370496 * pw e := by
  rw [magW_ge (by omega), pw_eq, show (e + 1) * 4503599627370496 % 4503599627370496 = 0 by omega, show (e + 1) * 4503599627370496 / 4503599627370496 - 1 = e by omega]
theorem magW_one : magW 4607182418800017408 = one64 := by
  have h := magW_bin 1022
  have h2 := one64_split 52 (by omega)
  rw [show pw 52 = 4503599627370496 by rw [pw_eq], show 1074 - 52 = 1022 from rfl] at h2
  rw [h2]
  exact h
theorem toInt_i16 {z : Nat} {n : Int} (h : Val double z (n * (one64 : Int))) (h1 : -32768 ≤ n) (h2 : n ≤ 32767) : floatToIntVal .f64 z .i16 = some n := by
  unfold floatToIntVal
  have hp := one64_pos
  have e := toInt64_val h
  rw [Int.mul_tdiv_cancel _ (by omega)] at e
  rw [e]
  show (if IntKind.i16.min ≤ n ∧ n ≤ IntKind.i16.max then some n else none) = some n
  rw [if_pos ⟨h1, h2⟩]
/-! ### The reference. -/
theorem word_form (s : Bool) (r : Nat) (h : r < 9218868437227405312) : ∃ m k : Nat, double.read (double.word s r) = .number s m (-1074 + (k : Int)) ∧ m < 9007199254740992 ∧ magW r = m * 2 ^ k ∧ k ≤ r / 4503599627370496 - 1 := by
  obtain ⟨hb, hi, hl, hs, hf⟩ := double_facts
  have := read_word double s r (by rw [hs]; omega)
  rw [hb, hi, hl] at this
  by_cases h1 : r < 4503599627370496
  · rw [if_pos h1] at this
    exact ⟨r, 0, by rw [this]; simp, by omega, by unfold magW; rw [if_pos h1]; simp, by omega⟩
  · rw [if_neg h1, if_pos h] at this
    exact ⟨_, r / 4503599627370496 - 1, this, by omega, by unfold magW; rw [if_neg h1], Nat.le_refl _⟩
theorem sg_bound (s : Bool) {q : Nat} (h : q ≤ 32767) : sg s q ≤ 32767 ∧ -32767 ≤ sg s q := by
  unfold sg
  cases s
  · simp only [Bool.false_eq_true, if_false]; omega
  · simp only [if_true]; omega
theorem sg_natAbs (s : Bool) (n : Nat) : (sg s n).natAbs = n := by unfold sg; cases s <;> simp
theorem sg_of (D : Int) (s : Bool) (h : D ≠ 0 → s = decide (D < 0)) : D = sg s D.natAbs := by
  by_cases h0 : D = 0
  · subst h0; unfold sg; cases s <;> simp
  · rw [h h0]; unfold sg
    by_cases h1 : D < 0
    · rw [decide_eq_true h1, if_pos rfl]; omega
    · rw [decide_eq_false h1]; simp only [Bool.false_eq_true, if_false]; omega
/-- A difference of few digits is exact. -/
theorem sub_exact {y z : Nat} {s : Bool} {m k : Nat} {Y : Int} (hy : double.read y = .number s m (-1074 + (k : Int))) (hz : Val double z Y) (m2 : Nat) (hd : (sg s (m * 2 ^ k) - Y).natAbs = m2 * 2 ^ k) (hm2 : m2 < 9007199254740992) (hk : k ≤ 2044) :
    ∃ x, floatBits .sub .f64 y z = some x ∧ Val double x (sg s (m * 2 ^ k) - Y) := by
  obtain ⟨t, n, l, h2, rfl⟩ := hz
  rw [double_facts.2.2.1] at h2
  show ∃ x, ((double.read y).sum (double.read z).opposite).map double.write = some x ∧ _
  rw [hy, h2]
  simp only [Datum.opposite, Datum.sum, Option.map_some]
  obtain ⟨u, hu⟩ : ∃ u, u = min k l := ⟨_, rfl⟩
  have e0 : min (-1074 + (k : Int)) (-1074 + (l : Int)) = -1074 + (u : Int) := by omega
  rw [e0, show (-1074 + (k : Int) - (-1074 + (u : Int))).toNat = k - u by omega, show (-1074 + (l : Int) - (-1074 + (u : Int))).toNat = l - u by omega, signed_sg, signed_sg]
  have eD : (sg s (m * 2 ^ (k - u)) + sg (!t) (n * 2 ^ (l - u))) * (2 ^ u : Nat) = sg s (m * 2 ^ k) - sg t (n * 2 ^ l) := by
    rw [Int.add_mul, ← sg_mul, ← sg_mul, Nat.mul_assoc, Nat.mul_assoc, ← Nat.pow_add, ← Nat.pow_add, Nat.sub_add_cancel (by omega), Nat.sub_add_cancel (by omega)]
    have : sg (!t) (n * 2 ^ l) = - sg t (n * 2 ^ l) := by unfold sg; cases t <;> simp
    rw [this]; omega
  rw [← eD] at hd ⊢
  generalize sg s (m * 2 ^ (k - u)) + sg (!t) (n * 2 ^ (l - u)) = D at *
  have hA : D.natAbs = m2 * 2 ^ (k - u) := by
    rw [Int.natAbs_mul, Int.natAbs_natCast, show m2 * 2 ^ k = m2 * 2 ^ (k - u) * 2 ^ u by rw [Nat.mul_assoc, ← Nat.pow_add, Nat.sub_add_cancel (by omega)]] at hd
    exact Nat.eq_of_mul_eq_mul_right (Nat.two_pow_pos _) hd
  obtain ⟨r, g1, g2, g3⟩ := nearest_exact (if D = 0 then s && !t else decide (D < 0)) m2 (k - u) u hm2 (by omega)
  refine ⟨_, rfl, ?_⟩
  show Val double (double.nearest (if D = 0 then s && !t else decide (D < 0)) D.natAbs (-1074 + (u : Int))) _
  rw [hA, g1]
  have := val_word (if D = 0 then s && !t else decide (D < 0)) r g2
  rw [g3, Nat.pow_add, ← Nat.mul_assoc, ← hA, sg_mul, ← sg_of D _ (fun h => by rw [if_neg h])] at this
  exact this
theorem rnd_split (M H : Nat) (h : one64 = 2 * H) : rnd M = M / one64 + if H ≤ M % one64 then 1 else 0 := by
  have hp := one64_pos
  have hdm := Nat.div_add_mod M one64
  have hlt := Nat.mod_lt M hp
  unfold rnd
  generalize M % one64 = ρ at *
  generalize M / one64 = q at *
  have e : 2 * M + one64 = 2 * one64 * q + (2 * ρ + one64) := by rw [← hdm, Nat.mul_add, Nat.mul_assoc]; omega
  rw [e, Nat.mul_add_div (by omega)]
  congr 1
  by_cases h1 : H ≤ ρ
  · rw [if_pos h1, Nat.div_eq_iff (by omega)]; omega
  · rw [if_neg h1, Nat.div_eq_iff (by omega)]; omega
/-- What is left of a number where its whole part is taken away. -/
theorem rest_val (s : Bool) (r : Nat) (hr : r < 9218868437227405312) (he : r / 4503599627370496 < 1075) (hq : magW r / one64 < 9007199254740992) :
    ∃ x, floatBits .sub .f64 (double.word s r) (floatOfInt .f64 (sg s (magW r / one64))) = some x ∧ Val double x (sg s (magW r % one64)) := by
  obtain ⟨m, k, h1, h2, h3, h4⟩ := word_form s r hr
  have hfn : Val double (floatOfInt .f64 (sg s (magW r / one64))) (sg s (magW r / one64) * (one64 : Int)) := by
    generalize magW r / one64 = q at *
    show Val double (double.nearest (decide (sg s q < 0)) (sg s q).natAbs 0) _
    obtain ⟨c, hc⟩ : ∃ c : Nat, c = 1074 := ⟨_, rfl⟩
    have hone : one64 = pw c := by rw [hc]; rfl
    obtain ⟨r', g1, g2, g3⟩ := nearest_exact (decide (sg s q < 0)) q 0 c hq (by omega)
    rw [Nat.pow_zero, Nat.mul_one, show (-1074 + (c : Int)) = 0 by omega] at g1
    rw [sg_natAbs, g1]
    have := val_word (decide (sg s q < 0)) r' g2
    rw [g3, Nat.zero_add, ← pw_eq, ← hone, sg_mul] at this
    have e : sg (decide (sg s q < 0)) q = sg s q := by
      have := sg_of (sg s q) (decide (sg s q < 0)) (fun _ => rfl)
      rw [sg_natAbs] at this
      exact this.symm
    rw [e] at this
    exact this
  have hd : sg s (m * 2 ^ k) - sg s (magW r / one64) * (one64 : Int) = sg s (magW r % one64) := by
    rw [← h3, ← sg_mul]
    have := Nat.div_add_mod (magW r) one64
    rw [Nat.mul_comm] at this
    unfold sg
    cases s
    · simp only [Bool.false_eq_true, if_false]; omega
    · simp only [if_true]; omega
  have ho : one64 = 2 ^ k * 2 ^ (1074 - k) := by rw [one64_split k (by omega), pw_eq, pw_eq]
  have hm : magW r % one64 = m % 2 ^ (1074 - k) * 2 ^ k := by
    rw [h3, ho, Nat.mul_comm m, Nat.mul_mod_mul_left, Nat.mul_comm]
  obtain ⟨x, g1, g2⟩ := sub_exact h1 hfn (m % 2 ^ (1074 - k)) (by rw [hd, sg_natAbs, hm]) (Nat.lt_of_le_of_lt (Nat.mod_le _ _) h2) (by omega)
  rw [hd] at g2
  exact ⟨x, g1, g2⟩

theorem order_f64_ge {a b : Nat} {x y : Int} (ha : Val double a x) (hb : Val double b y) : (FloatKind.f64.format.order a b == some .gt || FloatKind.f64.format.order a b == some .eq) = decide (y ≤ x) := order_ge ha hb
theorem order_f64_le {a b : Nat} {x y : Int} (ha : Val double a x) (hb : Val double b y) : (FloatKind.f64.format.order a b == some .lt || FloatKind.f64.format.order a b == some .eq) = decide (x ≤ y) := order_le ha hb
theorem lgv_pos {s : Bool} {r : Nat} (h : 32767 * (one64 : Int) ≤ sg s (magW r)) : lgv s r = 32767 := by
  have hp := one64_pos
  have hr := rnd_split
  unfold sg at h
  cases s
  · simp only [Bool.false_eq_true, if_false] at h
    have : 32767 ≤ rnd (magW r) := by
      unfold rnd
      rw [Nat.le_div_iff_mul_le (by omega)]
      have : 32767 * one64 ≤ magW r := by omega
      omega
    unfold lgv sg
    simp only [Bool.false_eq_true, if_false]
    omega
  · simp only [if_true] at h; omega
theorem lgv_neg {s : Bool} {r : Nat} (h : sg s (magW r) ≤ -32768 * (one64 : Int)) : lgv s r = -32768 := by
  have hp := one64_pos
  unfold sg at h
  cases s
  · simp only [Bool.false_eq_true, if_false] at h; omega
  · simp only [if_true] at h
    have : 32768 ≤ rnd (magW r) := by
      unfold rnd
      rw [Nat.le_div_iff_mul_le (by omega)]
      have : 32768 * one64 ≤ magW r := by omega
      omega
    unfold lgv sg
    simp only [if_true]
    omega
theorem clamp_mid {x : Int} (h1 : -32768 ≤ x) (h2 : x ≤ 32767) : max (min x 32767) (-32768) = x := by rw [Int.min_eq_left h2, Int.max_eq_left h1]
/-- The number that the reference ends with, between both bounds. -/
theorem lgv_mid {s : Bool} {r H : Nat} (hH : one64 = 2 * H) (h1 : ¬ 32767 * (one64 : Int) ≤ sg s (magW r)) (h2 : ¬ sg s (magW r) ≤ -32768 * (one64 : Int)) :
    magW r / one64 ≤ 32767 ∧ -32768 ≤ lgv s r ∧ lgv s r ≤ 32767 ∧ lgv s r = sg s (magW r / one64) + (if (H : Int) ≤ sg s (magW r % one64) then 1 else 0) - (if sg s (magW r % one64) ≤ -(H : Int) then 1 else 0) := by
  have hp := one64_pos
  have hs := rnd_split (magW r) H hH
  have hdm := Nat.div_add_mod (magW r) one64
  have hlt := Nat.mod_lt (magW r) hp
  have hq : magW r / one64 ≤ 32767 := by
    have : magW r < 32768 * one64 := by
      unfold sg at h1 h2
      cases s
      · simp only [Bool.false_eq_true, if_false] at h1; omega
      · simp only [if_true] at h2; omega
    have := (Nat.div_lt_iff_lt_mul hp).2 this
    omega
  have hq2 : s = false → magW r / one64 ≤ 32766 := by
    intro h; subst h
    unfold sg at h1
    simp only [Bool.false_eq_true, if_false] at h1
    have : magW r < 32767 * one64 := by omega
    have := (Nat.div_lt_iff_lt_mul hp).2 this
    omega
  refine ⟨hq, by unfold lgv; omega, by unfold lgv; omega, ?_⟩
  unfold lgv
  rw [hs]
  generalize magW r % one64 = ρ at *
  generalize magW r / one64 = q at *
  clear h1 h2 hs hdm
  unfold sg
  cases s
  · have hq3 := hq2 rfl
    clear hq2
    simp only [Bool.false_eq_true, if_false]
    by_cases h : H ≤ ρ
    · rw [if_pos h, if_pos (show (H : Int) ≤ ρ by omega), if_neg (by omega), clamp_mid (by omega) (by omega)]; omega
    · rw [if_neg h, if_neg (show ¬ (H : Int) ≤ ρ by omega), if_neg (by omega), clamp_mid (by omega) (by omega)]; omega
  · clear hq2
    simp only [if_true]
    by_cases h : H ≤ ρ
    · rw [if_pos h, if_neg (by omega), if_pos (by omega), clamp_mid (by omega) (by omega)]; omega
    · rw [if_neg h, if_neg (by omega), if_neg (by omega), clamp_mid (by omega) (by omega)]; omega
end Go.Proofs.YtdnnjahdcabdmaaGreatDoor
