/- What a logger keeps of a head: math.Round walked through its bits. -/
import Derived.Test.YtnfoemgiebplmaaLogLev
namespace Go.Proofs.Ytnfoemgiebplmaa
open Go.ChangeShapes Go.WideShapes Go.ChangeAt Go.RowKit
set_option linter.unusedVariables false
set_option linter.unusedSimpArgs false

theorem bits_u64 (op : BinOp) (f : BitVec 64 → BitVec 64 → BitVec 64) (a b : Nat) (h : bits op .u64 (a : Int) (b : Int) = IntKind.u64.wrap ((f (BitVec.ofInt 64 (a : Int)) (BitVec.ofInt 64 (b : Int))).toNat : Int)) : bits op .u64 (a : Int) (b : Int) = (((f (BitVec.ofNat 64 a) (BitVec.ofNat 64 b)).toNat : Nat) : Int) := by
  rw [h, IntKind.wrap_u64, show BitVec.ofInt 64 (a : Int) = BitVec.ofNat 64 a by simp, show BitVec.ofInt 64 (b : Int) = BitVec.ofNat 64 b by simp]
  have := (f (BitVec.ofNat 64 a) (BitVec.ofNat 64 b)).isLt
  simp only [Nat.reducePow] at this
  omega
theorem and_low (a k : Nat) (hk : k ≤ 64) (ha : a < 18446744073709551616) : bits .and .u64 (a : Int) ((2 ^ k - 1 : Nat) : Int) = ((a % 2 ^ k : Nat) : Int) := by
  rw [bits_u64 .and (fun x y => x &&& y) a (2 ^ k - 1) rfl, BitVec.toNat_and]
  simp only [BitVec.toNat_ofNat]
  have h1 : 2 ^ k ≤ 2 ^ 64 := Nat.pow_le_pow_right (by omega) hk
  have h2 : 0 < 2 ^ k := Nat.two_pow_pos _
  simp only [Nat.reducePow] at h1 ⊢
  rw [Nat.mod_eq_of_lt ha, Nat.mod_eq_of_lt (by omega), Nat.and_two_pow_sub_one_eq_mod]
theorem andNot_low (a k : Nat) (hk : k ≤ 64) (ha : a < 18446744073709551616) : bits .andNot .u64 (a : Int) ((2 ^ k - 1 : Nat) : Int) = ((a / 2 ^ k * 2 ^ k : Nat) : Int) := by
  rw [bits_u64 .andNot (fun x y => x &&& ~~~ y) a (2 ^ k - 1) rfl]
  have h1 : 2 ^ k ≤ 2 ^ 64 := Nat.pow_le_pow_right (by omega) hk
  have h2 : 0 < 2 ^ k := Nat.two_pow_pos _
  congr 1
  apply Nat.eq_of_testBit_eq
  intro i
  rw [BitVec.toNat_and]
  simp only [BitVec.toNat_not, BitVec.toNat_ofNat]
  rw [Nat.mod_eq_of_lt (show a < 2 ^ 64 by simpa using ha), Nat.mod_eq_of_lt (show 2 ^ k - 1 < 2 ^ 64 by omega)]
  rw [Nat.testBit_and, Nat.testBit_mul_two_pow, Nat.testBit_div_two_pow]
  rw [show 2 ^ 64 - 1 - (2 ^ k - 1) = 2 ^ 64 - ((2 ^ k - 1) + 1) by omega, Nat.testBit_two_pow_sub_succ (by omega)]
  rw [Nat.testBit_two_pow_sub_one]
  by_cases hi : k ≤ i
  · simp [hi, show i - k + k = i by omega, show ¬ i < k by omega]
    intro h
    by_cases h64 : i < 64
    · exact h64
    · have : a < 2 ^ i := Nat.lt_of_lt_of_le (by simpa using ha) (Nat.pow_le_pow_right (by omega) (show 64 ≤ i by omega))
      rw [Nat.testBit_lt_two_pow this] at h
      cases h
  · simp [hi, show i < k by omega]
/-- The exponent of a word. -/
theorem exp_word (s : Bool) (r : Nat) (hr : r < 9223372036854775808) : bits .and .u64 ((Ieee.double.word s r : Nat) / 4503599627370496 : Int) 2047 = ((r / 4503599627370496 : Nat) : Int) := by
  have h0 : ((Ieee.double.word s r : Nat) / 4503599627370496 : Int) = ((Ieee.double.word s r / 4503599627370496 : Nat) : Int) := by omega
  have hw : Ieee.double.word s r < 18446744073709551616 := by unfold Ieee.Format.word; rw [double_facts.2.2.2.1]; split <;> omega
  rw [h0]
  have := and_low (Ieee.double.word s r / 4503599627370496) 11 (by omega) (by omega)
  rw [show ((2 ^ 11 - 1 : Nat) : Int) = 2047 from rfl] at this
  rw [this]
  congr 1
  unfold Ieee.Format.word
  rw [double_facts.2.2.2.1]
  simp only [Nat.reducePow]
  split <;> omega
theorem sign_word (s : Bool) (r : Nat) (hr : r < 9223372036854775808) : bits .and .u64 ((Ieee.double.word s r : Nat) : Int) 9223372036854775808 = ((Ieee.double.word s 0 : Nat) : Int) := by
  have hw : Ieee.double.word s r < 18446744073709551616 := by unfold Ieee.Format.word; rw [double_facts.2.2.2.1]; split <;> omega
  rw [show (9223372036854775808 : Int) = ((9223372036854775808 : Nat) : Int) from rfl, bits_u64 .and (fun x y => x &&& y) _ _ rfl, BitVec.toNat_and]
  simp only [BitVec.toNat_ofNat]
  simp only [Nat.reducePow]
  rw [Nat.mod_eq_of_lt hw, Nat.mod_eq_of_lt (by omega)]
  congr 1
  have h2 : (9223372036854775808 : Nat) = 2 ^ 63 := by decide
  unfold Ieee.Format.word
  rw [double_facts.2.2.2.1, h2]
  apply Nat.eq_of_testBit_eq
  intro i
  rw [Nat.testBit_and, Nat.testBit_two_pow]
  rw [h2] at hr
  cases s
  · simp only [Bool.false_eq_true, if_false, Nat.zero_testBit]
    by_cases hi : 63 = i
    · subst hi; rw [Nat.testBit_lt_two_pow hr]; rfl
    · simp [hi]
  · simp only [if_true, Nat.add_zero, Nat.testBit_two_pow]
    by_cases hi : 63 = i
    · subst hi
      rw [Nat.testBit_two_pow_add_eq, Nat.testBit_lt_two_pow hr]; rfl
    · simp [hi]
attribute [local irreducible] Calls
set_option maxRecDepth 100000 in
set_option maxHeartbeats 400000 in
theorem round_small (s : Bool) (r : Nat) (hr : r / 4503599627370496 < 1022) (hr2 : r < 9223372036854775808) (w : World) :
    Calls Try.prog 120 #[.float .f64 (Ieee.double.word s r)] w fun e w' => e = .returned (.float .f64 (Ieee.double.word s 0)) ∧ w' = w := by
  have hcb := fun (b : Nat) (w : World) => run_f64bits b w
  have hcf := fun (w : World) => run_f64from ((Ieee.double.word s 0 : Nat) : Int) w
  rw [Int.toNat_natCast] at hcf
  have he := exp_word s r hr2
  have hs := sign_word s r hr2
  have b0 : (0 : Int) ≤ ((r / 4503599627370496 : Nat) : Int) := by omega
  have b1 : ((r / 4503599627370496 : Nat) : Int) < 1023 := by omega
  have b2 : (((r / 4503599627370496 : Nat) : Int) == 1022) = false := by simp; omega
  generalize r / 4503599627370496 = e at *
  generalize Ieee.double.word s 0 = z at *
  go_enter Try.func120, Try.ntmps120
  go_wp2_with fail
  go_ret
  exact ⟨rfl, rfl⟩
theorem or_one (s : Bool) : bits .or .u64 ((Ieee.double.word s 0 : Nat) : Int) 4607182418800017408 = ((Ieee.double.word s 4607182418800017408 : Nat) : Int) := by cases s <;> decide
set_option maxRecDepth 100000 in
set_option maxHeartbeats 400000 in
theorem round_half (s : Bool) (r : Nat) (hr : r / 4503599627370496 = 1022) (hr2 : r < 9223372036854775808) (w : World) :
    Calls Try.prog 120 #[.float .f64 (Ieee.double.word s r)] w fun e w' => e = .returned (.float .f64 (Ieee.double.word s 4607182418800017408)) ∧ w' = w := by
  have hcb := fun (b : Nat) (w : World) => run_f64bits b w
  have hcf := fun (w : World) => run_f64from ((Ieee.double.word s 4607182418800017408 : Nat) : Int) w
  rw [Int.toNat_natCast] at hcf
  have he := exp_word s r hr2
  have hs := sign_word s r hr2
  have ho := or_one s
  rw [hr] at he
  have he : bits .and .u64 ((Ieee.double.word s r : Nat) / 4503599627370496 : Int) 2047 = 1022 := he
  generalize Ieee.double.word s 0 = z at *
  generalize Ieee.double.word s 4607182418800017408 = z1 at *
  go_enter Try.func120, Try.ntmps120
  go_wp2_with fail
  go_ret
  exact ⟨rfl, rfl⟩
theorem shr_half (e : Nat) (h : e < 52) : (2251799813685248 : Int) / 2 ^ e = ((2 ^ (51 - e) : Nat) : Int) := by
  have h1 : (2251799813685248 : Nat) / 2 ^ e = 2 ^ (51 - e) := by
    rw [show (2251799813685248 : Nat) = 2 ^ 51 by decide, Nat.pow_div (by omega) (by omega)]
  rw [← h1]
  simp
theorem shr_mask (e : Nat) (h : e < 52) : (4503599627370495 : Int) / 2 ^ e = ((2 ^ (52 - e) - 1 : Nat) : Int) := by
  have h1 : (4503599627370495 : Nat) / 2 ^ e = 2 ^ (52 - e) - 1 := by
    have hp : 0 < 2 ^ e := Nat.two_pow_pos _
    have hm : 2 ^ (52 - e) * 2 ^ e = 4503599627370496 := by rw [← Nat.pow_add, show 52 - e + e = 52 by omega]
    have ha : 0 < 2 ^ (52 - e) := Nat.two_pow_pos _
    rw [Nat.div_eq_iff hp]
    generalize 2 ^ (52 - e) = a at *
    generalize 2 ^ e = b at *
    have : (a - 1) * b = a * b - b := by rw [Nat.sub_mul, Nat.one_mul]
    omega
  rw [← h1]
  simp
theorem word_cut (s : Bool) (r h e : Nat) (he : e < 52) : Ieee.double.word s ((r + h) / 2 ^ (52 - e) * 2 ^ (52 - e)) = (Ieee.double.word s r + h) / 2 ^ (52 - e) * 2 ^ (52 - e) := by
  unfold Ieee.Format.word
  rw [double_facts.2.2.2.1]
  cases s
  · rfl
  · simp only [if_true]
    have hp : 0 < 2 ^ (52 - e) := Nat.two_pow_pos _
    have hm : 9223372036854775808 = 2 ^ (52 - e) * 2 ^ (11 + e) := by rw [← Nat.pow_add, show 52 - e + (11 + e) = 63 by omega]
    rw [hm, Nat.add_assoc, Nat.mul_add_div hp, Nat.add_mul, Nat.mul_comm (2 ^ (11 + e))]
set_option maxRecDepth 100000 in
set_option maxHeartbeats 400000 in
theorem round_mid (s : Bool) (r e : Nat) (he0 : r / 4503599627370496 = 1023 + e) (hle : e < 52) (hr2 : r < 9223372036854775808) (w : World) :
    Calls Try.prog 120 #[.float .f64 (Ieee.double.word s r)] w fun e' w' => e' = .returned (.float .f64 (Ieee.double.word s ((r + 2 ^ (51 - e)) / 2 ^ (52 - e) * 2 ^ (52 - e)))) ∧ w' = w := by
  have hz : Ieee.double.word s r + 2251799813685248 < 18446744073709551616 := by unfold Ieee.Format.word; rw [double_facts.2.2.2.1]; split <;> omega
  have he := exp_word s r hr2
  rw [he0] at he
  rw [word_cut s r _ e hle]
  clear he0
  generalize Ieee.double.word s r = z at *
  have hh : 2 ^ (51 - e) ≤ 2251799813685248 := by
    have := Nat.pow_le_pow_right (n := 2) (by omega) (show 51 - e ≤ 51 by omega)
    simpa using this
  obtain ⟨X, hXn⟩ : ∃ X, X = z + 2 ^ (51 - e) := ⟨_, rfl⟩
  obtain ⟨M, hMn⟩ : ∃ M, M = 2 ^ (52 - e) - 1 := ⟨_, rfl⟩
  obtain ⟨Y, hYn⟩ : ∃ Y, Y = X / 2 ^ (52 - e) * 2 ^ (52 - e) := ⟨_, rfl⟩
  have hX : IntKind.u64.wrap ((z : Int) + 2251799813685248 / 2 ^ e) = (X : Int) := by rw [shr_half e hle, IntKind.wrap_u64, hXn]; generalize 2 ^ (51 - e) = q at *; omega
  have hM : (4503599627370495 : Int) / 2 ^ e = (M : Int) := by rw [shr_mask e hle, hMn]
  have hY : bits .andNot .u64 (X : Int) (M : Int) = (Y : Int) := by rw [hMn, hYn]; exact andNot_low X (52 - e) (by omega) (by omega)
  rw [← hXn, ← hYn]
  clear hYn hMn hXn hh hz
  have hcb := fun (b : Nat) (w : World) => run_f64bits b w
  have hcf := fun (w : World) => run_f64from (Y : Int) w
  rw [Int.toNat_natCast] at hcf
  obtain ⟨E, hE⟩ : ∃ E : Nat, E = 1023 + e := ⟨_, rfl⟩
  rw [← hE] at he
  have b1 : decide ((E : Int) < 1023) = false := by simp; omega
  have b2 : decide ((E : Int) < 1075) = true := by simp; omega
  have hw : IntKind.u64.wrap ((E : Int) - 1023) = (e : Int) := by rw [IntKind.wrap_u64]; omega
  clear hE
  have c0 : (0 : Int) ≤ e := by omega
  have c1 : (e : Int) < 64 := by omega
  go_enter Try.func120, Try.ntmps120
  go_wp2_with fail
  go_ret
  exact ⟨rfl, rfl⟩
end Go.Proofs.Ytnfoemgiebplmaa
