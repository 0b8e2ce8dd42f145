/- Whole numbers written with decimal digits: plain laws; no statement is proved here. -/
import Derived.Test.YtcojgmgoiopboaaGreatDoorSplitT
import Derived.Lib.ItoaMem
namespace Go.Proofs.YtcojgmgoiopboaaGreatDoor
open Go.ChangeShapes Go.WideShapes Go.ChangeAt Go.RowKit
set_option linter.unusedVariables false

/-- The value of decimal digits behind a. -/
def decV : Nat → List UInt8 → Option Nat
  | a, [] => some a
  | a, c :: l => if 48 ≤ c.toNat ∧ c.toNat ≤ 57 then decV (a * 10 + (c.toNat - 48)) l else none
/-- The number of one to nine digits with a text, as the reference reads it. -/
def decN (l : List UInt8) : Option Nat := if 1 ≤ l.length ∧ l.length ≤ 9 ∧ ¬ (l.head? = some 48 ∧ 1 < l.length) then decV 0 l else none

theorem decV_app : ∀ (l m : List UInt8) (a : Nat), decV a (l ++ m) = (decV a l).bind fun b => decV b m
  | [], m, a => rfl
  | c :: l, m, a => by
    show (if _ then _ else _) = ((if _ then _ else _ : Option Nat)).bind _
    split
    · exact decV_app l m _
    · rfl
theorem decV_le : ∀ (l : List UInt8) (a b : Nat), decV a l = some b → a * 10 ^ l.length ≤ b ∧ b < (a + 1) * 10 ^ l.length
  | [], a, b, h => by injection h with h; subst h; simp
  | c :: l, a, b, h => by
    have h : (if 48 ≤ c.toNat ∧ c.toNat ≤ 57 then decV (a * 10 + (c.toNat - 48)) l else none) = some b := h
    split at h
    · rename_i hc
      obtain ⟨h1, h2⟩ := decV_le l _ _ h
      have hp : 0 < 10 ^ l.length := Nat.pow_pos (by decide)
      have e : (c :: l).length = l.length + 1 := rfl
      rw [e, Nat.pow_succ]
      have e1 : a * (10 ^ l.length * 10) = (a * 10) * 10 ^ l.length := by rw [Nat.mul_comm (10 ^ l.length) 10, Nat.mul_assoc]
      have e2 : (a + 1) * (10 ^ l.length * 10) = (a * 10 + 10) * 10 ^ l.length := by rw [Nat.mul_comm (10 ^ l.length) 10, ← Nat.mul_assoc, Nat.add_mul]
      rw [e1, e2]
      refine ⟨Nat.le_trans (Nat.mul_le_mul_right _ (by omega)) h1, Nat.lt_of_lt_of_le h2 (Nat.mul_le_mul_right _ (by omega))⟩
    · cases h
theorem toNat_digit {n : Nat} (h : n < 10) : (UInt8.ofNat (48 + n)).toNat = 48 + n := by rw [UInt8.toNat_ofNat']; omega
theorem digit_toNat {c : UInt8} (h : 48 ≤ c.toNat ∧ c.toNat ≤ 57) : c = UInt8.ofNat (48 + (c.toNat - 48)) := by
  apply UInt8.toNat_inj.1
  rw [toNat_digit (by omega)]; omega
theorem decV_one (a d : Nat) (h : d < 10) : decV a [UInt8.ofNat (48 + d)] = some (a * 10 + d) := by
  unfold decV
  rw [if_pos (by rw [toNat_digit h]; omega), toNat_digit h]
  show some _ = _
  congr 1; omega
theorem decV_decDigits : ∀ (k u : Nat), u ≤ k → decV 0 (Lib.decDigits u) = some u
  | k, u, h => by
    by_cases hu : u < 10
    · rw [Lib.decDigits, dif_pos hu, decV_one 0 u hu]; simp
    · rw [Lib.decDigits, dif_neg hu, decV_app]
      cases k with
      | zero => omega
      | succ k =>
        rw [decV_decDigits k (u / 10) (by omega)]
        show decV (u / 10) [UInt8.ofNat (48 + u % 10)] = _
        rw [decV_one _ _ (Nat.mod_lt _ (by decide))]
        congr 1; omega
theorem decDigits_pos (u : Nat) : 1 ≤ (Lib.decDigits u).length := by
  rw [Lib.decDigits]; split <;> simp
theorem decDigits_head : ∀ (k u : Nat), u ≤ k → (Lib.decDigits u).head? = some 48 → u = 0
  | k, u, h, hh => by
    by_cases hu : u < 10
    · rw [Lib.decDigits, dif_pos hu] at hh
      have hh : UInt8.ofNat (48 + u) = 48 := by simpa using hh
      have := congrArg UInt8.toNat hh
      rw [toNat_digit hu] at this
      have h48 : (48 : UInt8).toNat = 48 := rfl
      omega
    · rw [Lib.decDigits, dif_neg hu] at hh
      cases k with
      | zero => omega
      | succ k =>
        have hp := decDigits_pos (u / 10)
        have h2 : (Lib.decDigits (u / 10)).head? = some 48 := by
          cases hd : Lib.decDigits (u / 10) with
          | nil => rw [hd] at hp; simp at hp
          | cons x t => rw [hd] at hh; simpa using hh
        have := decDigits_head k (u / 10) (by omega) h2
        omega
theorem decDigits_len_le : ∀ (k u : Nat), u < 10 ^ (k + 1) → (Lib.decDigits u).length ≤ k + 1
  | 0, u, h => by
    have h : u < 10 := by simpa using h
    rw [Lib.decDigits, dif_pos h]; simp
  | k + 1, u, h => by
    by_cases hu : u < 10
    · rw [Lib.decDigits, dif_pos hu]; simp
    · rw [Lib.decDigits, dif_neg hu]
      have := decDigits_len_le k (u / 10) (by
        apply Nat.div_lt_of_lt_mul; rw [Nat.pow_succ, Nat.mul_comm] at h; exact h)
      simp; omega
theorem decN_digits {u : Nat} (h : u < 1000000000) : decN (Lib.decDigits u) = some u := by
  unfold decN
  rw [if_pos, decV_decDigits u u (Nat.le_refl _)]
  refine ⟨decDigits_pos u, decDigits_len_le 8 u (by simpa using h), fun ⟨h1, h2⟩ => ?_⟩
  have := decDigits_head u u (Nat.le_refl _) h1
  subst this
  rw [Lib.decDigits, dif_pos (by decide)] at h2
  simp at h2
/-- Digits without a zero ahead are their number's numeral. -/
theorem digits_of_decV : ∀ (n : Nat) (l : List UInt8) (b : Nat), l.length ≤ n → decV 0 l = some b → 1 ≤ l.length → ¬ (l.head? = some 48 ∧ 1 < l.length) → Lib.decDigits b = l
  | n, l, b, hn, h, h1, h2 => by
    rcases List.eq_nil_or_concat l with rfl | ⟨m, c, rfl⟩
    · simp at h1
    · have hm : m.concat c = m ++ [c] := by simp
      rw [hm] at h h1 h2 hn ⊢
      rw [decV_app] at h
      cases hv : decV 0 m with
      | none => rw [hv] at h; cases h
      | some a =>
        rw [hv] at h
        have h : (if 48 ≤ c.toNat ∧ c.toNat ≤ 57 then some (a * 10 + (c.toNat - 48)) else none) = some b := h
        split at h
        · rename_i hc
          injection h with h
          have ec := digit_toNat hc
          by_cases hm0 : m = []
          · subst hm0
            injection hv with hv
            rw [Lib.decDigits, dif_pos (by omega), ← h, ← hv]
            rw [ec]
            have : UInt8.ofNat (48 + (c.toNat - 48)) = c := ec.symm
            simp [this]
          · have hml : 1 ≤ m.length := List.length_pos_iff.2 hm0
            have hml2 : m.length ≤ n - 1 := by simp at hn; omega
            have hh : ¬ (m.head? = some 48 ∧ 1 < m.length) := fun ⟨q1, q2⟩ => h2 ⟨by
              cases m with
              | nil => simp at hm0
              | cons x t => simpa using q1, by simp; omega⟩
            have hhead : m.head? ≠ some 48 := fun q => h2 ⟨by
              cases m with
              | nil => simp at hm0
              | cons x t => simpa using q, by simp; omega⟩
            cases n with
            | zero => simp at hn
            | succ n =>
              have ih := digits_of_decV n m a (by simp at hn; omega) hv hml hh
              have ha : a ≠ 0 := fun e => by
                subst e
                have e0 : Lib.decDigits 0 = [48] := by rw [Lib.decDigits, dif_pos (by decide)]; rfl
                rw [e0] at ih
                rw [← ih] at hhead
                simp at hhead
              rw [Lib.decDigits, dif_neg (by omega), ← h, show (a * 10 + (c.toNat - 48)) / 10 = a by omega, show (a * 10 + (c.toNat - 48)) % 10 = c.toNat - 48 by omega, ih, ← ec]
        · cases h
theorem decN_some {l : List UInt8} {b : Nat} (h : decN l = some b) : Lib.decDigits b = l ∧ b < 1000000000 := by
  unfold decN at h
  split at h
  · rename_i hc
    obtain ⟨h1, h2, h3⟩ := hc
    refine ⟨digits_of_decV l.length l b (Nat.le_refl _) h h1 h3, ?_⟩
    have h4 := (decV_le l 0 b h).2
    have h5 : 10 ^ l.length ≤ 10 ^ 9 := Nat.pow_le_pow_right (by decide) h2
    have h6 : 10 ^ 9 = 1000000000 := by decide
    omega
  · cases h
/-- All bytes of a numeral are digits. -/
theorem decDigits_digits : ∀ (k u : Nat), u ≤ k → ∀ c ∈ Lib.decDigits u, 48 ≤ c.toNat ∧ c.toNat ≤ 57
  | k, u, h, c, hc => by
    by_cases hu : u < 10
    · rw [Lib.decDigits, dif_pos hu] at hc
      have hc : c = UInt8.ofNat (48 + u) := by simpa using hc
      rw [hc, toNat_digit hu]; omega
    · rw [Lib.decDigits, dif_neg hu] at hc
      cases k with
      | zero => omega
      | succ k =>
        rcases List.mem_append.1 hc with hc | hc
        · exact decDigits_digits k (u / 10) (by omega) c hc
        · have hc : c = UInt8.ofNat (48 + u % 10) := by simpa using hc
          rw [hc, toNat_digit (Nat.mod_lt _ (by decide))]
          have := Nat.mod_lt u (show 10 > 0 by decide)
          omega
end Go.Proofs.YtcojgmgoiopboaaGreatDoor
