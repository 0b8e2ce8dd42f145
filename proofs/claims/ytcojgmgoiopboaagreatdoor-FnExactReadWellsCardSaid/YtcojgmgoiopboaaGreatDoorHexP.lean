/- Numbers written with eight digits to the base 16: plain laws; no statement is proved here. -/
import Derived.Test.YtcojgmgoiopboaaGreatDoorFlt
import Derived.Lib.ParseIntBMem
namespace Go.Proofs.YtcojgmgoiopboaaGreatDoor
open Go.ChangeShapes Go.WideShapes Go.ChangeAt Go.RowKit
set_option linter.unusedVariables false

/-- A digit's value. -/
def hexD (c : UInt8) : Option Nat := if 48 ≤ c.toNat ∧ c.toNat ≤ 57 then some (c.toNat - 48) else if 97 ≤ c.toNat ∧ c.toNat ≤ 102 then some (c.toNat - 87) else none
/-- The value of a great or a small digit. -/
def hexE (c : UInt8) : Option Nat := if 65 ≤ c.toNat ∧ c.toNat ≤ 70 then some (c.toNat - 55) else hexD c
def hexV : Nat → List UInt8 → Option Nat
  | a, [] => some a
  | a, c :: l => match hexD c with | some d => hexV (a * 16 + d) l | none => none
/-- What a reader of digits answers that stops at M: the number; or whether it is too great. -/
def hexU (M : Nat) : Nat → List UInt8 → Sum Nat Bool
  | a, [] => .inl a
  | a, c :: l => match hexE c with | some d => if M < a * 16 + d then .inr true else hexU M (a * 16 + d) l | none => .inr false
/-- A digit. -/
def dig (n : Nat) : UInt8 := UInt8.ofNat (if n < 10 then 48 + n else 87 + n)
/-- The last k digits. -/
def hexK : Nat → Nat → List UInt8
  | 0, _ => []
  | k + 1, u => dig (u / 16 ^ k) :: hexK k (u % 16 ^ k)
/-- The digits without zeros ahead. -/
def hexL (u : Nat) : List UInt8 := if h : u < 16 then [dig u] else hexL (u / 16) ++ [dig (u % 16)]
termination_by u
decreasing_by omega

theorem hexD_lt {c : UInt8} {d : Nat} (h : hexD c = some d) : d < 16 := by
  unfold hexD at h
  split at h
  · injection h with h; omega
  · split at h
    · injection h with h; omega
    · cases h
theorem hexE_lt {c : UInt8} {d : Nat} (h : hexE c = some d) : d < 16 := by
  unfold hexE at h
  split at h
  · injection h with h; omega
  · exact hexD_lt h
theorem hexE_of {c : UInt8} {d : Nat} (h : hexD c = some d) : hexE c = some d := by
  have h0 := h
  unfold hexD at h
  unfold hexE
  rw [if_neg, h0]
  split at h
  · omega
  · split at h
    · omega
    · cases h
theorem toNat_dig {n : Nat} (h : n < 16) : (dig n).toNat = if n < 10 then 48 + n else 87 + n := by
  unfold dig
  rw [UInt8.toNat_ofNat']
  split <;> omega
theorem hexD_dig {n : Nat} (h : n < 16) : hexD (dig n) = some n := by
  unfold hexD
  rw [toNat_dig h]
  by_cases h1 : n < 10
  · rw [if_pos h1, if_pos (by omega)]; congr 1; omega
  · rw [if_neg h1, if_neg (by omega), if_pos (by omega)]; congr 1; omega
theorem dig_hexD {c : UInt8} {d : Nat} (h : hexD c = some d) : c = dig d := by
  have hl := hexD_lt h
  apply UInt8.toNat_inj.1
  rw [toNat_dig hl]
  unfold hexD at h
  split at h
  · injection h with h; rw [if_pos (by omega)]; omega
  · split at h
    · injection h with h; rw [if_neg (by omega)]; omega
    · cases h
theorem hexK_length : ∀ k u, (hexK k u).length = k
  | 0, _ => rfl
  | k + 1, u => by simp [hexK, hexK_length k]
theorem hexV_hexK : ∀ k a u, u < 16 ^ k → hexV a (hexK k u) = some (a * 16 ^ k + u)
  | 0, a, u, h => by simp at h; subst h; simp [hexK, hexV]
  | k + 1, a, u, h => by
    have h1 : u / 16 ^ k < 16 := by
      apply Nat.div_lt_of_lt_mul; rw [Nat.pow_succ] at h; exact h
    have h2 : u % 16 ^ k < 16 ^ k := Nat.mod_lt _ (Nat.pow_pos (by decide))
    unfold hexK hexV
    rw [hexD_dig h1]
    show hexV (a * 16 + u / 16 ^ k) (hexK k (u % 16 ^ k)) = _
    rw [hexV_hexK k _ _ h2]
    congr 1
    have h3 := Nat.div_add_mod u (16 ^ k)
    rw [Nat.pow_succ, Nat.add_mul, Nat.mul_assoc a 16, Nat.mul_comm 16 (16 ^ k), Nat.mul_comm (u / 16 ^ k)]
    omega
theorem hexK_hexV : ∀ (l : List UInt8) (a b : Nat), hexV a l = some b → ∃ u, u < 16 ^ l.length ∧ b = a * 16 ^ l.length + u ∧ l = hexK l.length u
  | [], a, b, h => by
    injection h with h
    exact ⟨0, by simp, by simp [h], rfl⟩
  | c :: l, a, b, h => by
    unfold hexV at h
    cases hd : hexD c with
    | none => rw [hd] at h; cases h
    | some d =>
      rw [hd] at h
      obtain ⟨u, h1, h2, h3⟩ := hexK_hexV l _ _ h
      have hl := hexD_lt hd
      have hp : 0 < 16 ^ l.length := Nat.pow_pos (by decide)
      have hm : d * 16 ^ l.length + u < 16 * 16 ^ l.length := by
        have : d * 16 ^ l.length ≤ 15 * 16 ^ l.length := Nat.mul_le_mul_right _ (by omega)
        omega
      refine ⟨d * 16 ^ l.length + u, ?_, ?_, ?_⟩
      · show _ < 16 ^ (l.length + 1)
        rw [Nat.pow_succ, Nat.mul_comm (16 ^ l.length) 16]; exact hm
      · show b = a * 16 ^ (l.length + 1) + _
        rw [h2, Nat.pow_succ, Nat.add_mul, Nat.mul_comm (16 ^ l.length) 16, ← Nat.mul_assoc]; omega
      · show c :: l = dig ((d * 16 ^ l.length + u) / 16 ^ l.length) :: hexK l.length ((d * 16 ^ l.length + u) % 16 ^ l.length)
        have e1 : (d * 16 ^ l.length + u) / 16 ^ l.length = d := by
          rw [Nat.mul_comm, Nat.mul_add_div hp, Nat.div_eq_of_lt h1]; omega
        have e2 : (d * 16 ^ l.length + u) % 16 ^ l.length = u := by
          rw [Nat.mul_comm, Nat.mul_add_mod]; exact Nat.mod_eq_of_lt h1
        rw [e1, e2, ← h3, dig_hexD hd]
theorem hexV_le : ∀ (l : List UInt8) (a b : Nat), hexV a l = some b → a ≤ b
  | [], a, b, h => by injection h with h; omega
  | c :: l, a, b, h => by
    unfold hexV at h
    cases hd : hexD c with
    | none => rw [hd] at h; cases h
    | some d => rw [hd] at h; have := hexV_le l _ _ h; omega
theorem hexU_of (M : Nat) : ∀ (l : List UInt8) (a b : Nat), hexV a l = some b → b ≤ M → hexU M a l = .inl b
  | [], a, b, h, _ => by injection h with h; rw [← h]; rfl
  | c :: l, a, b, h, hM => by
    unfold hexV at h
    cases hd : hexD c with
    | none => rw [hd] at h; cases h
    | some d =>
      rw [hd] at h
      have hle := hexV_le l _ _ h
      unfold hexU
      rw [hexE_of hd]
      show (if M < a * 16 + d then _ else _) = _
      rw [if_neg (by omega)]
      exact hexU_of M l _ _ h hM
theorem hexU_le (M : Nat) : ∀ (l : List UInt8) (a b : Nat), a ≤ M → hexU M a l = .inl b → b ≤ M
  | [], a, b, ha, h => by injection h with h; omega
  | c :: l, a, b, ha, h => by
    unfold hexU at h
    cases hd : hexE c with
    | none => rw [hd] at h; cases h
    | some d =>
      rw [hd] at h
      have h : (if M < a * 16 + d then _ else _) = _ := h
      split at h
      · cases h
      · exact hexU_le M l _ _ (by omega) h
/-- From the other end. -/
theorem hexK_snoc : ∀ k u, u < 16 ^ (k + 1) → hexK (k + 1) u = hexK k (u / 16) ++ [dig (u % 16)]
  | 0, u, h => by
    have h : u < 16 := by simpa using h
    show [dig (u / 16 ^ 0)] = [dig (u % 16)]
    rw [Nat.mod_eq_of_lt h]; simp
  | k + 1, u, h => by
    have h2 : u % 16 ^ (k + 1) < 16 ^ (k + 1) := Nat.mod_lt _ (Nat.pow_pos (by decide))
    show dig (u / 16 ^ (k + 1)) :: hexK (k + 1) (u % 16 ^ (k + 1)) = (dig (u / 16 / 16 ^ k) :: hexK k (u / 16 % 16 ^ k)) ++ [dig (u % 16)]
    rw [hexK_snoc k _ h2]
    have e1 : u / 16 / 16 ^ k = u / 16 ^ (k + 1) := by rw [Nat.div_div_eq_div_mul, Nat.pow_succ, Nat.mul_comm]
    have e2 : u % 16 ^ (k + 1) / 16 = u / 16 % 16 ^ k := by rw [Nat.pow_succ, Nat.mul_comm, Nat.mod_mul_right_div_self]
    have e3 : u % 16 ^ (k + 1) % 16 = u % 16 := Nat.mod_mod_of_dvd _ ⟨16 ^ k, by rw [Nat.pow_succ, Nat.mul_comm]⟩
    rw [e1, e2, e3]; rfl
theorem hexK_zero : ∀ k, hexK k 0 = List.replicate k 48
  | 0 => rfl
  | k + 1 => by
    unfold hexK
    rw [Nat.zero_div, Nat.zero_mod, hexK_zero k]; rfl
theorem hexL_lt {u : Nat} (h : u < 16) : hexL u = [dig u] := by unfold hexL; rw [dif_pos h]
theorem hexL_ge {u : Nat} (h : ¬ u < 16) : hexL u = hexL (u / 16) ++ [dig (u % 16)] := by rw [hexL, dif_neg h]
theorem hexL_pad : ∀ k u, u < 16 ^ (k + 1) → (hexL u).length ≤ k + 1 ∧ hexK (k + 1) u = List.replicate (k + 1 - (hexL u).length) 48 ++ hexL u
  | 0, u, h => by
    have h : u < 16 := by simpa using h
    rw [hexL_lt h]
    exact ⟨Nat.le_refl _, by rw [hexK_snoc 0 u (by simpa using h), Nat.mod_eq_of_lt h]; rfl⟩
  | k + 1, u, h => by
    by_cases hu : u < 16
    · rw [hexL_lt hu, hexK_snoc _ _ h, Nat.div_eq_of_lt hu, hexK_zero, Nat.mod_eq_of_lt hu]
      exact ⟨by simp, by simp⟩
    · have h1 : u / 16 < 16 ^ (k + 1) := by
        apply Nat.div_lt_of_lt_mul; rw [Nat.pow_succ, Nat.mul_comm] at h; exact h
      obtain ⟨h2, h3⟩ := hexL_pad k _ h1
      rw [hexL_ge hu, hexK_snoc _ _ h, h3]
      refine ⟨by simp; omega, ?_⟩
      rw [show k + 1 + 1 - (hexL (u / 16) ++ [dig (u % 16)]).length = k + 1 - (hexL (u / 16)).length by simp]
      simp
theorem hexL_length {u : Nat} (h : u < 4294967296) : (hexL u).length ≤ 8 ∧ hexK 8 u = List.replicate (8 - (hexL u).length) 48 ++ hexL u := hexL_pad 7 u (by simpa using h)
theorem hexL_pos (u : Nat) : 0 < (hexL u).length := by
  by_cases h : u < 16
  · rw [hexL_lt h]; simp
  · rw [hexL_ge h]; simp

/-- The text of a number. -/
def txt (b : Nat) : List UInt8 := hexK 8 (cn b)
/-- The number with a text. -/
def numL (l : List UInt8) : Option Nat := if l.length = 8 then (match hexV 0 l with | some b => if cn b = b then some b else none | none => none) else none
theorem cn_lt {b : Nat} (h : b < 4294967296) : cn b < 4294967296 := by
  unfold cn
  cases hn : isN .f32 b
  · rw [cnk_of_not hn]; exact h
  · rw [cnk_of_nan hn]; decide
theorem txt_length (b : Nat) : (txt b).length = 8 := hexK_length 8 _
theorem hexV_txt {b : Nat} (h : b < 4294967296) : hexV 0 (txt b) = some (cn b) := by
  unfold txt
  rw [hexV_hexK 8 0 (cn b) (by simpa using cn_lt h)]; simp
theorem numL_some {l : List UInt8} {b : Nat} (h : numL l = some b) : l.length = 8 ∧ hexV 0 l = some b ∧ cn b = b ∧ b < 4294967296 ∧ l = txt b := by
  unfold numL at h
  split at h
  · rename_i hl
    cases hv : hexV 0 l with
    | none => rw [hv] at h; cases h
    | some b' =>
      rw [hv] at h
      have h : (if cn b' = b' then some b' else none) = some b := h
      split at h
      · rename_i hc
        injection h with h
        subst h
        obtain ⟨u, h1, h2, h3⟩ := hexK_hexV l 0 b' hv
        rw [hl] at h1 h2 h3
        have hu : b' = u := by omega
        subst hu
        exact ⟨hl, rfl, hc, by simpa using h1, by unfold txt; rw [hc]; exact h3⟩
      · cases h
  · cases h
theorem numL_txt {b : Nat} (h : b < 4294967296) : numL (txt b) = some (cn b) := by
  unfold numL
  rw [if_pos (txt_length b), hexV_txt h]
  show (if cn (cn b) = cn b then some (cn b) else none) = _
  exact if_pos (cnk_cnk .f32 b)
theorem numL_cases {l : List UInt8} {n : Nat} (h : hexU 4294967295 0 l = .inl n) : n < 4294967296 ∧ ((txt n = l ∧ numL l = some n) ∨ (txt n ≠ l ∧ numL l = none)) := by
  have hn := hexU_le _ l 0 n (by omega) h
  refine ⟨by omega, ?_⟩
  by_cases ht : txt n = l
  · left
    have e := numL_txt (b := n) (by omega)
    have e2 := hexU_of 4294967295 (txt n) 0 (cn n) (hexV_txt (by omega)) (by have := cn_lt (b := n) (by omega); omega)
    rw [ht, h] at e2
    injection e2 with e2
    rw [ht, ← e2] at e
    exact ⟨ht, e⟩
  · right
    refine ⟨ht, ?_⟩
    cases hm : numL l with
    | none => rfl
    | some b =>
      obtain ⟨h1, h2, h3, h4, h5⟩ := numL_some hm
      have e := hexU_of 4294967295 l 0 b h2 (by omega)
      rw [h] at e
      injection e with e
      exact absurd (by rw [e]; exact h5.symm) ht
theorem numL_none {l : List UInt8} (h : ∀ n, hexU 4294967295 0 l ≠ .inl n) : numL l = none := by
  cases hm : numL l with
  | none => rfl
  | some b =>
    obtain ⟨h1, h2, h3, h4, h5⟩ := numL_some hm
    exact absurd (hexU_of 4294967295 l 0 b h2 (by omega)) (h b)
/-- No text of a number holds a byte that is no digit. -/
theorem numL_digits {l : List UInt8} {b : Nat} (h : numL l = some b) : ∀ c ∈ l, ∃ d, hexD c = some d := by
  have hv := (numL_some h).2.1
  have go : ∀ (l : List UInt8) (a b : Nat), hexV a l = some b → ∀ c ∈ l, ∃ d, hexD c = some d := by
    intro l
    induction l with
    | nil => intro a b _ c hc; cases hc
    | cons x l ih =>
      intro a b h c hc
      unfold hexV at h
      cases hd : hexD x with
      | none => rw [hd] at h; cases h
      | some d =>
        rw [hd] at h
        rcases List.mem_cons.1 hc with rfl | hc
        · exact ⟨d, hd⟩
        · exact ih _ _ h c hc
  exact go l 0 b hv
/-- What a reader gives: the number (0 if there is none), and the code. -/
def numB (l : List UInt8) : Nat := (numL l).getD 0
def numC (l : List UInt8) : Int := if (numL l).isSome then 0 else 5
end Go.Proofs.YtcojgmgoiopboaaGreatDoor
