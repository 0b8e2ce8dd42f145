import Derived.Test.YtglimhkpndfjgaaMT12
import Derived.Lib.ItoaMem
import Derived.Lib.Bytealg
import Derived.Test.YtglimhkpndfjgaaMT01
import Derived.RangeFuncNested
import Derived.RangeFuncCalls
import Derived.RangeFuncLeaves
import Derived.Shelf.Strings.Builder1
import Derived.Shelf.Strings.Builder2
import Derived.Shelf.Small.Bits
import Derived.Shelf.Small.Strs
import Derived.Shelf.Strings.BuilderF
import Derived.Shelf.Strings.BuilderK
import Derived.Shelf.Utf8.RuneCount
import Derived.Shelf.Strings.Builder2Cap
import Derived.Shelf.Strconv.Itoa0
import Derived.Shelf.Strconv.Itoa1
import Derived.Shelf.LaysM
import Derived.Shelf.Strconv.Itoa2
import Derived.Shelf.Strconv.Itoa3
import Derived.Shelf.Strconv.Itoa4
import Derived.Shelf.Strconv.ParseIntEmpty
import Derived.Shelf.Strconv.Clone
import Derived.Shelf.Strconv.SyntaxError
import Derived.Shelf.LaysC
import Derived.Shelf.Strconv.ToError
import Derived.Shelf.Strconv.Lower
import Derived.Shelf.Strconv.ParseUint10
import Derived.Shelf.Strconv.ParseUint10Empty
import Derived.Shelf.Strconv.ParseUint10Any
import Derived.Shelf.Strconv.ParseInt10
import Derived.Shelf.Strconv.RangeError
import Derived.Shelf.Strconv.ToErrorRange
import Derived.Shelf.Strconv.ParseUintEmpty
import Derived.Shelf.Strconv.ParseUint10b64
import Derived.Shelf.Strconv.ParseUint10b32
import Derived.Shelf.Strconv.ParseUint10b16
import Derived.Shelf.Strconv.ParseUint10b8
import Derived.Shelf.Strconv.ParseUint10At
import Derived.Shelf.Strconv.ParseInt10At64
import Derived.Shelf.Strconv.ParseInt10At32
import Derived.Shelf.Strconv.ParseInt10At16
import Derived.Shelf.Strconv.ParseInt10At8
import Derived.Shelf.Strconv.ParseInt10All
import Derived.Shelf.Strconv.ParseIntPublic10
import Derived.Shelf.Strconv.ErrVarParseInt
import Derived.Ground.MpProg
import Derived.Shelf.Pu.ParseUintPublic10
import Derived.Shelf.Pu.ErrVarParseUint
import Derived.Shelf.Strings.Search1
import Derived.Shelf.Strings.Search2
import Derived.Shelf.Strings.Search3
import Derived.Shelf.Strings.Count
import Derived.Shelf.Strings.Shaped
import Derived.Shelf.Strings.Prefix
import Derived.Shelf.Strings.Split
import Derived.Shelf.Strings.SplitShaped
import Derived.Shelf.Unicode.Decode
import Derived.Shelf.Strings.RuneCount
import Derived.Shelf.Strings.Explode
import Derived.Shelf.Bits.Mul64
import Derived.Shelf.Strings.Repeat
import Derived.Shelf.Unicode.DecodeSlow
import Derived.Shelf.Unicode.DecodeAny
import Derived.Shelf.Strings.BuilderCap
import Derived.RangeFuncBound
import Derived.OwnWalkIn
import Derived.TacticsInMore
import Derived.LoopNIn
import Derived.LoopIn
import Derived.Shelf.RegionOpen
import Derived.WalkKit
import Derived.Lib.Split
import Derived.Test.YtglimhkpndfjgaaMT02
import Derived.Test.YtglimhkpndfjgaaMT03
import Derived.Lib.ParseIntBCases
/- Whole numbers written with decimal digits: plain laws; no statement is proved here. -/
namespace Go.Proofs.Ytglimhkpndfjgaa
open Go.ChangeShapes Go.WideShapes Go.ChangeAt Go.RowKit
set_option linter.unusedVariables false

/-- The value of decimal digits behind a. -/
def decV : Nat → List UInt8 → Option Nat
  | a, [] => some a
  | a, c :: l => if 48 ≤ c.toNat ∧ c.toNat ≤ 57 then decV (a * 10 + (c.toNat - 48)) l else none
/-- The number of one to nine digits with a text, as the reference reads it. -/
def decN (l : List UInt8) : Option Nat := if 1 ≤ l.length ∧ l.length ≤ 9 ∧ ¬ (l.head? = some 48 ∧ 1 < l.length) then decV 0 l else none

theorem decV_app : ∀ (l m : List UInt8) (a : Nat), decV a (l ++ m) = (decV a l).bind fun b => decV b m
  | [], m, a => rfl
  | c :: l, m, a => by
    show (if _ then _ else _) = ((if _ then _ else _ : Option Nat)).bind _
    split
    · exact decV_app l m _
    · rfl
theorem decV_le : ∀ (l : List UInt8) (a b : Nat), decV a l = some b → a * 10 ^ l.length ≤ b ∧ b < (a + 1) * 10 ^ l.length
  | [], a, b, h => by injection h with h; subst h; simp
  | c :: l, a, b, h => by
    have h : (if 48 ≤ c.toNat ∧ c.toNat ≤ 57 then decV (a * 10 + (c.toNat - 48)) l else none) = some b := h
    split at h
    · rename_i hc
      obtain ⟨h1, h2⟩ := decV_le l _ _ h
      have hp : 0 < 10 ^ l.length := Nat.pow_pos (by decide)
      have e : (c :: l).length = l.length + 1 := rfl
      rw [e, Nat.pow_succ]
      have e1 : a * (10 ^ l.length * 10) = (a * 10) * 10 ^ l.length := by rw [Nat.mul_comm (10 ^ l.length) 10, Nat.mul_assoc]
      have e2 : (a + 1) * (10 ^ l.length * 10) = (a * 10 + 10) * 10 ^ l.length := by rw [Nat.mul_comm (10 ^ l.length) 10, ← Nat.mul_assoc, Nat.add_mul]
      rw [e1, e2]
      refine ⟨Nat.le_trans (Nat.mul_le_mul_right _ (by omega)) h1, Nat.lt_of_lt_of_le h2 (Nat.mul_le_mul_right _ (by omega))⟩
    · cases h
theorem toNat_digit {n : Nat} (h : n < 10) : (UInt8.ofNat (48 + n)).toNat = 48 + n := by rw [UInt8.toNat_ofNat']; omega
theorem digit_toNat {c : UInt8} (h : 48 ≤ c.toNat ∧ c.toNat ≤ 57) : c = UInt8.ofNat (48 + (c.toNat - 48)) := by
  apply UInt8.toNat_inj.1
  rw [toNat_digit (by omega)]; omega
theorem decV_one (a d : Nat) (h : d < 10) : decV a [UInt8.ofNat (48 + d)] = some (a * 10 + d) := by
  unfold decV
  rw [if_pos (by rw [toNat_digit h]; omega), toNat_digit h]
  show some _ = _
  congr 1; omega
theorem decV_decDigits : ∀ (k u : Nat), u ≤ k → decV 0 (Lib.decDigits u) = some u
  | k, u, h => by
    by_cases hu : u < 10
    · rw [Lib.decDigits, dif_pos hu, decV_one 0 u hu]; simp
    · rw [Lib.decDigits, dif_neg hu, decV_app]
      cases k with
      | zero => omega
      | succ k =>
        rw [decV_decDigits k (u / 10) (by omega)]
        show decV (u / 10) [UInt8.ofNat (48 + u % 10)] = _
        rw [decV_one _ _ (Nat.mod_lt _ (by decide))]
        congr 1; omega
theorem decDigits_pos (u : Nat) : 1 ≤ (Lib.decDigits u).length := by
  rw [Lib.decDigits]; split <;> simp
theorem decDigits_head : ∀ (k u : Nat), u ≤ k → (Lib.decDigits u).head? = some 48 → u = 0
  | k, u, h, hh => by
    by_cases hu : u < 10
    · rw [Lib.decDigits, dif_pos hu] at hh
      have hh : UInt8.ofNat (48 + u) = 48 := by simpa using hh
      have := congrArg UInt8.toNat hh
      rw [toNat_digit hu] at this
      have h48 : (48 : UInt8).toNat = 48 := rfl
      omega
    · rw [Lib.decDigits, dif_neg hu] at hh
      cases k with
      | zero => omega
      | succ k =>
        have hp := decDigits_pos (u / 10)
        have h2 : (Lib.decDigits (u / 10)).head? = some 48 := by
          cases hd : Lib.decDigits (u / 10) with
          | nil => rw [hd] at hp; simp at hp
          | cons x t => rw [hd] at hh; simpa using hh
        have := decDigits_head k (u / 10) (by omega) h2
        omega
theorem decDigits_len_le : ∀ (k u : Nat), u < 10 ^ (k + 1) → (Lib.decDigits u).length ≤ k + 1
  | 0, u, h => by
    have h : u < 10 := by simpa using h
    rw [Lib.decDigits, dif_pos h]; simp
  | k + 1, u, h => by
    by_cases hu : u < 10
    · rw [Lib.decDigits, dif_pos hu]; simp
    · rw [Lib.decDigits, dif_neg hu]
      have := decDigits_len_le k (u / 10) (by
        apply Nat.div_lt_of_lt_mul; rw [Nat.pow_succ, Nat.mul_comm] at h; exact h)
      simp; omega
theorem decN_digits {u : Nat} (h : u < 1000000000) : decN (Lib.decDigits u) = some u := by
  unfold decN
  rw [if_pos, decV_decDigits u u (Nat.le_refl _)]
  refine ⟨decDigits_pos u, decDigits_len_le 8 u (by simpa using h), fun ⟨h1, h2⟩ => ?_⟩
  have := decDigits_head u u (Nat.le_refl _) h1
  subst this
  rw [Lib.decDigits, dif_pos (by decide)] at h2
  simp at h2
/-- Digits without a zero ahead are their number's numeral. -/
theorem digits_of_decV : ∀ (n : Nat) (l : List UInt8) (b : Nat), l.length ≤ n → decV 0 l = some b → 1 ≤ l.length → ¬ (l.head? = some 48 ∧ 1 < l.length) → Lib.decDigits b = l
  | n, l, b, hn, h, h1, h2 => by
    rcases List.eq_nil_or_concat l with rfl | ⟨m, c, rfl⟩
    · simp at h1
    · have hm : m.concat c = m ++ [c] := by simp
      rw [hm] at h h1 h2 hn ⊢
      rw [decV_app] at h
      cases hv : decV 0 m with
      | none => rw [hv] at h; cases h
      | some a =>
        rw [hv] at h
        have h : (if 48 ≤ c.toNat ∧ c.toNat ≤ 57 then some (a * 10 + (c.toNat - 48)) else none) = some b := h
        split at h
        · rename_i hc
          injection h with h
          have ec := digit_toNat hc
          by_cases hm0 : m = []
          · subst hm0
            injection hv with hv
            rw [Lib.decDigits, dif_pos (by omega), ← h, ← hv]
            rw [ec]
            have : UInt8.ofNat (48 + (c.toNat - 48)) = c := ec.symm
            simp [this]
          · have hml : 1 ≤ m.length := List.length_pos_iff.2 hm0
            have hml2 : m.length ≤ n - 1 := by simp at hn; omega
            have hh : ¬ (m.head? = some 48 ∧ 1 < m.length) := fun ⟨q1, q2⟩ => h2 ⟨by
              cases m with
              | nil => simp at hm0
              | cons x t => simpa using q1, by simp; omega⟩
            have hhead : m.head? ≠ some 48 := fun q => h2 ⟨by
              cases m with
              | nil => simp at hm0
              | cons x t => simpa using q, by simp; omega⟩
            cases n with
            | zero => simp at hn
            | succ n =>
              have ih := digits_of_decV n m a (by simp at hn; omega) hv hml hh
              have ha : a ≠ 0 := fun e => by
                subst e
                have e0 : Lib.decDigits 0 = [48] := by rw [Lib.decDigits, dif_pos (by decide)]; rfl
                rw [e0] at ih
                rw [← ih] at hhead
                simp at hhead
              rw [Lib.decDigits, dif_neg (by omega), ← h, show (a * 10 + (c.toNat - 48)) / 10 = a by omega, show (a * 10 + (c.toNat - 48)) % 10 = c.toNat - 48 by omega, ih, ← ec]
        · cases h
theorem decN_some {l : List UInt8} {b : Nat} (h : decN l = some b) : Lib.decDigits b = l ∧ b < 1000000000 := by
  unfold decN at h
  split at h
  · rename_i hc
    obtain ⟨h1, h2, h3⟩ := hc
    refine ⟨digits_of_decV l.length l b (Nat.le_refl _) h h1 h3, ?_⟩
    have h4 := (decV_le l 0 b h).2
    have h5 : 10 ^ l.length ≤ 10 ^ 9 := Nat.pow_le_pow_right (by decide) h2
    have h6 : 10 ^ 9 = 1000000000 := by decide
    omega
  · cases h
/-- All bytes of a numeral are digits. -/
theorem decDigits_digits : ∀ (k u : Nat), u ≤ k → ∀ c ∈ Lib.decDigits u, 48 ≤ c.toNat ∧ c.toNat ≤ 57
  | k, u, h, c, hc => by
    by_cases hu : u < 10
    · rw [Lib.decDigits, dif_pos hu] at hc
      have hc : c = UInt8.ofNat (48 + u) := by simpa using hc
      rw [hc, toNat_digit hu]; omega
    · rw [Lib.decDigits, dif_neg hu] at hc
      cases k with
      | zero => omega
      | succ k =>
        rcases List.mem_append.1 hc with hc | hc
        · exact decDigits_digits k (u / 10) (by omega) c hc
        · have hc : c = UInt8.ofNat (48 + u % 10) := by simpa using hc
          rw [hc, toNat_digit (Nat.mod_lt _ (by decide))]
          have := Nat.mod_lt u (show 10 > 0 by decide)
          omega
end Go.Proofs.Ytglimhkpndfjgaa
/- Texts of lines and words: plain laws; no statement is proved here. -/
namespace Go.Proofs.Ytglimhkpndfjgaa
open Go.ChangeShapes Go.WideShapes Go.ChangeAt Go.RowKit
set_option linter.unusedVariables false

theorem splitL_app {c : UInt8} : ∀ {a : List UInt8} (b : List UInt8), c ∉ a → splitL c (a ++ c :: b) = a :: splitL c b
  | [], b, _ => by show splitL c (c :: b) = _; rw [splitL, if_pos rfl]
  | x :: a, b, h => by
    have hx : x ≠ c := fun e => h (by rw [e]; exact List.mem_cons_self)
    show splitL c (x :: (a ++ c :: b)) = _
    rw [splitL, if_neg hx, splitL_app b (fun e => h (List.mem_cons_of_mem _ e))]
/-- Words with a byte between. -/
def glue (c : UInt8) : List (List UInt8) → List UInt8
  | [] => []
  | [a] => a
  | a :: b :: l => a ++ c :: glue c (b :: l)
theorem glue_split (c : UInt8) : ∀ l : List UInt8, glue c (splitL c l) = l
  | [] => rfl
  | x :: l => by
    have ih := glue_split c l
    rw [splitL]
    split
    · rename_i hx
      cases hs : splitL c l with
      | nil => exact absurd hs (splitL_ne c l)
      | cons a t => rw [hs] at ih; show [] ++ c :: glue c (a :: t) = _; rw [ih, hx]; rfl
    · cases hs : splitL c l with
      | nil => exact absurd hs (splitL_ne c l)
      | cons a t =>
        rw [hs] at ih
        show glue c ((x :: a) :: t) = _
        cases t with
        | nil => show x :: a = _; rw [← ih]; rfl
        | cons b t => show (x :: a) ++ c :: glue c (b :: t) = _; rw [← ih]; rfl
theorem splitL_glue {c : UInt8} : ∀ {L : List (List UInt8)}, L ≠ [] → (∀ a ∈ L, c ∉ a) → splitL c (glue c L) = L
  | [], h, _ => absurd rfl h
  | [a], _, h => splitL_one (h a (by simp))
  | a :: b :: L, _, h => by
    show splitL c (a ++ c :: glue c (b :: L)) = _
    rw [splitL_app _ (h a (by simp)), splitL_glue (by simp) (fun x hx => h x (List.mem_cons_of_mem _ hx))]
/-- No word holds the byte. -/
theorem splitL_not {c : UInt8} : ∀ (l : List UInt8), ∀ a ∈ splitL c l, c ∉ a
  | [], a, h => by have h : a = [] := by simpa [splitL] using h
                   rw [h]; simp
  | x :: l, a, h => by
    have ih := splitL_not (c := c) l
    rw [splitL] at h
    split at h
    · rcases List.mem_cons.1 h with rfl | h
      · simp
      · exact ih a h
    · rename_i hx
      cases hs : splitL c l with
      | nil => exact absurd hs (splitL_ne c l)
      | cons b t =>
        rw [hs] at h ih
        rcases List.mem_cons.1 h with rfl | h
        · intro hm
          rcases List.mem_cons.1 hm with e | e
          · exact hx e.symm
          · exact ih b List.mem_cons_self e
        · exact ih a (List.mem_cons_of_mem _ h)
/-- Lines with a byte behind each. -/
def lined (c : UInt8) (L : List (List UInt8)) : List UInt8 := L.flatMap fun a => a ++ [c]
theorem lined_cons (c : UInt8) (a : List UInt8) (L : List (List UInt8)) : lined c (a :: L) = a ++ c :: lined c L := by simp [lined]
theorem lined_snoc (c : UInt8) (L : List (List UInt8)) (a : List UInt8) : lined c (L ++ [a]) = lined c L ++ a ++ [c] := by simp [lined]
theorem splitL_lined {c : UInt8} : ∀ {L : List (List UInt8)}, (∀ a ∈ L, c ∉ a) → splitL c (lined c L) = L ++ [[]]
  | [], _ => rfl
  | a :: L, h => by
    rw [lined_cons, splitL_app _ (h a (by simp)), splitL_lined (fun x hx => h x (List.mem_cons_of_mem _ hx))]; rfl
theorem glue_lined (c : UInt8) : ∀ L : List (List UInt8), glue c (L ++ [[]]) = lined c L
  | [] => rfl
  | [a] => by simp [glue, lined]
  | a :: b :: L => by
    have ih := glue_lined c (b :: L)
    show a ++ c :: glue c ((b :: L) ++ [[]]) = _
    rw [ih, lined_cons, lined_cons, lined_cons]
/-- A text whose last line is empty. -/
theorem lined_of {c : UInt8} {l : List UInt8} {L : List (List UInt8)} (h : splitL c l = L ++ [[]]) : lined c L = l := by
  rw [← glue_lined, ← h, glue_split]
theorem dig_ne {n : Nat} (h : n < 16) (c : UInt8) (hc : c.toNat < 48) : dig n ≠ c := by
  intro e
  have := congrArg UInt8.toNat e
  rw [toNat_dig h] at this
  split at this <;> omega
theorem hexK_not (c : UInt8) (hc : c.toNat < 48) : ∀ k u, u < 16 ^ k → c ∉ hexK k u
  | 0, u, _ => by simp [hexK]
  | k + 1, u, h => by
    have h1 : u / 16 ^ k < 16 := by apply Nat.div_lt_of_lt_mul; rw [Nat.pow_succ] at h; exact h
    unfold hexK
    intro hm
    rcases List.mem_cons.1 hm with e | e
    · exact dig_ne h1 c hc e.symm
    · exact hexK_not c hc k _ (Nat.mod_lt _ (Nat.pow_pos (by decide))) e
theorem txt_not (b : Nat) (hb : b < 4294967296) (c : UInt8) (hc : c.toNat < 48) : c ∉ txt b := hexK_not c hc 8 _ (by simpa using cn_lt hb)
theorem decDigits_not (u : Nat) (c : UInt8) (hc : c.toNat < 48) : c ∉ Lib.decDigits u := fun h => by
  have := decDigits_digits u u (Nat.le_refl _) c h; omega
end Go.Proofs.Ytglimhkpndfjgaa
/- The lines of a text, each with what ends it: plain laws; no statement is proved here. -/
namespace Go.Proofs.Ytglimhkpndfjgaa
open Go.ChangeShapes Go.WideShapes Go.ChangeAt Go.RowKit
set_option linter.unusedVariables false

def linesL : List UInt8 → List (List UInt8)
  | [] => []
  | x :: l => if x = 10 then [10] :: linesL l else match linesL l with | h :: t => (x :: h) :: t | [] => [[x]]
theorem linesL_flat : ∀ l, (linesL l).flatten = l
  | [] => rfl
  | x :: l => by
    have ih := linesL_flat l
    rw [linesL]
    split
    · rename_i h; simp [ih, h]
    · cases hs : linesL l with
      | nil => rw [hs] at ih; simp at ih; simp [← ih]
      | cons h t => rw [hs] at ih; simp at ih ⊢; exact ih
/-- The first line: it ends with the byte that ends lines, or it is the last. -/
theorem linesL_head : ∀ (l : List UInt8) {h : List UInt8} {t : List (List UInt8)}, linesL l = h :: t → t = linesL t.flatten ∧ ((∃ p, h = p ++ [10] ∧ (10 : UInt8) ∉ p) ∨ ((10 : UInt8) ∉ h ∧ h ≠ [] ∧ t = []))
  | [], h, t, e => by cases e
  | x :: l, h, t, e => by
    rw [linesL] at e
    split at e
    · rename_i hx
      injection e with e1 e2
      subst e1 e2
      exact ⟨by rw [linesL_flat], .inl ⟨[], rfl, by simp⟩⟩
    · rename_i hx
      cases hs : linesL l with
      | nil =>
        rw [hs] at e
        injection e with e1 e2
        subst e1 e2
        exact ⟨rfl, .inr ⟨by simpa using fun q => hx q.symm, by simp, rfl⟩⟩
      | cons h' t' =>
        rw [hs] at e
        injection e with e1 e2
        subst e1 e2
        obtain ⟨i1, i2⟩ := linesL_head l hs
        refine ⟨i1, ?_⟩
        rcases i2 with ⟨p, rfl, hp⟩ | ⟨q1, q2, q3⟩
        · exact .inl ⟨x :: p, rfl, by simp; exact ⟨fun q => hx q.symm, hp⟩⟩
        · exact .inr ⟨by simp; exact ⟨fun q => hx q.symm, q1⟩, by simp, q3⟩
theorem linesL_nil {l : List UInt8} (h : linesL l = []) : l = [] := by
  have := linesL_flat l; rw [h] at this; simpa using this.symm
/-- The lines that are still to come, as one text. -/
def leftL (l : List UInt8) (k : Nat) : List UInt8 := ((linesL l).drop k).flatten
theorem leftL_zero (l : List UInt8) : leftL l 0 = l := by unfold leftL; simp [linesL_flat]
theorem leftL_lines (l : List UInt8) : ∀ k, linesL (leftL l k) = (linesL l).drop k
  | 0 => by rw [leftL_zero]; simp
  | k + 1 => by
    have ih := leftL_lines l k
    cases hd : (linesL l).drop k with
    | nil =>
      have h1 : (linesL l).drop (k + 1) = [] := by rw [← List.drop_drop, hd]; rfl
      unfold leftL; rw [h1]; rfl
    | cons h t =>
      have h1 : (linesL l).drop (k + 1) = t := by rw [← List.drop_drop, hd]; rfl
      rw [hd] at ih
      have := (linesL_head _ ih).1
      unfold leftL; rw [h1]; exact this.symm
theorem leftL_step {l : List UInt8} {k : Nat} (h : k < (linesL l).length) : leftL l k = (linesL l)[k] ++ leftL l (k + 1) ∧ ((∃ p, (linesL l)[k] = p ++ [10] ∧ (10 : UInt8) ∉ p) ∨ ((10 : UInt8) ∉ (linesL l)[k] ∧ (linesL l)[k] ≠ [] ∧ leftL l (k + 1) = [])) := by
  have hd : (linesL l).drop k = (linesL l)[k] :: (linesL l).drop (k + 1) := List.drop_eq_getElem_cons h
  have hh := linesL_head (leftL l k) (by rw [leftL_lines, hd])
  refine ⟨by show ((linesL l).drop k).flatten = (linesL l)[k] ++ ((linesL l).drop (k + 1)).flatten; rw [hd]; rfl, ?_⟩
  rcases hh.2 with q | ⟨q1, q2, q3⟩
  · exact .inl q
  · exact .inr ⟨q1, q2, by unfold leftL; rw [q3]; rfl⟩
theorem leftL_end (l : List UInt8) : leftL l (linesL l).length = [] := by unfold leftL; simp
theorem leftL_len (l : List UInt8) (k : Nat) : (leftL l k).length ≤ l.length := by
  have h1 : (linesL l).flatten = ((linesL l).take k).flatten ++ leftL l k := by
    unfold leftL
    rw [← List.flatten_append, List.take_append_drop]
  rw [linesL_flat] at h1
  have := congrArg List.length h1
  simp at this; omega
theorem indexByte_hit : ∀ (p m : List UInt8) (c : UInt8), c ∉ p → Lib.indexByte (p ++ c :: m) c = p.length
  | [], m, c, _ => by simp [Lib.indexByte]
  | x :: p, m, c, h => by
    have hx : x ≠ c := fun e => h (by rw [e]; exact List.mem_cons_self)
    have ih := indexByte_hit p m c (fun e => h (List.mem_cons_of_mem _ e))
    simp [Lib.indexByte, hx, ih]
    try omega
theorem indexByte_miss : ∀ (p : List UInt8) (c : UInt8), c ∉ p → Lib.indexByte p c = -1
  | [], c, _ => by simp [Lib.indexByte]
  | x :: p, c, h => by
    have hx : x ≠ c := fun e => h (by rw [e]; exact List.mem_cons_self)
    have ih := indexByte_miss p c (fun e => h (List.mem_cons_of_mem _ e))
    simp [Lib.indexByte, hx, ih]
/-- A text's lines where its last word between ends is empty. -/
theorem linesL_lined : ∀ L : List (List UInt8), (∀ a ∈ L, (10 : UInt8) ∉ a) → linesL (lined 10 L) = L.map (· ++ [10])
  | [], _ => rfl
  | a :: L, h => by
    rw [lined_cons]
    have ha := h a (by simp)
    have ih := linesL_lined L (fun x hx => h x (List.mem_cons_of_mem _ hx))
    have go : ∀ (p : List UInt8), (10 : UInt8) ∉ p → linesL (p ++ 10 :: lined 10 L) = (p ++ [10]) :: L.map (· ++ [10]) := by
      intro p
      induction p with
      | nil => intro _; rw [List.nil_append, linesL, if_pos rfl, ih]; rfl
      | cons x p ihp =>
        intro hp
        have hx : x ≠ 10 := fun e => hp (by rw [e]; exact List.mem_cons_self)
        show linesL (x :: (p ++ 10 :: lined 10 L)) = _
        rw [linesL, if_neg hx, ihp (fun e => hp (List.mem_cons_of_mem _ e))]
        rfl
    rw [go a ha]; rfl
end Go.Proofs.Ytglimhkpndfjgaa
/- A range over a function that keeps what is left to come in a cell of its own: one law of the walk, made of the kit's laws of the loop's record. A plain law; no statement is proved here. -/
namespace Go.Proofs.Ytglimhkpndfjgaa
open Go.ChangeShapes Go.WideShapes Go.ChangeAt Go.RowKit
set_option linter.unusedVariables false

/-- The cell of what is left to come holds v, and may be written. -/
def LeftAt (c : Nat) (v : Value) (W : World) : Prop := W.cell? ⟨c, 0, none⟩ = some v ∧ W.frozen? ⟨c, 0, none⟩ = false
theorem LeftAt.move {c : Nat} {v : Value} {W W' : World} (h : LeftAt c v W) (hm : W'.heap[c]? = W.heap[c]?) : LeftAt c v W' := by
  obtain ⟨h1, h2⟩ := h
  constructor
  · rw [← h1]; unfold World.cell?; rw [hm]
  · rw [← h2]; unfold World.frozen?; rw [hm]
/-- What the iterator does to the world between two rounds. -/
def ItStep (c : Nat) (W W' : World) : Prop := ∃ m, W' = W.drewN m ∨ ∃ v, W' = (W.setCell ⟨c, 0, none⟩ v).drewN m
/-- The iterator: N rounds, the k-th with arg k, the cell c holding left k ahead of it. -/
def ItOk (F : Fence) (n : Nat) (P : Program) (gf : Nat) (lb : Array Value) (c N : Nat) (arg left : Nat → Value) : Prop :=
  ∀ (l : Nat) (J : Nat → World → Prop) (Jx : World → Prop) (W : World), (∀ k W W', J k W → ItStep c W W' → J k W') →
    (∀ k W1, k < N → J k W1 → LeftAt c (left (k + 1)) W1 → YieldAt F (n - 1) P l #[arg k] W1 fun e W' => (e = .returned (.bool true) ∧ J (k + 1) W' ∧ LeftAt c (left (k + 1)) W') ∨ (e = .returned (.bool false) ∧ Jx W')) →
    J 0 W → LeftAt c (left 0) W →
    CallsIn F n P gf (#[.func (.yield l) #[] #[]] ++ lb) W fun e W' => (∃ v, e = .returned v) ∧ (J N W' ∨ Jx W')
/-- How a round's body may be left. -/
def bodyEnd (c N : Nat) (left : Nat → Value) (I : Nat → World → Prop) (Ix : World → Prop) (k : Nat) (W : World) : Exit → Act → World → Prop
  | .normal, _, W' => KeepsOthers W W' ∧ I (k + 1) W' ∧ LeftAt c (left (k + 1)) W'
  | .ret, _, W' => KeepsOthers W W' ∧ Ix W'
  | _, _, _ => False
theorem wpIn_rangeLeft {F : Fence} {n : Nat} {P : Program} {g : Operand} {p : Tmp} {assign body : Code} {Q : Exit → Act → World → Prop} {a : Act} {w : World}
    (hro : F.round = none) (h1 : 1 ≤ n) {gf : Nat} {lb : Array Value} (hg : a.eval g = .func (.func gf) #[] lb) (hFg : F.fn gf) (eg : ∀ args w, (callFunc gf args).run P w = .ok (.enter gf args) w)
    {c N : Nat} {arg left : Nat → Value} (hit : ItOk F (n - 1) P gf lb c N arg left) (hc : c < w.heap.size) (hl0 : LeftAt c (left 0) w)
    (I : Nat → World → Prop) (Ix : World → Prop) (h0 : I 0 w)
    (hIa : ∀ k W o, I k W → I k (W.alloc o)) (hIp : ∀ k W l o o', w.heap.size ≤ l → W.heap[l]? = some o' → o'.isCells = false → I k W → I k (W.putObj l o))
    (hXp : ∀ W l o o', w.heap.size ≤ l → W.heap[l]? = some o' → o'.isCells = false → Ix W → Ix (W.putObj l o))
    (hIs : ∀ k W W', I k W → ItStep c W W' → I k W') (a₁ : Nat → Act)
    (hassign : ∀ (l k : Nat) (W : World) (K : Act → World → Prop), K (a₁ k) W → assign.wpIn (F.inRound l) (n - 1 - 1) P (Exit.then K (fun _ _ _ => False)) { tmps := a.tmps.setIfInBounds p (arg k), defers := [] } W)
    (hbody : ∀ (l k : Nat) (W : World), k < N → I k W → LeftAt c (left (k + 1)) W → w.heap.size ≤ W.heap.size → body.wpIn (F.inRound l) (n - 1 - 1) P (bodyEnd c N left I Ix k W) (a₁ k) W)
    (hdone : ∀ (D : Nat) (W : World), I N W → w.heap.size ≤ D → W.heap[D]? = some (.deferred (some [])) → Q .normal { a with defers := { target := .collected D, args := #[] } :: a.defers } W)
    (hstop : ∀ (D : Nat) (W : World), Ix W → w.heap.size ≤ D → W.heap[D]? = some (.deferred (some [])) → Code.ret.wpIn F n P Q { a with defers := { target := .collected D, args := #[] } :: a.defers } W) :
    (Code.rangeFunc g #[p] assign body).wpIn F n P Q a w := by
  refine wpIn_rangeFunc fun fn hfn => ?_
  rw [hro]
  obtain ⟨rec, hrec⟩ : ∃ rec : LoopState → Option Code → Loop, rec = fun st pe => { state := st, pending := pe, fn, tmps := a.tmps, params := #[p], assign, body, defers := w.heap.size } := ⟨_, rfl⟩
  obtain ⟨L, hL⟩ : ∃ L, L = w.heap.size + 1 := ⟨_, rfl⟩
  obtain ⟨W1, hW1⟩ : ∃ W1, W1 = (w.alloc (.deferred (some []))).alloc (.loop (rec .ready none)) := ⟨_, rfl⟩
  have eD : (w.alloc (.deferred (some []))).heap[w.heap.size]? = some (.deferred (some [])) := World.alloc_heap_new w _
  have b1 : W1.heap[L]? = some (.loop (rec .ready none)) := by
    rw [hW1, hL]
    have h := World.alloc_heap_new (w.alloc (.deferred (some []))) (.loop (rec .ready none))
    rwa [World.size_alloc] at h
  have b2 : W1.heap[w.heap.size]? = some (.deferred (some [])) := by
    rw [hW1]; exact (heap_alloc_old _ _ (by simp)).trans eD
  have bI : I 0 W1 := by rw [hW1]; exact hIa _ _ _ (hIa _ _ _ h0)
  have bC : LeftAt c (left 0) W1 := hl0.move (by
    rw [hW1]; exact (heap_alloc_old _ _ (by simp; omega)).trans (heap_alloc_old w _ hc))
  have e1 : (Instr.enterLoop fn a.tmps #[p] assign body none).run P w = .ok (L, [{ target := .collected w.heap.size, args := #[] }]) W1 := by
    rw [hW1, hL, hrec]; exact run_enterLoop_outer _ _ _ _ _
  have e2 : (resolve a.eval (rangeCall g L) 0).run P W1 = .ok { target := .fn (.func gf) lb, args := #[.func (.yield L) #[] #[]] } W1 := by
    simp only [resolve, hg]; simp [go_sem]
  have e3 : ∀ f', Target.leads P W1 (.fn (.func gf) lb) #[.func (.yield L) #[] #[]] = some f' → F.fn f' := fun f' hf' => by
    simp [Target.leads] at hf'; subst hf'; exact hFg
  have e4 : (invoke (.fn (.func gf) lb) #[.func (.yield L) #[] #[]]).run P W1 = .ok (.enter gf (#[.func (.yield L) #[] #[]] ++ lb)) W1 := by
    simp [invoke, go_sem, eg]
  -- the invariant with the loop's record beside it
  obtain ⟨J, hJ⟩ : ∃ J : Nat → World → Prop, J = fun k W => I k W ∧ W.heap[L]? = some (.loop (rec .ready none)) ∧ W.heap[w.heap.size]? = some (.deferred (some [])) := ⟨_, rfl⟩
  obtain ⟨Jx, hJx⟩ : ∃ Jx : World → Prop, Jx = fun W => Ix W ∧ W.heap[L]? = some (.loop (rec .done (some .ret))) ∧ W.heap[w.heap.size]? = some (.deferred (some [])) := ⟨_, rfl⟩
  have key := hit L J Jx W1 (by
    rw [hJ]
    rintro k W W' ⟨g1, g2, g3⟩ hs
    have hm : ∀ j, j ≠ c → W'.heap[j]? = W.heap[j]? := fun j hj => by
      obtain ⟨m, rfl | ⟨v, rfl⟩⟩ := hs
      · rfl
      · exact heap_setCell_other W _ j v (by simpa using hj)
    exact ⟨hIs k W W' g1 hs, (hm L (by omega)).trans g2, (hm _ (by omega)).trans g3⟩) (by
    rw [hJ, hJx]
    rintro k W hk ⟨g1, g2, g3⟩ gc
    have hlt : L < W.heap.size := (Array.getElem?_eq_some_iff.1 g2).1
    have hy := run_yield (P := P) (args := #[arg k]) g2 (by rw [hrec]; rfl)
    refine ⟨_, _, _, _, hy, ?_⟩
    have eF : (rec .ready none).fn = fn := by rw [hrec]
    have eA : (rec .ready none).assign = assign := by rw [hrec]
    have eB : (rec .ready none).body = body := by rw [hrec]
    have eT : ((rec .ready none).params.zip #[arg k]).foldl (fun tmps (t, a) => tmps.setIfInBounds t a) (rec .ready none).tmps = a.tmps.setIfInBounds p (arg k) := by rw [hrec]; simp
    rw [eF, eA, eB]
    refine roundIn_of_wpIn hfn ?_
    have has := fun K => hassign L k W K
    rw [← eT] at has
    refine has _ ⟨_, run_beginRound g2 (by rw [hrec]), ?_⟩
    obtain ⟨W2, hW2⟩ : ∃ W2, W2 = W.putObj L (.loop { rec .ready none with state := .busy }) := ⟨_, rfl⟩
    rw [← hW2]
    have c2 : W2.heap[L]? = some (.loop { rec .ready none with state := .busy }) := by rw [hW2]; exact World.putObj_heap_same hlt
    have c3 : W2.heap[w.heap.size]? = some (.deferred (some [])) := by rw [hW2]; exact (World.putObj_heap_other (by omega)).trans g3
    have c1 : I k W2 := by rw [hW2]; exact hIp k W L _ _ (by omega) g2 rfl g1
    have cc : LeftAt c (left (k + 1)) W2 := gc.move (by rw [hW2]; exact World.putObj_heap_other (by omega))
    refine wpIn_mono (hbody L k W2 hk c1 cc (by rw [hW2]; simp; omega)) ?_
    rintro e a3 W3 hp
    have fin : ∀ (jump : Option Code), KeepsOthers W2 W3 →
        (Instr.endRound L jump).run P W3 = .ok (.bool jump.isNone) (W3.putObj L (.loop (rec (if jump.isNone then .ready else .done) jump))) ∧ W3.heap[L]? = some (.loop { rec .ready none with state := .busy }) ∧
        (W3.putObj L (.loop (rec (if jump.isNone then .ready else .done) jump))).heap[L]? = some (.loop (rec (if jump.isNone then .ready else .done) jump)) ∧
        (W3.putObj L (.loop (rec (if jump.isNone then .ready else .done) jump))).heap[w.heap.size]? = some (.deferred (some [])) := fun jump hk3 => by
      have d2 := hk3.same _ _ c2 rfl
      have d3 := hk3.same _ _ c3 rfl
      have hr := run_endRound (P := P) jump d2
      refine ⟨?_, d2, World.putObj_heap_same (Array.getElem?_eq_some_iff.1 d2).1, (World.putObj_heap_other (by omega)).trans d3⟩
      rw [hrec] at hr ⊢; exact hr
    cases e with
    | normal =>
      obtain ⟨k3, i3, l3⟩ := hp
      obtain ⟨r1, r2, r3, r4⟩ := fin none k3
      exact ⟨_, _, r1, .inl ⟨rfl, ⟨hIp _ _ _ _ _ (by omega) r2 rfl i3, r3, r4⟩, l3.move (World.putObj_heap_other (by omega))⟩⟩
    | ret =>
      obtain ⟨k3, x3⟩ := hp
      obtain ⟨r1, r2, r3, r4⟩ := fin (some .ret) k3
      exact ⟨_, _, r1, .inr ⟨rfl, hXp _ _ _ _ (by omega) r2 rfl x3, r3, r4⟩⟩
    | exit id => exact hp.elim
    | goto t => exact hp.elim
    | panic ch => exact hp.elim
    | outgrown => exact hp.elim) (by rw [hJ]; exact ⟨bI, b1, b2⟩) bC
  refine ⟨L, _, W1, _, W1, gf, _, W1, e1, e2, e3, e4, fun _ => h1, key.mono ?_⟩
  rw [hJ, hJx]
  rintro e W2 ⟨⟨v, rfl⟩, ⟨g1, g2, g3⟩ | ⟨g1, g2, g3⟩⟩
  · have h : (Instr.endLoop L).run P W2 = .ok none (W2.putObj L (.loop { rec .ready none with state := .exhausted })) := by
      have h := run_endLoop (P := P) g2 (by rw [hrec]; simp)
      have e : (rec .ready none).pending = none := by rw [hrec]
      rw [h]; exact congrArg (fun q => Result.ok q _) e
    exact ⟨none, _, h, hdone w.heap.size _ (hIp _ _ L _ _ (by omega) g2 rfl g1) (Nat.le_refl _) ((World.putObj_heap_other (by omega)).trans g3)⟩
  · have h : (Instr.endLoop L).run P W2 = .ok (some .ret) (W2.putObj L (.loop { rec .done (some .ret) with state := .exhausted })) := by
      have h := run_endLoop (P := P) g2 (by rw [hrec]; simp)
      have e : (rec .done (some .ret)).pending = some .ret := by rw [hrec]
      rw [h]; exact congrArg (fun q => Result.ok q _) e
    exact ⟨some .ret, _, h, hstop w.heap.size _ (hXp _ L _ _ (by omega) g2 rfl g1) (Nat.le_refl _) ((World.putObj_heap_other (by omega)).trans g3)⟩
end Go.Proofs.Ytglimhkpndfjgaa
/- This seat has no contracts of texts: the imports alone, so that the others find what they need. -/
namespace Go.Proofs.Ytglimhkpndfjgaa
end Go.Proofs.Ytglimhkpndfjgaa
/- strings.Lines: the walk of the library's iterator. -/
namespace Go.Proofs.Ytglimhkpndfjgaa
open Go.ChangeShapes Go.WideShapes Go.ChangeAt Go.RowKit
set_option linter.unusedVariables false
set_option linter.unusedSimpArgs false
attribute [local go_sem] Oper.semAt_some

/-- How many bytes are left to come. -/
def leftOf (c : Nat) (W : World) : Nat := match W.cell? ⟨c, 0, none⟩ with | some (.string s) => s.size | _ => 0
theorem leftOf_eq {c : Nat} {l : List UInt8} {W : World} (h : LeftAt c (.string ⟨l.toArray⟩) W) : leftOf c W = l.length := by
  unfold leftOf; rw [h.1]; simp [ByteArray.size]
def argL (l : List UInt8) (k : Nat) : Value := .string ⟨((linesL l).getD k []).toArray⟩
def leftV (l : List UInt8) (k : Nat) : Value := .string ⟨(leftL l k).toArray⟩
theorem linesL_bounds {a b m : List UInt8} {n : Nat} (h : m = a ++ b) (hl : m.length ≤ n) : a.length ≤ n ∧ b.length ≤ n := by
  rw [h] at hl; simp at hl; omega
end Go.Proofs.Ytglimhkpndfjgaa
/- lineWords: the words of all lines of a text: the walk. -/
namespace Go.Proofs.Ytglimhkpndfjgaa
open Go.ChangeShapes Go.WideShapes Go.ChangeAt Go.RowKit
set_option linter.unusedVariables false
set_option linter.unusedSimpArgs false
attribute [local go_sem] Oper.semAt_some

/-- A line's words. -/
def lineWs (l : List UInt8) : List (List UInt8) := splitL 32 (Lib.trimSuffix l [10])
/-- Has each line so many words, and are there no more lines than so many? -/
def goodTo (l : List UInt8) (many most k : Nat) : Prop := k ≤ most ∧ ∀ j, j < k → (lineWs ((linesL l).getD j [])).length = many
theorem goodTo_next {l : List UInt8} {many most k : Nat} (h : goodTo l many most k) (h1 : (lineWs ((linesL l).getD k [])).length = many) (h2 : k ≠ most) : goodTo l many most (k + 1) := by
  obtain ⟨a, b⟩ := h
  refine ⟨by omega, fun j hj => ?_⟩
  by_cases e : j = k
  · subst e; exact h1
  · exact b j (by omega)
theorem goodTo_not {l : List UInt8} {many most k N : Nat} (hk : k < N) (h : (lineWs ((linesL l).getD k [])).length ≠ many ∨ k = most) : ¬ goodTo l many most N := fun ⟨a, b⟩ => by
  rcases h with h | h
  · exact h (b k hk)
  · omega
theorem splitK_len (c : UInt8) : ∀ (k : Nat) (l : List UInt8), (Lib.splitK [c] 0 k l).length = min (splitL c l).length (k + 1) ∧ ((splitL c l).length ≤ k + 1 → Lib.splitK [c] 0 k l = splitL c l)
  | 0, l => by
    have hp := List.length_pos_iff.2 (splitL_ne c l)
    refine ⟨by simp [Lib.splitK]; omega, fun h => ?_⟩
    rcases index_split c l with ⟨i, h1, h2, h3⟩ | ⟨h1, h2⟩
    · have := List.length_pos_iff.2 (splitL_ne c (l.drop (i + 1)))
      rw [h3] at h; simp at h
      exact absurd h (splitL_ne c _)
    · rw [h2]; rfl
  | k + 1, l => by
    rcases index_split c l with ⟨i, h1, h2, h3⟩ | ⟨h1, h2⟩
    · have ih := splitK_len c k (l.drop (i + 1))
      have e : Lib.splitK [c] 0 (k + 1) l = l.take i :: Lib.splitK [c] 0 k (l.drop (i + 1)) := by
        rw [Lib.splitK, if_neg (by rw [h1]; simp), h1]
        simp
      rw [e, h3]
      refine ⟨by simp only [List.length_cons, ih.1]; omega, fun h => ?_⟩
      rw [ih.2 (by simp at h; omega)]
    · rw [Lib.splitK, if_pos (by rw [h1]; rfl), h2]
      simp
theorem splitB_len (S : ByteArray) (k : Nat) : (Lib.splitB ⟨#[32]⟩ 0 k S).length = min (splitL 32 S.data.toList).length (k + 1) := by
  have h := Lib.splitB_data ⟨#[32]⟩ 0 k S
  have h2 := (splitK_len 32 k S.data.toList).1
  rw [show (⟨#[32]⟩ : ByteArray).data.toList = [32] from rfl] at h
  rw [← h2, ← h]; simp
theorem splitB_eq (S : ByteArray) (k : Nat) (h : (splitL 32 S.data.toList).length ≤ k + 1) : (Lib.splitB ⟨#[32]⟩ 0 k S).map Value.string = strs (splitL 32 S.data.toList) := by
  have h1 := Lib.splitB_data ⟨#[32]⟩ 0 k S
  rw [show (⟨#[32]⟩ : ByteArray).data.toList = [32] from rfl, (splitK_len 32 k S.data.toList).2 h] at h1
  rw [← h1]; simp [strs]
end Go.Proofs.Ytglimhkpndfjgaa
/- numberOf: a word's whole number in a range, in the program; l01Number in the reference: the walks. -/
namespace Go.Proofs.Ytglimhkpndfjgaa
open Go.ChangeShapes Go.WideShapes Go.ChangeAt Go.RowKit
set_option linter.unusedVariables false
set_option linter.unusedSimpArgs false
attribute [local irreducible] Calls

/-- The number that ParseInt reads. -/
def intV (l : List UInt8) : Option Int := match Lib.parseIntB 64 l with | .ok v => some v | _ => none
/-- A word's number, 0 where it has none in the range. -/
def numZ (lo hi : Int) (l : List UInt8) : Int := match intV l with | some v => if decide (lo ≤ v) && decide (v ≤ hi) then v else 0 | none => 0
theorem numZ_in (lo hi : Int) (h : lo ≤ 0 ∧ 0 ≤ hi) (l : List UInt8) : lo ≤ numZ lo hi l ∧ numZ lo hi l ≤ hi := by
  unfold numZ
  split
  · split
    · rename_i h; simpa using h
    · exact h
  · exact h
theorem parseM_digits : ∀ (l : List UInt8) (a u : Nat), decV a l = some u → u < 1000000000 → Lib.parseUintM (2 ^ 64 - 1) a l = .ok u
  | [], a, u, h, _ => by injection h with h; subst h; rfl
  | c :: l, a, u, h, hu => by
    have hle := (decV_le _ _ _ h).1
    have h : (if 48 ≤ c.toNat ∧ c.toNat ≤ 57 then decV (a * 10 + (c.toNat - 48)) l else none) = some u := h
    split at h
    · rename_i hc
      have hle2 := (decV_le _ _ _ h).1
      have hp : 1 ≤ 10 ^ l.length := Nat.pow_pos (by decide)
      have : a * 10 + (c.toNat - 48) ≤ u := Nat.le_trans (Nat.le_mul_of_pos_right _ hp) hle2
      rw [Lib.parseUintM, if_pos hc, if_neg (by omega), if_neg (by omega)]
      exact parseM_digits l _ u h hu
    · cases h
theorem intV_digits {u : Nat} (h : u < 1000000000) : intV (Lib.decDigits u) = some (u : Int) := by
  have hv := decV_decDigits u u (Nat.le_refl _)
  have hd := decDigits_digits u u (Nat.le_refl _)
  have hp := decDigits_pos u
  generalize Lib.decDigits u = l at *
  cases l with
  | nil => simp at hp
  | cons c r =>
    have hc := hd c (by simp)
    have hm := parseM_digits _ _ _ hv h
    unfold intV Lib.parseIntB Lib.parseUintB
    have e : (if c.toNat = 43 ∨ c.toNat = 45 then r else c :: r) = c :: r := by rw [if_neg (by omega)]
    simp only [e]
    rw [if_neg (by simp), hm]
    have h1 : ¬ (¬ c.toNat = 45 ∧ 2 ^ (64 - 1) ≤ u) := by omega
    have h2 : ¬ (c.toNat = 45 ∧ 2 ^ (64 - 1) < u) := by omega
    have h3 : ¬ c.toNat = 45 := by omega
    simp only [if_neg h1, if_neg h2, if_neg h3]
theorem numZ_digits {u : Nat} {hi : Nat} (h : u ≤ hi) (hhi : hi ≤ 1000) : numZ 0 hi (Lib.decDigits u) = u := by
  unfold numZ
  rw [intV_digits (by omega)]
  simp; omega
theorem decV_step {n : Nat} {c : UInt8} {l : List UInt8} (h : 48 ≤ c.toNat ∧ c.toNat ≤ 57) : decV n (c :: l) = decV (n * 10 + (c.toNat - 48)) l := by
  show (if _ then _ else _) = _
  rw [if_pos h]
theorem decV_stop {n : Nat} {c : UInt8} {l : List UInt8} (h : ¬ (48 ≤ c.toNat ∧ c.toNat ≤ 57)) : decV n (c :: l) = none := by
  show (if _ then _ else _) = _
  rw [if_neg h]
end Go.Proofs.Ytglimhkpndfjgaa
