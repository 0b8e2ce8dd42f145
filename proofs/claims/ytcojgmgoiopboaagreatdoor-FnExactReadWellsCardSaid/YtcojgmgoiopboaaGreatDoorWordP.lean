/- Texts of lines and words: plain laws; no statement is proved here. -/
import Derived.Test.YtcojgmgoiopboaaGreatDoorCutP
import Derived.Test.YtcojgmgoiopboaaGreatDoorDecP
namespace Go.Proofs.YtcojgmgoiopboaaGreatDoor
open Go.ChangeShapes Go.WideShapes Go.ChangeAt Go.RowKit
set_option linter.unusedVariables false

theorem splitL_app {c : UInt8} : ∀ {a : List UInt8} (b : List UInt8), c ∉ a → splitL c (a ++ c :: b) = a :: splitL c b
  | [], b, _ => by show splitL c (c :: b) = _; rw [splitL, if_pos rfl]
  | x :: a, b, h => by
    have hx : x ≠ c := fun e => h (by rw [e]; exact List.mem_cons_self)
    show splitL c (x :: (a ++ c :: b)) = _
    rw [splitL, if_neg hx, splitL_app b (fun e => h (List.mem_cons_of_mem _ e))]
/-- Words with a byte between. -/
def glue (c : UInt8) : List (List UInt8) → List UInt8
  | [] => []
  | [a] => a
  | a :: b :: l => a ++ c :: glue c (b :: l)
theorem glue_split (c : UInt8) : ∀ l : List UInt8, glue c (splitL c l) = l
  | [] => rfl
  | x :: l => by
    have ih := glue_split c l
    rw [splitL]
    split
    · rename_i hx
      cases hs : splitL c l with
      | nil => exact absurd hs (splitL_ne c l)
      | cons a t => rw [hs] at ih; show [] ++ c :: glue c (a :: t) = _; rw [ih, hx]; rfl
    · cases hs : splitL c l with
      | nil => exact absurd hs (splitL_ne c l)
      | cons a t =>
        rw [hs] at ih
        show glue c ((x :: a) :: t) = _
        cases t with
        | nil => show x :: a = _; rw [← ih]; rfl
        | cons b t => show (x :: a) ++ c :: glue c (b :: t) = _; rw [← ih]; rfl
theorem splitL_glue {c : UInt8} : ∀ {L : List (List UInt8)}, L ≠ [] → (∀ a ∈ L, c ∉ a) → splitL c (glue c L) = L
  | [], h, _ => absurd rfl h
  | [a], _, h => splitL_one (h a (by simp))
  | a :: b :: L, _, h => by
    show splitL c (a ++ c :: glue c (b :: L)) = _
    rw [splitL_app _ (h a (by simp)), splitL_glue (by simp) (fun x hx => h x (List.mem_cons_of_mem _ hx))]
/-- No word holds the byte. -/
theorem splitL_not {c : UInt8} : ∀ (l : List UInt8), ∀ a ∈ splitL c l, c ∉ a
  | [], a, h => by have h : a = [] := by simpa [splitL] using h
                   rw [h]; simp
  | x :: l, a, h => by
    have ih := splitL_not (c := c) l
    rw [splitL] at h
    split at h
    · rcases List.mem_cons.1 h with rfl | h
      · simp
      · exact ih a h
    · rename_i hx
      cases hs : splitL c l with
      | nil => exact absurd hs (splitL_ne c l)
      | cons b t =>
        rw [hs] at h ih
        rcases List.mem_cons.1 h with rfl | h
        · intro hm
          rcases List.mem_cons.1 hm with e | e
          · exact hx e.symm
          · exact ih b List.mem_cons_self e
        · exact ih a (List.mem_cons_of_mem _ h)
/-- Lines with a byte behind each. -/
def lined (c : UInt8) (L : List (List UInt8)) : List UInt8 := L.flatMap fun a => a ++ [c]
theorem lined_cons (c : UInt8) (a : List UInt8) (L : List (List UInt8)) : lined c (a :: L) = a ++ c :: lined c L := by simp [lined]
theorem lined_snoc (c : UInt8) (L : List (List UInt8)) (a : List UInt8) : lined c (L ++ [a]) = lined c L ++ a ++ [c] := by simp [lined]
theorem splitL_lined {c : UInt8} : ∀ {L : List (List UInt8)}, (∀ a ∈ L, c ∉ a) → splitL c (lined c L) = L ++ [[]]
  | [], _ => rfl
  | a :: L, h => by
    rw [lined_cons, splitL_app _ (h a (by simp)), splitL_lined (fun x hx => h x (List.mem_cons_of_mem _ hx))]; rfl
theorem glue_lined (c : UInt8) : ∀ L : List (List UInt8), glue c (L ++ [[]]) = lined c L
  | [] => rfl
  | [a] => by simp [glue, lined]
  | a :: b :: L => by
    have ih := glue_lined c (b :: L)
    show a ++ c :: glue c ((b :: L) ++ [[]]) = _
    rw [ih, lined_cons, lined_cons, lined_cons]
/-- A text whose last line is empty. -/
theorem lined_of {c : UInt8} {l : List UInt8} {L : List (List UInt8)} (h : splitL c l = L ++ [[]]) : lined c L = l := by
  rw [← glue_lined, ← h, glue_split]
theorem dig_ne {n : Nat} (h : n < 16) (c : UInt8) (hc : c.toNat < 48) : dig n ≠ c := by
  intro e
  have := congrArg UInt8.toNat e
  rw [toNat_dig h] at this
  split at this <;> omega
theorem hexK_not (c : UInt8) (hc : c.toNat < 48) : ∀ k u, u < 16 ^ k → c ∉ hexK k u
  | 0, u, _ => by simp [hexK]
  | k + 1, u, h => by
    have h1 : u / 16 ^ k < 16 := by apply Nat.div_lt_of_lt_mul; rw [Nat.pow_succ] at h; exact h
    unfold hexK
    intro hm
    rcases List.mem_cons.1 hm with e | e
    · exact dig_ne h1 c hc e.symm
    · exact hexK_not c hc k _ (Nat.mod_lt _ (Nat.pow_pos (by decide))) e
theorem txt_not (b : Nat) (hb : b < 4294967296) (c : UInt8) (hc : c.toNat < 48) : c ∉ txt b := hexK_not c hc 8 _ (by simpa using cn_lt hb)
theorem decDigits_not (u : Nat) (c : UInt8) (hc : c.toNat < 48) : c ∉ Lib.decDigits u := fun h => by
  have := decDigits_digits u u (Nat.le_refl _) c h; omega
end Go.Proofs.YtcojgmgoiopboaaGreatDoor
