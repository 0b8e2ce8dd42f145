/- A text cut at the first of some byte, and at all of them: plain laws; no statement is proved here. -/
import Derived.Test.YtcojgmgoiopboaaGreatDoorSplitT
import Derived.Test.YtcojgmgoiopboaaGreatDoorHexP
import Derived.Lib.CutLaws
namespace Go.Proofs.YtcojgmgoiopboaaGreatDoor
open Go.ChangeShapes Go.WideShapes Go.ChangeAt Go.RowKit
set_option linter.unusedVariables false

theorem index_split (c : UInt8) : ∀ l : List UInt8, (∃ i : Nat, Lib.index l [c] = i ∧ i < l.length ∧ splitL c l = l.take i :: splitL c (l.drop (i + 1))) ∨ (Lib.index l [c] = -1 ∧ splitL c l = [l])
  | [] => .inr ⟨by simp [Lib.index], rfl⟩
  | b :: l => by
    by_cases hb : b = c
    · subst hb
      left
      exact ⟨0, by simp [Lib.index], by simp, by simp [splitL]⟩
    · have hp : ([c].isPrefixOf (b :: l)) = false := by simp [List.isPrefixOf]; intro h; exact hb h.symm
      rcases index_split c l with ⟨i, h1, h2, h3⟩ | ⟨h1, h2⟩
      · left
        refine ⟨i + 1, ?_, by simp; omega, ?_⟩
        · rw [Lib.index, hp, h1]
          simp
        · rw [splitL, if_neg hb, h3]; simp
      · right
        refine ⟨?_, ?_⟩
        · rw [Lib.index, hp, h1]; simp
        · rw [splitL, if_neg hb, h2]
theorem cut_split (c : UInt8) (l : List UInt8) : (∃ p q, Lib.cut l [c] = (p, q, true) ∧ splitL c l = p :: splitL c q) ∨ (Lib.cut l [c] = (l, [], false) ∧ splitL c l = [l]) := by
  rcases index_split c l with ⟨i, h1, h2, h3⟩ | ⟨h1, h2⟩
  · left
    refine ⟨l.take i, l.drop (i + 1), ?_, h3⟩
    unfold Lib.cut
    rw [h1, if_pos (by omega)]
    rfl
  · right
    refine ⟨?_, h2⟩
    unfold Lib.cut
    rw [h1, if_neg (by decide)]
theorem splitL_one {c : UInt8} : ∀ {l : List UInt8}, c ∉ l → splitL c l = [l]
  | [], _ => rfl
  | x :: l, h => by
    rw [splitL, if_neg (fun e => h (by rw [e]; exact List.mem_cons_self)), splitL_one (fun e => h (List.mem_cons_of_mem _ e))]
theorem splitL_mem {c : UInt8} : ∀ {l : List UInt8}, c ∈ l → 2 ≤ (splitL c l).length
  | [], h => by cases h
  | x :: l, h => by
    rw [splitL]
    split
    · have := List.length_pos_iff.2 (splitL_ne c l)
      simp; omega
    · rename_i hx
      have hm : c ∈ l := by
        rcases List.mem_cons.1 h with e | e
        · exact absurd e.symm hx
        · exact e
      have ih := splitL_mem hm
      cases hs : splitL c l with
      | nil => rw [hs] at ih; simp at ih
      | cons a t => rw [hs] at ih; simpa using ih
theorem numL_nil : numL [] = none := rfl
theorem numL_space {l : List UInt8} (h : (32 : UInt8) ∈ l) : numL l = none := by
  cases hm : numL l with
  | none => rfl
  | some b =>
    obtain ⟨d, hd⟩ := numL_digits hm 32 h
    exact absurd (hd.symm.trans (show hexD 32 = none by decide)) (by simp)
theorem numC_none {l : List UInt8} (h : numL l = none) : numC l = 5 := by unfold numC; rw [h]; rfl
theorem numC_cases (l : List UInt8) : numC l = 0 ∨ numC l = 5 := by
  unfold numC; cases numL l <;> simp
/-- The two halves of a text, and what the reference's words have to do with them. -/
theorem wave_words (l : List UInt8) : (splitL 32 l = [(Lib.cut l [32]).1, (Lib.cut l [32]).2.1]) ∨ ((splitL 32 l).length ≠ 2 ∧ numC (Lib.cut l [32]).2.1 = 5) := by
  rcases cut_split 32 l with ⟨p, q, h1, h2⟩ | ⟨h1, h2⟩
  · rw [h1]
    by_cases hq : (32 : UInt8) ∈ q
    · right
      have := splitL_mem hq
      exact ⟨by rw [h2]; simp; omega, numC_none (numL_space hq)⟩
    · left
      rw [h2, splitL_one hq]
  · right
    rw [h1, h2]
    exact ⟨by simp, numC_none numL_nil⟩
end Go.Proofs.YtcojgmgoiopboaaGreatDoor
