/- The lines of a text, each with what ends it: plain laws; no statement is proved here. -/
import Derived.Test.YtcojgmgoiopboaaGreatDoorWordP
import Derived.Lib.Bytealg
namespace Go.Proofs.YtcojgmgoiopboaaGreatDoor
open Go.ChangeShapes Go.WideShapes Go.ChangeAt Go.RowKit
set_option linter.unusedVariables false

def linesL : List UInt8 → List (List UInt8)
  | [] => []
  | x :: l => if x = 10 then [10] :: linesL l else match linesL l with | h :: t => (x :: h) :: t | [] => [[x]]
theorem linesL_flat : ∀ l, (linesL l).flatten = l
  | [] => rfl
  | x :: l => by
    have ih := linesL_flat l
    rw [linesL]
    split
    · rename_i h; simp [ih, h]
    · cases hs : linesL l with
      | nil => rw [hs] at ih; simp at ih; simp [← ih]
      | cons h t => rw [hs] at ih; simp at ih ⊢; exact ih
/-- The first line: it ends with the byte that ends lines, or it is the last. -/
theorem linesL_head : ∀ (l : List UInt8) {h : List UInt8} {t : List (List UInt8)}, linesL l = h :: t → t = linesL t.flatten ∧ ((∃ p, h = p ++ [10] ∧ (10 : UInt8) ∉ p) ∨ ((10 : UInt8) ∉ h ∧ h ≠ [] ∧ t = []))
  | [], h, t, e => by cases e
  | x :: l, h, t, e => by
    rw [linesL] at e
    split at e
    · rename_i hx
      injection e with e1 e2
      subst e1 e2
      exact ⟨by rw [linesL_flat], .inl ⟨[], rfl, by simp⟩⟩
    · rename_i hx
      cases hs : linesL l with
      | nil =>
        rw [hs] at e
        injection e with e1 e2
        subst e1 e2
        exact ⟨rfl, .inr ⟨by simpa using fun q => hx q.symm, by simp, rfl⟩⟩
      | cons h' t' =>
        rw [hs] at e
        injection e with e1 e2
        subst e1 e2
        obtain ⟨i1, i2⟩ := linesL_head l hs
        refine ⟨i1, ?_⟩
        rcases i2 with ⟨p, rfl, hp⟩ | ⟨q1, q2, q3⟩
        · exact .inl ⟨x :: p, rfl, by simp; exact ⟨fun q => hx q.symm, hp⟩⟩
        · exact .inr ⟨by simp; exact ⟨fun q => hx q.symm, q1⟩, by simp, q3⟩
theorem linesL_nil {l : List UInt8} (h : linesL l = []) : l = [] := by
  have := linesL_flat l; rw [h] at this; simpa using this.symm
/-- The lines that are still to come, as one text. -/
def leftL (l : List UInt8) (k : Nat) : List UInt8 := ((linesL l).drop k).flatten
theorem leftL_zero (l : List UInt8) : leftL l 0 = l := by unfold leftL; simp [linesL_flat]
theorem leftL_lines (l : List UInt8) : ∀ k, linesL (leftL l k) = (linesL l).drop k
  | 0 => by rw [leftL_zero]; simp
  | k + 1 => by
    have ih := leftL_lines l k
    cases hd : (linesL l).drop k with
    | nil =>
      have h1 : (linesL l).drop (k + 1) = [] := by rw [← List.drop_drop, hd]; rfl
      unfold leftL; rw [h1]; rfl
    | cons h t =>
      have h1 : (linesL l).drop (k + 1) = t := by rw [← List.drop_drop, hd]; rfl
      rw [hd] at ih
      have := (linesL_head _ ih).1
      unfold leftL; rw [h1]; exact this.symm
theorem leftL_step {l : List UInt8} {k : Nat} (h : k < (linesL l).length) : leftL l k = (linesL l)[k] ++ leftL l (k + 1) ∧ ((∃ p, (linesL l)[k] = p ++ [10] ∧ (10 : UInt8) ∉ p) ∨ ((10 : UInt8) ∉ (linesL l)[k] ∧ (linesL l)[k] ≠ [] ∧ leftL l (k + 1) = [])) := by
  have hd : (linesL l).drop k = (linesL l)[k] :: (linesL l).drop (k + 1) := List.drop_eq_getElem_cons h
  have hh := linesL_head (leftL l k) (by rw [leftL_lines, hd])
  refine ⟨by show ((linesL l).drop k).flatten = (linesL l)[k] ++ ((linesL l).drop (k + 1)).flatten; rw [hd]; rfl, ?_⟩
  rcases hh.2 with q | ⟨q1, q2, q3⟩
  · exact .inl q
  · exact .inr ⟨q1, q2, by unfold leftL; rw [q3]; rfl⟩
theorem leftL_end (l : List UInt8) : leftL l (linesL l).length = [] := by unfold leftL; simp
theorem leftL_len (l : List UInt8) (k : Nat) : (leftL l k).length ≤ l.length := by
  have h1 : (linesL l).flatten = ((linesL l).take k).flatten ++ leftL l k := by
    unfold leftL
    rw [← List.flatten_append, List.take_append_drop]
  rw [linesL_flat] at h1
  have := congrArg List.length h1
  simp at this; omega
theorem indexByte_hit : ∀ (p m : List UInt8) (c : UInt8), c ∉ p → Lib.indexByte (p ++ c :: m) c = p.length
  | [], m, c, _ => by simp [Lib.indexByte]
  | x :: p, m, c, h => by
    have hx : x ≠ c := fun e => h (by rw [e]; exact List.mem_cons_self)
    have ih := indexByte_hit p m c (fun e => h (List.mem_cons_of_mem _ e))
    simp [Lib.indexByte, hx, ih]
    try omega
theorem indexByte_miss : ∀ (p : List UInt8) (c : UInt8), c ∉ p → Lib.indexByte p c = -1
  | [], c, _ => by simp [Lib.indexByte]
  | x :: p, c, h => by
    have hx : x ≠ c := fun e => h (by rw [e]; exact List.mem_cons_self)
    have ih := indexByte_miss p c (fun e => h (List.mem_cons_of_mem _ e))
    simp [Lib.indexByte, hx, ih]
/-- A text's lines where its last word between ends is empty. -/
theorem linesL_lined : ∀ L : List (List UInt8), (∀ a ∈ L, (10 : UInt8) ∉ a) → linesL (lined 10 L) = L.map (· ++ [10])
  | [], _ => rfl
  | a :: L, h => by
    rw [lined_cons]
    have ha := h a (by simp)
    have ih := linesL_lined L (fun x hx => h x (List.mem_cons_of_mem _ hx))
    have go : ∀ (p : List UInt8), (10 : UInt8) ∉ p → linesL (p ++ 10 :: lined 10 L) = (p ++ [10]) :: L.map (· ++ [10]) := by
      intro p
      induction p with
      | nil => intro _; rw [List.nil_append, linesL, if_pos rfl, ih]; rfl
      | cons x p ihp =>
        intro hp
        have hx : x ≠ 10 := fun e => hp (by rw [e]; exact List.mem_cons_self)
        show linesL (x :: (p ++ 10 :: lined 10 L)) = _
        rw [linesL, if_neg hx, ihp (fun e => hp (List.mem_cons_of_mem _ e))]
        rfl
    rw [go a ha]; rfl
end Go.Proofs.YtcojgmgoiopboaaGreatDoor
