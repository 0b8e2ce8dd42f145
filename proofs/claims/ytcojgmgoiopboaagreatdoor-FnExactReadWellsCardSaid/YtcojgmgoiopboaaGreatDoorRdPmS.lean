/- ReadPermits, in the reference: the walk. -/
import Derived.Test.YtcojgmgoiopboaaGreatDoorRdPmP
import Derived.Test.YtcojgmgoiopboaaGreatDoorScaled
namespace Go.Proofs.YtcojgmgoiopboaaGreatDoor
open Go.ChangeShapes Go.WideShapes Go.ChangeAt Go.RowKit
set_option linter.unusedVariables false
set_option linter.unusedSimpArgs false
attribute [local irreducible] Calls

theorem splitL_len_le (c : UInt8) : ∀ (l : List UInt8), ∀ a ∈ splitL c l, a.length ≤ l.length
  | [], a, h => by have h : a = [] := by simpa [splitL] using h
                   rw [h]; simp
  | x :: l, a, h => by
    have ih := splitL_len_le c l
    rw [splitL] at h
    split at h
    · rcases List.mem_cons.1 h with rfl | h
      · simp
      · have := ih a h; simp; omega
    · cases hs : splitL c l with
      | nil => exact absurd hs (splitL_ne c l)
      | cons b t =>
        rw [hs] at h ih
        rcases List.mem_cons.1 h with rfl | h
        · have := ih b List.mem_cons_self; simp; omega
        · have := ih a (List.mem_cons_of_mem _ h); simp; omega
theorem splitL_get_le (c : UInt8) (l : List UInt8) (i : Nat) : ((splitL c l).getD i []).length ≤ l.length := by
  rw [List.getD_eq_getElem?_getD]
  by_cases h : i < (splitL c l).length
  · rw [List.getElem?_eq_getElem h]; exact splitL_len_le c l _ (List.getElem_mem h)
  · rw [List.getElem?_eq_none (by omega)]; simp
theorem size_of (L : List UInt8) : (⟨L.toArray⟩ : ByteArray).size = L.length := by simp [ByteArray.size]
theorem wrap8 (n : Int) (h : 0 ≤ n ∧ n ≤ 127) : IntKind.i8.wrap n = n := by
  simp [IntKind.wrap, IntKind.bits, IntKind.signed]
  omega
theorem wrap16 (n : Int) (h : 0 ≤ n ∧ n ≤ 32767) : IntKind.i16.wrap n = n := by
  simp [IntKind.wrap, IntKind.bits, IntKind.signed]
  omega
theorem plain_rd {l : List UInt8} {n : Nat} (h : ∀ i, i < n → okW (wordsAt l i)) : plainPs n (rdP l) = decide (n ≤ 6) ∧ ∀ i, i < n → (rdP l i).ok := by
  have hb : ∀ i, i < n → (0 ≤ (rdP l i).own ∧ (rdP l i).own ≤ 7) ∧ (0 ≤ (rdP l i).cel ∧ (rdP l i).cel ≤ 63) ∧ (0 ≤ (rdP l i).rat ∧ (rdP l i).rat ≤ 400) := fun i hi => (okW_row (l := (splitL 10 l).getD i []) (h i hi)).2
  refine ⟨?_, fun i hi => by have := hb i hi; unfold Pm.ok; omega⟩
  unfold plainPs
  rw [anyTo_false.2 fun i hi => by
    have := hb i hi
    unfold badAny badOwner badCell badRate
    simp; omega]
  simp
theorem strs_getD {L : List (List UInt8)} {i : Nat} (h : i < L.length) : (strs L)[i]? = some (.string ⟨(L.getD i []).toArray⟩) := by
  apply strs_get; rw [List.getD_eq_getElem?_getD, List.getElem?_eq_getElem h]; rfl
end Go.Proofs.YtcojgmgoiopboaaGreatDoor
