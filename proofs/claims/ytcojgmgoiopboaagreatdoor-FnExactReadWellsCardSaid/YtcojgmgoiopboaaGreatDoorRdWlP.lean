/- Wells read from a text: plain laws; no statement is proved here. -/
import Derived.Test.YtcojgmgoiopboaaGreatDoorRdRgP
import Derived.Test.YtcojgmgoiopboaaGreatDoorWl
import Derived.Test.YtcojgmgoiopboaaGreatDoorReadN
namespace Go.Proofs.YtcojgmgoiopboaaGreatDoor
open Go.ChangeShapes Go.WideShapes Go.ChangeAt Go.RowKit
set_option linter.unusedVariables false

def okWl (p : Wl) : Prop := (-100 ≤ p.px ∧ p.px ≤ 100) ∧ (-100 ≤ p.py ∧ p.py ≤ 100) ∧ plain p.rt = true ∧ p.rt < 4294967296
/-- Are wells valid? -/
def validL (n : Nat) (P : Nat → Wl) : Prop := n ≤ 12 ∧ ∀ i, i < n → okWl (P i)
theorem numL_plain {b : Nat} (h : plain b = true) (hb : b < 4294967296) : numL (txt b) = some b := by
  rw [numL_txt hb]
  unfold cn cnk
  rw [plain_numW h]
  rfl
theorem numB_txt {b : Nat} (h : plain b = true) (hb : b < 4294967296) : numB (txt b) = b ∧ numC (txt b) = 0 := by
  unfold numB numC; rw [numL_plain h hb]; exact ⟨rfl, rfl⟩
theorem numC_txt {l : List UInt8} (h : numC l = 0) : txt (numB l) = l ∧ numB l < 4294967296 := by
  unfold numC at h
  unfold numB
  cases hl : numL l with
  | none => rw [hl] at h; simp at h
  | some b =>
    have := numL_some hl
    exact ⟨this.2.2.2.2.symm, this.2.2.2.1⟩
theorem numB_lt (l : List UInt8) : numB l < 4294967296 := by
  unfold numB
  cases hl : numL l with
  | none => decide
  | some b => exact (numL_some hl).2.2.2.1
/-- A row's text without its end. -/
def rowV (p : Wl) : List UInt8 := glue 32 [Lib.itoa p.px, Lib.itoa p.py, txt p.rt]
def rowsV (P : Nat → Wl) (n : Nat) : List (List UInt8) := (List.range n).map fun i => rowV (P i)
def txtWl (P : Nat → Wl) : Nat → List UInt8
  | 0 => []
  | k + 1 => txtWl P k ++ (rowV (P k) ++ [10])
theorem txtWl_lined (P : Nat → Wl) : ∀ n, txtWl P n = lined 10 (rowsV P n)
  | 0 => rfl
  | n + 1 => by
    have ih := txtWl_lined P n
    unfold txtWl rowsV
    rw [List.range_succ, List.map_append]
    show _ = lined 10 (rowsV P n ++ [rowV (P n)])
    rw [lined_snoc, ih, List.append_assoc]
theorem txtWl_congr {P P' : Nat → Wl} : ∀ {n : Nat}, (∀ i, i < n → P i = P' i) → txtWl P n = txtWl P' n
  | 0, _ => rfl
  | n + 1, h => by unfold txtWl; rw [txtWl_congr (fun i hi => h i (by omega)), h n (by omega)]
theorem rowV_words {p : Wl} (h : p.rt < 4294967296) : splitL 32 (rowV p) = [Lib.itoa p.px, Lib.itoa p.py, txt p.rt] := by
  unfold rowV
  refine splitL_glue (by simp) fun a ha => ?_
  simp at ha
  rcases ha with rfl | rfl | rfl
  · exact itoa_not _ _ (by decide)
  · exact itoa_not _ _ (by decide)
  · exact txt_not _ h _ (by decide)
theorem rowV_not {p : Wl} (h : p.rt < 4294967296) : (10 : UInt8) ∉ rowV p := by
  have h1 := fun u => itoa_not u 10 (by decide)
  have h2 := txt_not p.rt h 10 (by decide)
  simp [rowV, glue, h1, h2]
theorem rowsV_not {P : Nat → Wl} {n : Nat} (h : ∀ i, i < n → (P i).rt < 4294967296) : ∀ a ∈ rowsV P n, (10 : UInt8) ∉ a := by
  intro a ha
  unfold rowsV at ha
  rw [List.mem_map] at ha
  obtain ⟨i, hi, rfl⟩ := ha
  exact rowV_not (h i (List.mem_range.1 hi))
theorem rowsV_len (P : Nat → Wl) (n : Nat) : (rowsV P n).length = n := by simp [rowsV]
theorem rowsV_get (P : Nat → Wl) (n i : Nat) (h : i < n) : (rowsV P n)[i]? = some (rowV (P i)) := by simp [rowsV, h]
theorem split_txtWl {P : Nat → Wl} {n : Nat} (h : ∀ i, i < n → (P i).rt < 4294967296) : splitL 10 (txtWl P n) = rowsV P n ++ [[]] := by
  rw [txtWl_lined]; exact splitL_lined (rowsV_not h)
def wlW (ws : List (List UInt8)) : Wl := ⟨sgV (ws.getD 0 []), sgV (ws.getD 1 []), numB (ws.getD 2 [])⟩
def rdL (l : List UInt8) (i : Nat) : Wl := wlW (wordsAt l i)
def in100 (z : Int) : Bool := decide (-100 ≤ z) && decide (z ≤ 100)
def okL (ws : List (List UInt8)) : Bool := sgB (ws.getD 0 []) && sgB (ws.getD 1 []) && in100 (sgV (ws.getD 0 [])) && in100 (sgV (ws.getD 1 [])) && decide (numC (ws.getD 2 []) = 0) && plain (numB (ws.getD 2 []))
def okLW (ws : List (List UInt8)) : Prop := ws.length = 3 ∧ okL ws = true
/-- Is a text that of wells? -/
def goodWl (l : List UInt8) : Prop := ∃ n P, validL n P ∧ l = txtWl P n
theorem wl_txt {P : Nat → Wl} {n : Nat} (h : validL n P) : rdN (txtWl P n) = n ∧ ∀ i, i < n → rdL (txtWl P n) i = P i ∧ okLW (wordsAt (txtWl P n) i) := by
  obtain ⟨h12, hp⟩ := h
  have hlt := fun i hi => (hp i hi).2.2.2
  refine ⟨by unfold rdN; rw [split_txtWl hlt]; simp [rowsV_len], fun i hi => ?_⟩
  have hw : wordsAt (txtWl P n) i = [Lib.itoa (P i).px, Lib.itoa (P i).py, txt (P i).rt] := by
    unfold wordsAt
    rw [split_txtWl hlt, List.getD_eq_getElem?_getD, List.getElem?_append_left (by rw [rowsV_len]; exact hi), rowsV_get _ _ _ hi]
    exact rowV_words (hlt i hi)
  obtain ⟨hx, hy, hpl, hlt'⟩ := hp i hi
  have s1 := sg_itoa (z := (P i).px) (by omega)
  have s2 := sg_itoa (z := (P i).py) (by omega)
  have s3 := numB_txt hpl hlt'
  refine ⟨?_, ?_⟩
  · unfold rdL wlW
    rw [hw]
    simp only [List.getD_cons_zero, List.getD_cons_succ, s1.1, s2.1, s3.1]
  · rw [hw]
    refine ⟨rfl, ?_⟩
    unfold okL in100
    simp only [List.getD_cons_zero, List.getD_cons_succ, s1.1, s1.2, s2.1, s2.2, s3.1, s3.2, hpl]
    simp; omega
theorem okLW_row {l : List UInt8} (h : okLW (splitL 32 l)) : rowV (wlW (splitL 32 l)) = l ∧ okWl (wlW (splitL 32 l)) := by
  have hg := glue_split 32 l
  obtain ⟨h1, h2⟩ := h
  generalize splitL 32 l = ws at *
  obtain ⟨a, b, c, rfl⟩ : ∃ a b c, ws = [a, b, c] := by
    match ws, h1 with
    | [a, b, c], _ => exact ⟨a, b, c, rfl⟩
  unfold okL in100 at h2
  simp only [List.getD_cons_zero, List.getD_cons_succ, Bool.and_eq_true, decide_eq_true_eq] at h2
  obtain ⟨⟨⟨⟨⟨s1, s2⟩, l1⟩, l2⟩, c3⟩, p3⟩ := h2
  have q1 := sg_some s1
  have q2 := sg_some s2
  have q3 := numC_txt c3
  unfold rowV wlW okWl
  simp only [List.getD_cons_zero, List.getD_cons_succ, q1, q2, q3.1]
  exact ⟨hg, l1, l2, p3, q3.2⟩
theorem goodWl_iff (l : List UInt8) : goodWl l ↔ ((splitL 10 l).getD (rdN l) [0] = [] ∧ (∀ i, i < rdN l → okLW (wordsAt l i)) ∧ rdN l ≤ 12) := by
  constructor
  · rintro ⟨n, P, h, rfl⟩
    obtain ⟨h1, h2⟩ := wl_txt h
    rw [h1]
    refine ⟨?_, fun i hi => (h2 i hi).2, h.1⟩
    rw [split_txtWl (fun i hi => (h.2 i hi).2.2.2), List.getD_eq_getElem?_getD, List.getElem?_append_right (by rw [rowsV_len]; exact Nat.le_refl _), rowsV_len, Nat.sub_self]; rfl
  · rintro ⟨h1, h2, h3⟩
    have hpos := List.length_pos_iff.2 (splitL_ne 10 l)
    have hn : rdN l + 1 = (splitL 10 l).length := by unfold rdN; omega
    have hrow := fun i (hi : i < rdN l) => okLW_row (l := (splitL 10 l).getD i []) (h2 i hi)
    refine ⟨rdN l, rdL l, ⟨h3, fun i hi => (hrow i hi).2⟩, ?_⟩
    rw [txtWl_lined]
    have hs : splitL 10 l = rowsV (rdL l) (rdN l) ++ [[]] := by
      apply List.ext_getElem?
      intro i
      by_cases hi : i < rdN l
      · rw [List.getElem?_append_left (by rw [rowsV_len]; exact hi), rowsV_get _ _ _ hi]
        have := (hrow i hi).1
        unfold rdL wordsAt
        rw [this, List.getD_eq_getElem?_getD, List.getElem?_eq_getElem (by omega)]; rfl
      · by_cases he : i = rdN l
        · subst he
          rw [List.getElem?_append_right (by rw [rowsV_len]; omega), rowsV_len, Nat.sub_self]
          rw [List.getD_eq_getElem?_getD, List.getElem?_eq_getElem (by omega)] at h1
          rw [List.getElem?_eq_getElem (by omega)]
          exact congrArg some h1
        · rw [List.getElem?_eq_none (by omega), List.getElem?_eq_none (by simp [rowsV_len]; omega)]
    exact (lined_of hs).symm
/-- A good text's lines, as the program finds them. -/
theorem lines_txtW {P : Nat → Wl} {n : Nat} (h : validL n P) : (linesL (txtWl P n)).length = n ∧ goodTo (txtWl P n) 3 12 n ∧ ∀ j, j < n → lineWs ((linesL (txtWl P n)).getD j []) = [Lib.itoa (P j).px, Lib.itoa (P j).py, txt (P j).rt] := by
  have hlt := fun i hi => (h.2 i hi).2.2.2
  have hl : linesL (txtWl P n) = (rowsV P n).map (· ++ [10]) := by rw [txtWl_lined]; exact linesL_lined _ (rowsV_not hlt)
  have hw : ∀ j, j < n → lineWs ((linesL (txtWl P n)).getD j []) = [Lib.itoa (P j).px, Lib.itoa (P j).py, txt (P j).rt] := fun j hj => by
    rw [hl, List.getD_eq_getElem?_getD, List.getElem?_map, rowsV_get _ _ _ hj]
    show lineWs (rowV (P j) ++ [10]) = _
    unfold lineWs
    rw [trim_end]
    exact rowV_words (hlt j hj)
  exact ⟨by rw [hl]; simp [rowsV_len], ⟨h.1, fun j hj => by rw [hw j hj]; rfl⟩, hw⟩
/-- The wells that the program reads off the lines' words. -/
def wlI (l : List UInt8) (j : Nat) : Wl := ⟨numZ (-100) 100 ((lineWs ((linesL l).getD j [])).getD 0 []), numZ (-100) 100 ((lineWs ((linesL l).getD j [])).getD 1 []), numB ((lineWs ((linesL l).getD j [])).getD 2 [])⟩
theorem wlI_in (l : List UInt8) (j : Nat) : (-100 ≤ (wlI l j).px ∧ (wlI l j).px ≤ 100) ∧ (-100 ≤ (wlI l j).py ∧ (wlI l j).py ≤ 100) ∧ (wlI l j).rt < 4294967296 :=
  ⟨numZ_in _ _ (by decide) _, numZ_in _ _ (by decide) _, numB_lt _⟩
theorem wlI_txt {P : Nat → Wl} {n : Nat} (h : validL n P) : ∀ j, j < n → wlI (txtWl P n) j = P j := fun j hj => by
  obtain ⟨hx, hy, hpl, hlt⟩ := h.2 j hj
  unfold wlI
  rw [(lines_txtW h).2.2 j hj]
  simp only [List.getD_cons_zero, List.getD_cons_succ]
  rw [numZ_itoa (z := (P j).px) (by omega) (by omega), numZ_itoa (z := (P j).py) (by omega) (by omega), (numB_txt hpl hlt).1]
/-- Is some well none? -/
def badL (p : Wl) : Bool := !plain p.rt
/-- What the program finds is what the reference finds. -/
theorem goodWl_I (l : List UInt8) : goodWl l ↔ (goodTo l 3 12 (linesL l).length ∧ anyTo badL (wlI l) (linesL l).length = false ∧ txtWl (wlI l) (linesL l).length = l) := by
  constructor
  · rintro ⟨n, P, h, rfl⟩
    obtain ⟨h1, h2, h3⟩ := lines_txtW h
    rw [h1]
    exact ⟨h2, anyTo_false.2 fun i hi => by rw [wlI_txt h i hi]; unfold badL; rw [(h.2 i hi).2.2.1]; rfl, txtWl_congr (wlI_txt h)⟩
  · rintro ⟨h1, h2, h3⟩
    refine ⟨(linesL l).length, wlI l, ⟨h1.1, fun i hi => ?_⟩, h3.symm⟩
    have h4 := anyTo_false.1 h2 i hi
    obtain ⟨a, b, c⟩ := wlI_in l i
    exact ⟨a, b, by unfold badL at h4; simpa using h4, c⟩
theorem goodWl_same {l : List UInt8} (h : goodWl l) : rdN l = (linesL l).length ∧ ∀ i, i < rdN l → rdL l i = wlI l i := by
  obtain ⟨n, P, h, rfl⟩ := h
  obtain ⟨h1, h2⟩ := wl_txt h
  obtain ⟨h3, h4, h5⟩ := lines_txtW h
  exact ⟨by rw [h1, h3], fun i hi => by rw [h1] at hi; rw [(h2 i hi).1, wlI_txt h i hi]⟩
open Classical in
/-- The code that goes with a text. -/
noncomputable def wlC (l : List UInt8) : Int := if goodWl l then 0 else 5
open Classical in
noncomputable def wlM (l : List UInt8) : Nat := if goodWl l then rdN l else 0
theorem wl_good {l : List UInt8} (h : goodWl l) : wlC l = 0 ∧ wlM l = rdN l := ⟨by unfold wlC; rw [if_pos h], by unfold wlM; rw [if_pos h]⟩
theorem wl_bad {l : List UInt8} (h : ¬ goodWl l) : wlC l = 5 ∧ wlM l = 0 := ⟨by unfold wlC; rw [if_neg h], by unfold wlM; rw [if_neg h]⟩
theorem wlM_le (l : List UInt8) : wlM l ≤ 12 ∧ ∀ i, i < wlM l → isN .f32 (rdL l i).rt = false := by
  by_cases h : goodWl l
  · rw [(wl_good h).2]
    have hi := (goodWl_iff l).1 h
    exact ⟨hi.2.2, fun i hi2 => plain_numW (okLW_row (l := (splitL 10 l).getD i []) (hi.2.1 i hi2)).2.2.2.1⟩
  · rw [(wl_bad h).2]; exact ⟨by omega, fun i hi => absurd hi (by omega)⟩
end Go.Proofs.YtcojgmgoiopboaaGreatDoor
