import Derived.Test.YtcojgmgoiopboaaGreatDoorMR14
import Derived.Test.YtcojgmgoiopboaaGreatDoorMR15
import Derived.Test.YtcojgmgoiopboaaGreatDoorMR18
import Derived.Test.YtcojgmgoiopboaaGreatDoorMR06
import Derived.IntWalk
/- Permits read from a text: plain laws; no statement is proved here. -/
namespace Go.Proofs.YtcojgmgoiopboaaGreatDoor
open Go.ChangeShapes Go.WideShapes Go.ChangeAt Go.RowKit
set_option linter.unusedVariables false

/-- A row's text without its end. -/
def rowL (p : Pm) : List UInt8 := glue 32 [Lib.decDigits p.own.toNat, Lib.decDigits p.cel.toNat, Lib.decDigits p.rat.toNat]
theorem rowPm_eq (p : Pm) : rowPm p = rowL p ++ [10] := by simp [rowPm, rowL, glue]
def rowsL (P : Nat → Pm) (n : Nat) : List (List UInt8) := (List.range n).map fun i => rowL (P i)
theorem txtPm_lined (P : Nat → Pm) : ∀ n, txtPm P n = lined 10 (rowsL P n)
  | 0 => rfl
  | n + 1 => by
    have ih := txtPm_lined P n
    unfold txtPm rowsL
    rw [List.range_succ, List.map_append]
    show _ = lined 10 (rowsL P n ++ [rowL (P n)])
    rw [lined_snoc, ih, rowPm_eq, List.append_assoc]
theorem rowL_words (p : Pm) : splitL 32 (rowL p) = [Lib.decDigits p.own.toNat, Lib.decDigits p.cel.toNat, Lib.decDigits p.rat.toNat] := by
  unfold rowL
  refine splitL_glue (by simp) fun a ha => ?_
  simp at ha
  rcases ha with rfl | rfl | rfl <;> exact decDigits_not _ _ (by decide)
theorem rowL_not (p : Pm) : (10 : UInt8) ∉ rowL p := by
  have h := fun u => decDigits_not u 10 (by decide)
  simp [rowL, glue, h]
theorem rowsL_not (P : Nat → Pm) (n : Nat) : ∀ a ∈ rowsL P n, (10 : UInt8) ∉ a := by
  intro a ha
  unfold rowsL at ha
  rw [List.mem_map] at ha
  obtain ⟨i, _, rfl⟩ := ha
  exact rowL_not _
theorem rowsL_len (P : Nat → Pm) (n : Nat) : (rowsL P n).length = n := by simp [rowsL]
theorem rowsL_get (P : Nat → Pm) (n i : Nat) (h : i < n) : (rowsL P n)[i]? = some (rowL (P i)) := by simp [rowsL, h]
theorem split_txtPm (P : Nat → Pm) (n : Nat) : splitL 10 (txtPm P n) = rowsL P n ++ [[]] := by
  rw [txtPm_lined]; exact splitL_lined (rowsL_not P n)
/-- How many rows has a text? -/
def rdN (l : List UInt8) : Nat := (splitL 10 l).length - 1
def wordsAt (l : List UInt8) (i : Nat) : List (List UInt8) := splitL 32 ((splitL 10 l).getD i [])
def pmW (ws : List (List UInt8)) : Pm := ⟨(((decN (ws.getD 0 [])).getD 0 : Nat) : Int), (((decN (ws.getD 1 [])).getD 0 : Nat) : Int), (((decN (ws.getD 2 [])).getD 0 : Nat) : Int)⟩
def rdP (l : List UInt8) (i : Nat) : Pm := pmW (wordsAt l i)
def okB (ws : List (List UInt8)) : Bool := (decN (ws.getD 0 [])).isSome && (decN (ws.getD 1 [])).isSome && (decN (ws.getD 2 [])).isSome && decide ((decN (ws.getD 0 [])).getD 0 ≤ 7) && decide ((decN (ws.getD 1 [])).getD 0 ≤ 63) && decide ((decN (ws.getD 2 [])).getD 0 ≤ 400)
def okW (ws : List (List UInt8)) : Prop := ws.length = 3 ∧ okB ws = true
/-- Is a text that of permits? -/
def goodPm (l : List UInt8) : Prop := ∃ n P, plainPs n P = true ∧ l = txtPm P n
theorem rd_txt {P : Nat → Pm} {n : Nat} (h : plainPs n P = true) : rdN (txtPm P n) = n ∧ ∀ i, i < n → wordsAt (txtPm P n) i = [Lib.decDigits (P i).own.toNat, Lib.decDigits (P i).cel.toNat, Lib.decDigits (P i).rat.toNat] ∧ rdP (txtPm P n) i = P i ∧ okW (wordsAt (txtPm P n) i) := by
  obtain ⟨h6, hb⟩ := plainPs_parts h
  refine ⟨by unfold rdN; rw [split_txtPm]; simp [rowsL_len], fun i hi => ?_⟩
  have hw : wordsAt (txtPm P n) i = [Lib.decDigits (P i).own.toNat, Lib.decDigits (P i).cel.toNat, Lib.decDigits (P i).rat.toNat] := by
    unfold wordsAt
    rw [split_txtPm, List.getD_eq_getElem?_getD, List.getElem?_append_left (by rw [rowsL_len]; exact hi), rowsL_get _ _ _ hi]
    exact rowL_words _
  obtain ⟨⟨a1, a2⟩, ⟨b1, b2⟩, c1, c2⟩ := hb i hi
  have d1 := decN_digits (u := (P i).own.toNat) (by omega)
  have d2 := decN_digits (u := (P i).cel.toNat) (by omega)
  have d3 := decN_digits (u := (P i).rat.toNat) (by omega)
  refine ⟨hw, ?_, ?_⟩
  · unfold rdP pmW
    rw [hw]
    have e1 : (((P i).own.toNat : Nat) : Int) = (P i).own := by omega
    have e2 : (((P i).cel.toNat : Nat) : Int) = (P i).cel := by omega
    have e3 : (((P i).rat.toNat : Nat) : Int) = (P i).rat := by omega
    simp only [List.getD_cons_zero, List.getD_cons_succ, d1, d2, d3, Option.getD_some, e1, e2, e3]
  · rw [hw]
    refine ⟨rfl, ?_⟩
    unfold okB
    simp only [List.getD_cons_zero, List.getD_cons_succ, d1, d2, d3, Option.getD_some, Option.isSome_some]
    simp; omega
theorem okW_row {l : List UInt8} (h : okW (splitL 32 l)) : rowL (pmW (splitL 32 l)) = l ∧ ((0 ≤ (pmW (splitL 32 l)).own ∧ (pmW (splitL 32 l)).own ≤ 7) ∧ (0 ≤ (pmW (splitL 32 l)).cel ∧ (pmW (splitL 32 l)).cel ≤ 63) ∧ (0 ≤ (pmW (splitL 32 l)).rat ∧ (pmW (splitL 32 l)).rat ≤ 400)) := by
  have hg := glue_split 32 l
  obtain ⟨h1, h2⟩ := h
  generalize splitL 32 l = ws at *
  obtain ⟨a, b, c, rfl⟩ : ∃ a b c, ws = [a, b, c] := by
    match ws, h1 with
    | [a, b, c], _ => exact ⟨a, b, c, rfl⟩
  unfold okB at h2
  simp only [List.getD_cons_zero, List.getD_cons_succ, Bool.and_eq_true, decide_eq_true_eq] at h2
  obtain ⟨⟨⟨⟨⟨s1, s2⟩, s3⟩, l1⟩, l2⟩, l3⟩ := h2
  obtain ⟨u1, e1⟩ := Option.isSome_iff_exists.1 s1
  obtain ⟨u2, e2⟩ := Option.isSome_iff_exists.1 s2
  obtain ⟨u3, e3⟩ := Option.isSome_iff_exists.1 s3
  rw [e1] at l1; rw [e2] at l2; rw [e3] at l3
  simp only [Option.getD_some] at l1 l2 l3
  have q1 := (decN_some e1).1
  have q2 := (decN_some e2).1
  have q3 := (decN_some e3).1
  unfold rowL pmW
  simp only [List.getD_cons_zero, List.getD_cons_succ, e1, e2, e3, Option.getD_some, Int.toNat_natCast, q1, q2, q3]
  exact ⟨hg, by omega⟩
theorem goodPm_iff (l : List UInt8) : goodPm l ↔ ((splitL 10 l).getD (rdN l) [0] = [] ∧ (∀ i, i < rdN l → okW (wordsAt l i)) ∧ rdN l ≤ 6) := by
  constructor
  · rintro ⟨n, P, h, rfl⟩
    obtain ⟨h1, h2⟩ := rd_txt h
    obtain ⟨h6, hb⟩ := plainPs_parts h
    rw [h1]
    refine ⟨?_, fun i hi => (h2 i hi).2.2, h6⟩
    rw [split_txtPm, List.getD_eq_getElem?_getD, List.getElem?_append_right (by rw [rowsL_len]; exact Nat.le_refl _), rowsL_len, Nat.sub_self]; rfl
  · rintro ⟨h1, h2, h3⟩
    have hpos := List.length_pos_iff.2 (splitL_ne 10 l)
    have hn : rdN l + 1 = (splitL 10 l).length := by unfold rdN; omega
    have hrow := fun i (hi : i < rdN l) => okW_row (l := (splitL 10 l).getD i []) (h2 i hi)
    refine ⟨rdN l, rdP l, ?_, ?_⟩
    · unfold plainPs
      simp only [Bool.and_eq_true, decide_eq_true_eq, Bool.not_eq_true']
      refine ⟨h3, anyTo_false.2 fun i hi => ?_⟩
      have : (0 ≤ (rdP l i).own ∧ (rdP l i).own ≤ 7) ∧ (0 ≤ (rdP l i).cel ∧ (rdP l i).cel ≤ 63) ∧ (0 ≤ (rdP l i).rat ∧ (rdP l i).rat ≤ 400) := (hrow i hi).2
      unfold badAny badOwner badCell badRate
      simp; omega
    · rw [txtPm_lined]
      have hs : splitL 10 l = rowsL (rdP l) (rdN l) ++ [[]] := by
        apply List.ext_getElem?
        intro i
        by_cases hi : i < rdN l
        · rw [List.getElem?_append_left (by rw [rowsL_len]; exact hi), rowsL_get _ _ _ hi]
          have := (hrow i hi).1
          unfold rdP wordsAt
          rw [this, List.getD_eq_getElem?_getD, List.getElem?_eq_getElem (by omega)]; rfl
        · by_cases he : i = rdN l
          · subst he
            rw [List.getElem?_append_right (by rw [rowsL_len]; omega), rowsL_len, Nat.sub_self]
            rw [List.getD_eq_getElem?_getD, List.getElem?_eq_getElem (by omega)] at h1
            rw [List.getElem?_eq_getElem (by omega)]
            exact congrArg some h1
          · rw [List.getElem?_eq_none (by omega), List.getElem?_eq_none (by simp [rowsL_len]; omega)]
      exact (lined_of hs).symm
theorem trim_end (a : List UInt8) : Lib.trimSuffix (a ++ [10]) [10] = a := by
  unfold Lib.trimSuffix Lib.hasSuffix
  simp
/-- A good text's lines, as the program finds them. -/
theorem lines_txt {P : Nat → Pm} {n : Nat} (h : plainPs n P = true) : (linesL (txtPm P n)).length = n ∧ goodTo (txtPm P n) 3 6 n ∧ ∀ j, j < n → lineWs ((linesL (txtPm P n)).getD j []) = [Lib.decDigits (P j).own.toNat, Lib.decDigits (P j).cel.toNat, Lib.decDigits (P j).rat.toNat] := by
  obtain ⟨h6, hb⟩ := plainPs_parts h
  have hl : linesL (txtPm P n) = (rowsL P n).map (· ++ [10]) := by rw [txtPm_lined]; exact linesL_lined _ (rowsL_not P n)
  have hw : ∀ j, j < n → lineWs ((linesL (txtPm P n)).getD j []) = [Lib.decDigits (P j).own.toNat, Lib.decDigits (P j).cel.toNat, Lib.decDigits (P j).rat.toNat] := fun j hj => by
    rw [hl, List.getD_eq_getElem?_getD, List.getElem?_map, rowsL_get _ _ _ hj]
    show lineWs (rowL (P j) ++ [10]) = _
    unfold lineWs
    rw [trim_end]
    exact rowL_words _
  exact ⟨by rw [hl]; simp [rowsL_len], ⟨h6, fun j hj => by rw [hw j hj]; rfl⟩, hw⟩
/-- The permits that the program reads off the lines' words. -/
def pmI (l : List UInt8) (j : Nat) : Pm := ⟨numZ 0 7 ((lineWs ((linesL l).getD j [])).getD 0 []), numZ 0 63 ((lineWs ((linesL l).getD j [])).getD 1 []), numZ 0 400 ((lineWs ((linesL l).getD j [])).getD 2 [])⟩
theorem pmI_in (l : List UInt8) (j : Nat) : (0 ≤ (pmI l j).own ∧ (pmI l j).own ≤ 7) ∧ (0 ≤ (pmI l j).cel ∧ (pmI l j).cel ≤ 63) ∧ (0 ≤ (pmI l j).rat ∧ (pmI l j).rat ≤ 400) :=
  ⟨numZ_in _ _ (by decide) _, numZ_in _ _ (by decide) _, numZ_in _ _ (by decide) _⟩
theorem pmI_plain (l : List UInt8) (n : Nat) : plainPs n (pmI l) = decide (n ≤ 6) := by
  unfold plainPs
  rw [anyTo_false.2 fun i hi => by
    have := pmI_in l i
    unfold badAny badOwner badCell badRate
    simp; omega]
  simp
theorem txtPm_congr {P P' : Nat → Pm} : ∀ {n : Nat}, (∀ i, i < n → P i = P' i) → txtPm P n = txtPm P' n
  | 0, _ => rfl
  | n + 1, h => by unfold txtPm; rw [txtPm_congr (fun i hi => h i (by omega)), h n (by omega)]
theorem pmI_txt {P : Nat → Pm} {n : Nat} (h : plainPs n P = true) : ∀ j, j < n → pmI (txtPm P n) j = P j := fun j hj => by
  obtain ⟨h6, hb⟩ := plainPs_parts h
  obtain ⟨⟨a1, a2⟩, ⟨b1, b2⟩, c1, c2⟩ := hb j hj
  unfold pmI
  rw [(lines_txt h).2.2 j hj]
  simp only [List.getD_cons_zero, List.getD_cons_succ]
  have e1 := numZ_digits (u := (P j).own.toNat) (hi := 7) (by omega) (by omega)
  have e2 := numZ_digits (u := (P j).cel.toNat) (hi := 63) (by omega) (by omega)
  have e3 := numZ_digits (u := (P j).rat.toNat) (hi := 400) (by omega) (by omega)
  have f1 : (((P j).own.toNat : Nat) : Int) = (P j).own := by omega
  have f2 : (((P j).cel.toNat : Nat) : Int) = (P j).cel := by omega
  have f3 : (((P j).rat.toNat : Nat) : Int) = (P j).rat := by omega
  rw [f1] at e1; rw [f2] at e2; rw [f3] at e3
  show (⟨numZ 0 ((7 : Nat) : Int) _, numZ 0 ((63 : Nat) : Int) _, numZ 0 ((400 : Nat) : Int) _⟩ : Pm) = _
  rw [e1, e2, e3]
/-- What the program finds is what the reference finds. -/
theorem goodPm_I (l : List UInt8) : goodPm l ↔ (goodTo l 3 6 (linesL l).length ∧ txtPm (pmI l) (linesL l).length = l) := by
  constructor
  · rintro ⟨n, P, h, rfl⟩
    obtain ⟨h1, h2, h3⟩ := lines_txt h
    rw [h1]
    exact ⟨h2, txtPm_congr (pmI_txt h)⟩
  · rintro ⟨h1, h2⟩
    exact ⟨(linesL l).length, pmI l, by rw [pmI_plain]; simpa using h1.1, h2.symm⟩
theorem goodPm_same {l : List UInt8} (h : goodPm l) : rdN l = (linesL l).length ∧ ∀ i, i < rdN l → rdP l i = pmI l i := by
  obtain ⟨n, P, h, rfl⟩ := h
  obtain ⟨h1, h2⟩ := rd_txt h
  obtain ⟨h3, h4, h5⟩ := lines_txt h
  exact ⟨by rw [h1, h3], fun i hi => by rw [h1] at hi; rw [(h2 i hi).2.1, pmI_txt h i hi]⟩
open Classical in
/-- The code that goes with a text. -/
noncomputable def rdC (l : List UInt8) : Int := if goodPm l then 0 else 5
open Classical in
noncomputable def rdM (l : List UInt8) : Nat := if goodPm l then rdN l else 0
theorem rd_good {l : List UInt8} (h : goodPm l) : rdC l = 0 ∧ rdM l = rdN l := ⟨by unfold rdC; rw [if_pos h], by unfold rdM; rw [if_pos h]⟩
theorem rd_bad {l : List UInt8} (h : ¬ goodPm l) : rdC l = 5 ∧ rdM l = 0 := ⟨by unfold rdC; rw [if_neg h], by unfold rdM; rw [if_neg h]⟩
theorem rdM_le (l : List UInt8) : rdM l ≤ 6 := by
  by_cases h : goodPm l
  · rw [(rd_good h).2]; exact ((goodPm_iff l).1 h).2.2
  · rw [(rd_bad h).2]; omega
end Go.Proofs.YtcojgmgoiopboaaGreatDoor
/- Readings in memory: lists of them, marks that a caller leaves in a list. Plain laws and the walks of the law's own functions. -/
namespace Go.Proofs.YtcojgmgoiopboaaGreatDoor
open Go.ChangeShapes Go.WideShapes Go.ChangeAt Go.RowKit
set_option linter.unusedVariables false

/-- A reading's numbers. -/
structure Rg where
  tim : Int
  lev : Int
@[irreducible] def Rg.cells (p : Rg) : Array Value := #[.int .i64 p.tim, .int .i16 p.lev]
theorem Rg.cells_eq (p : Rg) : p.cells = #[.int .i64 p.tim, .int .i16 p.lev] := by unfold Rg.cells; rfl
theorem Rg.cells_size (p : Rg) : p.cells.size = 2 := by rw [p.cells_eq]; rfl
theorem Rg.get0 (p : Rg) : p.cells[0]? = some (.int .i64 p.tim) := by rw [p.cells_eq]; rfl
theorem Rg.get1 (p : Rg) : p.cells[1]? = some (.int .i16 p.lev) := by rw [p.cells_eq]; rfl
theorem Rg.one (p : Rg) : ∀ v ∈ p.cells.toList, v.oneCell' = true := by
  intro v hv; rw [p.cells_eq] at hv; simp at hv; rcases hv with rfl | rfl <;> rfl
/-- n permits, one behind the other. -/
@[irreducible] def rgs (n : Nat) (P : Nat → Rg) : List Value := (List.range n).flatMap fun i => (P i).cells.toList
theorem rgs_zero (P : Nat → Rg) : rgs 0 P = [] := by simp [rgs]
theorem rgs_succ (n : Nat) (P : Nat → Rg) : rgs (n + 1) P = rgs n P ++ (P n).cells.toList := by simp [rgs, List.range_succ, List.flatMap_append]
theorem rgs_length (n : Nat) (P : Nat → Rg) : (rgs n P).length = n * 2 := by
  induction n with
  | zero => simp [rgs_zero]
  | succ n ih => rw [rgs_succ, List.length_append, ih]; simp [Rg.cells_size]; omega
theorem rgs_congr {P P' : Nat → Rg} : ∀ {n : Nat}, (∀ i, i < n → P i = P' i) → rgs n P = rgs n P'
  | 0, _ => by rw [rgs_zero, rgs_zero]
  | n + 1, h => by rw [rgs_succ, rgs_succ, rgs_congr (fun i hi => h i (by omega)), h n (by omega)]
theorem rgs_get (n : Nat) (P : Nat → Rg) (i c : Nat) (h : i < n) (hc : c < 2) : (rgs n P)[i * 2 + c]? = (P i).cells[c]? := by
  induction n with
  | zero => omega
  | succ n ih =>
    rw [rgs_succ, List.getElem?_append, rgs_length]
    by_cases hi : i < n
    · rw [if_pos (by omega), ih hi]
    · obtain rfl : i = n := by omega
      rw [if_neg (by omega), show i * 2 + c - i * 2 = c by omega]; simp
theorem rgs_one (n : Nat) (P : Nat → Rg) : ∀ v ∈ rgs n P, v.oneCell' = true := by
  intro v hv; unfold rgs at hv; simp only [List.mem_flatMap] at hv; obtain ⟨i, _, hi⟩ := hv; exact (P i).one v hi
theorem rgs_drop (n : Nat) (P : Nat → Rg) (k : Nat) (h : k < n) : ((rgs n P).drop (k * 2)).take 2 = (P k).cells.toList := by
  apply List.ext_getElem?
  intro c
  rw [List.getElem?_take]
  by_cases hc : c < 2
  · rw [if_pos hc, List.getElem?_drop, rgs_get n P k c h hc]; simp
  · rw [if_neg hc, List.getElem?_eq_none]; simp [Rg.cells_size]; omega

/-- The slice v holds n permits, P. -/
def RSl (w : World) (v : Value) (n : Nat) (P : Nat → Rg) : Prop :=
  ∃ a cap, v = .slice a n cap ∧ n ≤ cap ∧ cap ≤ maxLen ∧ (n = 0 ∨ ∃ b o, a = some ⟨b, o, none⟩ ∧ b < w.heap.size ∧ ∀ i c, i < n → c < 2 → w.cell? ⟨b, o + i * 2 + c, none⟩ = (P i).cells[c]?)
theorem RSl.below {w w' : World} {v : Value} {n : Nat} {P : Nat → Rg} (h : RSl w v n P) (hb : Below w.heap.size w w') : RSl w' v n P := by
  obtain ⟨a, cap, rfl, h1, h2, h3⟩ := h
  refine ⟨a, cap, rfl, h1, h2, ?_⟩
  rcases h3 with h3 | ⟨b, o, rfl, hlt, hc⟩
  · exact .inl h3
  · exact .inr ⟨b, o, rfl, Nat.lt_of_lt_of_le hlt hb.size, fun i c hi h3 => (hb.cell (p := ⟨b, _, none⟩) hlt).trans (hc i c hi h3)⟩
theorem Own.rsl {w : World} {g : Nat} {e : TypeId} {v : Value} {n : Nat} {P : Nat → Rg} (h : Own w g e 2 v n (rgs n P)) : RSl w v n P := by
  obtain ⟨cap, rfl, h1, h2⟩ := h.form
  exact ⟨_, cap, rfl, h1, h2, .inr ⟨g, 0, rfl, h.lt, fun i c hi hc => by rw [Nat.zero_add, h.cell _ (by omega), rgs_get n P i c hi hc]⟩⟩

/-- P with another permit at i. -/
def updR (P : Nat → Rg) (i : Nat) (p : Rg) : Nat → Rg := fun j => if j = i then p else P j
theorem updR_same (P : Nat → Rg) (i : Nat) (p : Rg) : updR P i p i = p := by simp [updR]
theorem updR_other (P : Nat → Rg) (i : Nat) (p : Rg) (j : Nat) (h : j ≠ i) : updR P i p j = P j := by simp [updR, h]
theorem rgs_set (n : Nat) (P : Nat → Rg) (i c : Nat) (u : Value) (p : Rg) (hi : i < n) (hc : c < 2) (hp : (P i).cells.toList.set c u = p.cells.toList) : (rgs n P).set (i * 2 + c) u = rgs n (updR P i p) := by
  apply List.ext_getElem?
  intro j
  by_cases hj : j < n * 2
  · obtain ⟨k, d, hd, rfl⟩ : ∃ k d, d < 2 ∧ j = k * 2 + d := ⟨j / 2, j % 2, Nat.mod_lt _ (by decide), by omega⟩
    have hk : k < n := by omega
    rw [rgs_get n _ k d hk hd, List.getElem?_set, rgs_length]
    by_cases hki : k = i
    · subst hki
      rw [updR_same]
      have := congrArg (fun l : List Value => l[d]?) hp
      simp only [List.getElem?_set, Array.getElem?_toList, Array.length_toList, Rg.cells_size] at this
      rw [← this]
      by_cases hcd : c = d
      · subst hcd; simp [hc, hj]
      · rw [if_neg (by omega), if_neg hcd, rgs_get n P k d hk hd]
    · rw [updR_other P i p k hki, if_neg (by omega), rgs_get n P k d hk hd]
  · rw [List.getElem?_eq_none (by simp [rgs_length]; omega), List.getElem?_eq_none (by simp [rgs_length]; omega)]

def markR (m : Int) (i : Nat) : Rg := ⟨m + 2 * i, IntKind.i16.wrap (m + 2 * i + 1)⟩
/-- .. after k rounds. -/
def markedR (m : Int) (P : Nat → Rg) (k : Nat) : Nat → Rg := fun i => if i < k then markR m i else P i

end Go.Proofs.YtcojgmgoiopboaaGreatDoor
