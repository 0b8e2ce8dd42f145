import Derived.Test.YtglimhkpndfjgaaMT13
import Derived.Test.YtglimhkpndfjgaaMT14
import Derived.Test.YtglimhkpndfjgaaMT11
import Derived.IntWalk
import Derived.Test.YtglimhkpndfjgaaMT12
import Derived.Lib.Strings
import Derived.Lib.Walk
import Derived.Lib.ConvBytes
import Derived.Lib.Hide
import Derived.Laws.Strings3
import Derived.Laws.Closers25
import Derived.Laws.Closers25b
import Derived.WalkKit
import Derived.BigCall
import Derived.BigGuard
/- Permits read from a text: plain laws; no statement is proved here. -/
namespace Go.Proofs.Ytglimhkpndfjgaa
open Go.ChangeShapes Go.WideShapes Go.ChangeAt Go.RowKit
set_option linter.unusedVariables false

/-- A row's text without its end. -/
def rowL (p : Pm) : List UInt8 := glue 32 [Lib.decDigits p.own.toNat, Lib.decDigits p.cel.toNat, Lib.decDigits p.rat.toNat]
theorem rowPm_eq (p : Pm) : rowPm p = rowL p ++ [10] := by simp [rowPm, rowL, glue]
def rowsL (P : Nat → Pm) (n : Nat) : List (List UInt8) := (List.range n).map fun i => rowL (P i)
theorem txtPm_lined (P : Nat → Pm) : ∀ n, txtPm P n = lined 10 (rowsL P n)
  | 0 => rfl
  | n + 1 => by
    have ih := txtPm_lined P n
    unfold txtPm rowsL
    rw [List.range_succ, List.map_append]
    show _ = lined 10 (rowsL P n ++ [rowL (P n)])
    rw [lined_snoc, ih, rowPm_eq, List.append_assoc]
theorem rowL_words (p : Pm) : splitL 32 (rowL p) = [Lib.decDigits p.own.toNat, Lib.decDigits p.cel.toNat, Lib.decDigits p.rat.toNat] := by
  unfold rowL
  refine splitL_glue (by simp) fun a ha => ?_
  simp at ha
  rcases ha with rfl | rfl | rfl <;> exact decDigits_not _ _ (by decide)
theorem rowL_not (p : Pm) : (10 : UInt8) ∉ rowL p := by
  have h := fun u => decDigits_not u 10 (by decide)
  simp [rowL, glue, h]
theorem rowsL_not (P : Nat → Pm) (n : Nat) : ∀ a ∈ rowsL P n, (10 : UInt8) ∉ a := by
  intro a ha
  unfold rowsL at ha
  rw [List.mem_map] at ha
  obtain ⟨i, _, rfl⟩ := ha
  exact rowL_not _
theorem rowsL_len (P : Nat → Pm) (n : Nat) : (rowsL P n).length = n := by simp [rowsL]
theorem rowsL_get (P : Nat → Pm) (n i : Nat) (h : i < n) : (rowsL P n)[i]? = some (rowL (P i)) := by simp [rowsL, h]
theorem split_txtPm (P : Nat → Pm) (n : Nat) : splitL 10 (txtPm P n) = rowsL P n ++ [[]] := by
  rw [txtPm_lined]; exact splitL_lined (rowsL_not P n)
/-- How many rows has a text? -/
def rdN (l : List UInt8) : Nat := (splitL 10 l).length - 1
def wordsAt (l : List UInt8) (i : Nat) : List (List UInt8) := splitL 32 ((splitL 10 l).getD i [])
def pmW (ws : List (List UInt8)) : Pm := ⟨(((decN (ws.getD 0 [])).getD 0 : Nat) : Int), (((decN (ws.getD 1 [])).getD 0 : Nat) : Int), (((decN (ws.getD 2 [])).getD 0 : Nat) : Int)⟩
def rdP (l : List UInt8) (i : Nat) : Pm := pmW (wordsAt l i)
def okB (ws : List (List UInt8)) : Bool := (decN (ws.getD 0 [])).isSome && (decN (ws.getD 1 [])).isSome && (decN (ws.getD 2 [])).isSome && decide ((decN (ws.getD 0 [])).getD 0 ≤ 7) && decide ((decN (ws.getD 1 [])).getD 0 ≤ 63) && decide ((decN (ws.getD 2 [])).getD 0 ≤ 400)
def okW (ws : List (List UInt8)) : Prop := ws.length = 3 ∧ okB ws = true
/-- Is a text that of permits? -/
def goodPm (l : List UInt8) : Prop := ∃ n P, plainPt n P = true ∧ l = txtPm P n
theorem rd_txt {P : Nat → Pm} {n : Nat} (h : plainPt n P = true) : rdN (txtPm P n) = n ∧ ∀ i, i < n → wordsAt (txtPm P n) i = [Lib.decDigits (P i).own.toNat, Lib.decDigits (P i).cel.toNat, Lib.decDigits (P i).rat.toNat] ∧ rdP (txtPm P n) i = P i ∧ okW (wordsAt (txtPm P n) i) := by
  obtain ⟨h6, hb⟩ := plainPt_parts h
  refine ⟨by unfold rdN; rw [split_txtPm]; simp [rowsL_len], fun i hi => ?_⟩
  have hw : wordsAt (txtPm P n) i = [Lib.decDigits (P i).own.toNat, Lib.decDigits (P i).cel.toNat, Lib.decDigits (P i).rat.toNat] := by
    unfold wordsAt
    rw [split_txtPm, List.getD_eq_getElem?_getD, List.getElem?_append_left (by rw [rowsL_len]; exact hi), rowsL_get _ _ _ hi]
    exact rowL_words _
  obtain ⟨⟨a1, a2⟩, ⟨b1, b2⟩, c1, c2⟩ := hb i hi
  have d1 := decN_digits (u := (P i).own.toNat) (by omega)
  have d2 := decN_digits (u := (P i).cel.toNat) (by omega)
  have d3 := decN_digits (u := (P i).rat.toNat) (by omega)
  refine ⟨hw, ?_, ?_⟩
  · unfold rdP pmW
    rw [hw]
    have e1 : (((P i).own.toNat : Nat) : Int) = (P i).own := by omega
    have e2 : (((P i).cel.toNat : Nat) : Int) = (P i).cel := by omega
    have e3 : (((P i).rat.toNat : Nat) : Int) = (P i).rat := by omega
    simp only [List.getD_cons_zero, List.getD_cons_succ, d1, d2, d3, Option.getD_some, e1, e2, e3]
  · rw [hw]
    refine ⟨rfl, ?_⟩
    unfold okB
    simp only [List.getD_cons_zero, List.getD_cons_succ, d1, d2, d3, Option.getD_some, Option.isSome_some]
    simp; omega
theorem okW_row {l : List UInt8} (h : okW (splitL 32 l)) : rowL (pmW (splitL 32 l)) = l ∧ ((0 ≤ (pmW (splitL 32 l)).own ∧ (pmW (splitL 32 l)).own ≤ 7) ∧ (0 ≤ (pmW (splitL 32 l)).cel ∧ (pmW (splitL 32 l)).cel ≤ 63) ∧ (0 ≤ (pmW (splitL 32 l)).rat ∧ (pmW (splitL 32 l)).rat ≤ 400)) := by
  have hg := glue_split 32 l
  obtain ⟨h1, h2⟩ := h
  generalize splitL 32 l = ws at *
  obtain ⟨a, b, c, rfl⟩ : ∃ a b c, ws = [a, b, c] := by
    match ws, h1 with
    | [a, b, c], _ => exact ⟨a, b, c, rfl⟩
  unfold okB at h2
  simp only [List.getD_cons_zero, List.getD_cons_succ, Bool.and_eq_true, decide_eq_true_eq] at h2
  obtain ⟨⟨⟨⟨⟨s1, s2⟩, s3⟩, l1⟩, l2⟩, l3⟩ := h2
  obtain ⟨u1, e1⟩ := Option.isSome_iff_exists.1 s1
  obtain ⟨u2, e2⟩ := Option.isSome_iff_exists.1 s2
  obtain ⟨u3, e3⟩ := Option.isSome_iff_exists.1 s3
  rw [e1] at l1; rw [e2] at l2; rw [e3] at l3
  simp only [Option.getD_some] at l1 l2 l3
  have q1 := (decN_some e1).1
  have q2 := (decN_some e2).1
  have q3 := (decN_some e3).1
  unfold rowL pmW
  simp only [List.getD_cons_zero, List.getD_cons_succ, e1, e2, e3, Option.getD_some, Int.toNat_natCast, q1, q2, q3]
  exact ⟨hg, by omega⟩
theorem goodPm_iff (l : List UInt8) : goodPm l ↔ ((splitL 10 l).getD (rdN l) [0] = [] ∧ (∀ i, i < rdN l → okW (wordsAt l i)) ∧ rdN l ≤ 6) := by
  constructor
  · rintro ⟨n, P, h, rfl⟩
    obtain ⟨h1, h2⟩ := rd_txt h
    obtain ⟨h6, hb⟩ := plainPt_parts h
    rw [h1]
    refine ⟨?_, fun i hi => (h2 i hi).2.2, h6⟩
    rw [split_txtPm, List.getD_eq_getElem?_getD, List.getElem?_append_right (by rw [rowsL_len]; exact Nat.le_refl _), rowsL_len, Nat.sub_self]; rfl
  · rintro ⟨h1, h2, h3⟩
    have hpos := List.length_pos_iff.2 (splitL_ne 10 l)
    have hn : rdN l + 1 = (splitL 10 l).length := by unfold rdN; omega
    have hrow := fun i (hi : i < rdN l) => okW_row (l := (splitL 10 l).getD i []) (h2 i hi)
    refine ⟨rdN l, rdP l, ?_, ?_⟩
    · unfold plainPt
      simp only [Bool.and_eq_true, decide_eq_true_eq, Bool.not_eq_true']
      refine ⟨h3, anyTo_false.2 fun i hi => ?_⟩
      have : (0 ≤ (rdP l i).own ∧ (rdP l i).own ≤ 7) ∧ (0 ≤ (rdP l i).cel ∧ (rdP l i).cel ≤ 63) ∧ (0 ≤ (rdP l i).rat ∧ (rdP l i).rat ≤ 400) := (hrow i hi).2
      unfold badAny badOwner badCell badRate
      simp; omega
    · rw [txtPm_lined]
      have hs : splitL 10 l = rowsL (rdP l) (rdN l) ++ [[]] := by
        apply List.ext_getElem?
        intro i
        by_cases hi : i < rdN l
        · rw [List.getElem?_append_left (by rw [rowsL_len]; exact hi), rowsL_get _ _ _ hi]
          have := (hrow i hi).1
          unfold rdP wordsAt
          rw [this, List.getD_eq_getElem?_getD, List.getElem?_eq_getElem (by omega)]; rfl
        · by_cases he : i = rdN l
          · subst he
            rw [List.getElem?_append_right (by rw [rowsL_len]; omega), rowsL_len, Nat.sub_self]
            rw [List.getD_eq_getElem?_getD, List.getElem?_eq_getElem (by omega)] at h1
            rw [List.getElem?_eq_getElem (by omega)]
            exact congrArg some h1
          · rw [List.getElem?_eq_none (by omega), List.getElem?_eq_none (by simp [rowsL_len]; omega)]
      exact (lined_of hs).symm
theorem trim_end (a : List UInt8) : Lib.trimSuffix (a ++ [10]) [10] = a := by
  unfold Lib.trimSuffix Lib.hasSuffix
  simp
/-- A good text's lines, as the program finds them. -/
theorem lines_txt {P : Nat → Pm} {n : Nat} (h : plainPt n P = true) : (linesL (txtPm P n)).length = n ∧ goodTo (txtPm P n) 3 6 n ∧ ∀ j, j < n → lineWs ((linesL (txtPm P n)).getD j []) = [Lib.decDigits (P j).own.toNat, Lib.decDigits (P j).cel.toNat, Lib.decDigits (P j).rat.toNat] := by
  obtain ⟨h6, hb⟩ := plainPt_parts h
  have hl : linesL (txtPm P n) = (rowsL P n).map (· ++ [10]) := by rw [txtPm_lined]; exact linesL_lined _ (rowsL_not P n)
  have hw : ∀ j, j < n → lineWs ((linesL (txtPm P n)).getD j []) = [Lib.decDigits (P j).own.toNat, Lib.decDigits (P j).cel.toNat, Lib.decDigits (P j).rat.toNat] := fun j hj => by
    rw [hl, List.getD_eq_getElem?_getD, List.getElem?_map, rowsL_get _ _ _ hj]
    show lineWs (rowL (P j) ++ [10]) = _
    unfold lineWs
    rw [trim_end]
    exact rowL_words _
  exact ⟨by rw [hl]; simp [rowsL_len], ⟨h6, fun j hj => by rw [hw j hj]; rfl⟩, hw⟩
/-- The permits that the program reads off the lines' words. -/
def pmI (l : List UInt8) (j : Nat) : Pm := ⟨numZ 0 7 ((lineWs ((linesL l).getD j [])).getD 0 []), numZ 0 63 ((lineWs ((linesL l).getD j [])).getD 1 []), numZ 0 400 ((lineWs ((linesL l).getD j [])).getD 2 [])⟩
theorem pmI_in (l : List UInt8) (j : Nat) : (0 ≤ (pmI l j).own ∧ (pmI l j).own ≤ 7) ∧ (0 ≤ (pmI l j).cel ∧ (pmI l j).cel ≤ 63) ∧ (0 ≤ (pmI l j).rat ∧ (pmI l j).rat ≤ 400) :=
  ⟨numZ_in _ _ (by decide) _, numZ_in _ _ (by decide) _, numZ_in _ _ (by decide) _⟩
theorem pmI_plain (l : List UInt8) (n : Nat) : plainPt n (pmI l) = decide (n ≤ 6) := by
  unfold plainPt
  rw [anyTo_false.2 fun i hi => by
    have := pmI_in l i
    unfold badAny badOwner badCell badRate
    simp; omega]
  simp
theorem txtPm_congr {P P' : Nat → Pm} : ∀ {n : Nat}, (∀ i, i < n → P i = P' i) → txtPm P n = txtPm P' n
  | 0, _ => rfl
  | n + 1, h => by unfold txtPm; rw [txtPm_congr (fun i hi => h i (by omega)), h n (by omega)]
theorem pmI_txt {P : Nat → Pm} {n : Nat} (h : plainPt n P = true) : ∀ j, j < n → pmI (txtPm P n) j = P j := fun j hj => by
  obtain ⟨h6, hb⟩ := plainPt_parts h
  obtain ⟨⟨a1, a2⟩, ⟨b1, b2⟩, c1, c2⟩ := hb j hj
  unfold pmI
  rw [(lines_txt h).2.2 j hj]
  simp only [List.getD_cons_zero, List.getD_cons_succ]
  have e1 := numZ_digits (u := (P j).own.toNat) (hi := 7) (by omega) (by omega)
  have e2 := numZ_digits (u := (P j).cel.toNat) (hi := 63) (by omega) (by omega)
  have e3 := numZ_digits (u := (P j).rat.toNat) (hi := 400) (by omega) (by omega)
  have f1 : (((P j).own.toNat : Nat) : Int) = (P j).own := by omega
  have f2 : (((P j).cel.toNat : Nat) : Int) = (P j).cel := by omega
  have f3 : (((P j).rat.toNat : Nat) : Int) = (P j).rat := by omega
  rw [f1] at e1; rw [f2] at e2; rw [f3] at e3
  show (⟨numZ 0 ((7 : Nat) : Int) _, numZ 0 ((63 : Nat) : Int) _, numZ 0 ((400 : Nat) : Int) _⟩ : Pm) = _
  rw [e1, e2, e3]
/-- What the program finds is what the reference finds. -/
theorem goodPm_I (l : List UInt8) : goodPm l ↔ (goodTo l 3 6 (linesL l).length ∧ txtPm (pmI l) (linesL l).length = l) := by
  constructor
  · rintro ⟨n, P, h, rfl⟩
    obtain ⟨h1, h2, h3⟩ := lines_txt h
    rw [h1]
    exact ⟨h2, txtPm_congr (pmI_txt h)⟩
  · rintro ⟨h1, h2⟩
    exact ⟨(linesL l).length, pmI l, by rw [pmI_plain]; simpa using h1.1, h2.symm⟩
theorem goodPm_same {l : List UInt8} (h : goodPm l) : rdN l = (linesL l).length ∧ ∀ i, i < rdN l → rdP l i = pmI l i := by
  obtain ⟨n, P, h, rfl⟩ := h
  obtain ⟨h1, h2⟩ := rd_txt h
  obtain ⟨h3, h4, h5⟩ := lines_txt h
  exact ⟨by rw [h1, h3], fun i hi => by rw [h1] at hi; rw [(h2 i hi).2.1, pmI_txt h i hi]⟩
open Classical in
/-- The code that goes with a text. -/
noncomputable def rdC (l : List UInt8) : Int := if goodPm l then 0 else 5
open Classical in
noncomputable def rdM (l : List UInt8) : Nat := if goodPm l then rdN l else 0
theorem rd_good {l : List UInt8} (h : goodPm l) : rdC l = 0 ∧ rdM l = rdN l := ⟨by unfold rdC; rw [if_pos h], by unfold rdM; rw [if_pos h]⟩
theorem rd_bad {l : List UInt8} (h : ¬ goodPm l) : rdC l = 5 ∧ rdM l = 0 := ⟨by unfold rdC; rw [if_neg h], by unfold rdM; rw [if_neg h]⟩
theorem rdM_le (l : List UInt8) : rdM l ≤ 6 := by
  by_cases h : goodPm l
  · rw [(rd_good h).2]; exact ((goodPm_iff l).1 h).2.2
  · rw [(rd_bad h).2]; omega
end Go.Proofs.Ytglimhkpndfjgaa
/- Readings in memory: lists of them, marks that a caller leaves in a list. Plain laws and the walks of the law's own functions. -/
namespace Go.Proofs.Ytglimhkpndfjgaa
open Go.ChangeShapes Go.WideShapes Go.ChangeAt Go.RowKit
set_option linter.unusedVariables false

/-- A reading's numbers. -/
structure Rg where
  tim : Int
  lev : Int
@[irreducible] def Rg.cells (p : Rg) : Array Value := #[.int .i64 p.tim, .int .i16 p.lev]
theorem Rg.cells_eq (p : Rg) : p.cells = #[.int .i64 p.tim, .int .i16 p.lev] := by unfold Rg.cells; rfl
theorem Rg.cells_size (p : Rg) : p.cells.size = 2 := by rw [p.cells_eq]; rfl
theorem Rg.get0 (p : Rg) : p.cells[0]? = some (.int .i64 p.tim) := by rw [p.cells_eq]; rfl
theorem Rg.get1 (p : Rg) : p.cells[1]? = some (.int .i16 p.lev) := by rw [p.cells_eq]; rfl
theorem Rg.one (p : Rg) : ∀ v ∈ p.cells.toList, v.oneCell' = true := by
  intro v hv; rw [p.cells_eq] at hv; simp at hv; rcases hv with rfl | rfl <;> rfl
/-- n permits, one behind the other. -/
@[irreducible] def rgs (n : Nat) (P : Nat → Rg) : List Value := (List.range n).flatMap fun i => (P i).cells.toList
theorem rgs_zero (P : Nat → Rg) : rgs 0 P = [] := by simp [rgs]
theorem rgs_succ (n : Nat) (P : Nat → Rg) : rgs (n + 1) P = rgs n P ++ (P n).cells.toList := by simp [rgs, List.range_succ, List.flatMap_append]
theorem rgs_length (n : Nat) (P : Nat → Rg) : (rgs n P).length = n * 2 := by
  induction n with
  | zero => simp [rgs_zero]
  | succ n ih => rw [rgs_succ, List.length_append, ih]; simp [Rg.cells_size]; omega
theorem rgs_congr {P P' : Nat → Rg} : ∀ {n : Nat}, (∀ i, i < n → P i = P' i) → rgs n P = rgs n P'
  | 0, _ => by rw [rgs_zero, rgs_zero]
  | n + 1, h => by rw [rgs_succ, rgs_succ, rgs_congr (fun i hi => h i (by omega)), h n (by omega)]
theorem rgs_get (n : Nat) (P : Nat → Rg) (i c : Nat) (h : i < n) (hc : c < 2) : (rgs n P)[i * 2 + c]? = (P i).cells[c]? := by
  induction n with
  | zero => omega
  | succ n ih =>
    rw [rgs_succ, List.getElem?_append, rgs_length]
    by_cases hi : i < n
    · rw [if_pos (by omega), ih hi]
    · obtain rfl : i = n := by omega
      rw [if_neg (by omega), show i * 2 + c - i * 2 = c by omega]; simp
theorem rgs_one (n : Nat) (P : Nat → Rg) : ∀ v ∈ rgs n P, v.oneCell' = true := by
  intro v hv; unfold rgs at hv; simp only [List.mem_flatMap] at hv; obtain ⟨i, _, hi⟩ := hv; exact (P i).one v hi
theorem rgs_drop (n : Nat) (P : Nat → Rg) (k : Nat) (h : k < n) : ((rgs n P).drop (k * 2)).take 2 = (P k).cells.toList := by
  apply List.ext_getElem?
  intro c
  rw [List.getElem?_take]
  by_cases hc : c < 2
  · rw [if_pos hc, List.getElem?_drop, rgs_get n P k c h hc]; simp
  · rw [if_neg hc, List.getElem?_eq_none]; simp [Rg.cells_size]; omega

/-- The slice v holds n permits, P. -/
def RSl (w : World) (v : Value) (n : Nat) (P : Nat → Rg) : Prop :=
  ∃ a cap, v = .slice a n cap ∧ n ≤ cap ∧ cap ≤ maxLen ∧ (n = 0 ∨ ∃ b o, a = some ⟨b, o, none⟩ ∧ b < w.heap.size ∧ ∀ i c, i < n → c < 2 → w.cell? ⟨b, o + i * 2 + c, none⟩ = (P i).cells[c]?)
theorem RSl.below {w w' : World} {v : Value} {n : Nat} {P : Nat → Rg} (h : RSl w v n P) (hb : Below w.heap.size w w') : RSl w' v n P := by
  obtain ⟨a, cap, rfl, h1, h2, h3⟩ := h
  refine ⟨a, cap, rfl, h1, h2, ?_⟩
  rcases h3 with h3 | ⟨b, o, rfl, hlt, hc⟩
  · exact .inl h3
  · exact .inr ⟨b, o, rfl, Nat.lt_of_lt_of_le hlt hb.size, fun i c hi h3 => (hb.cell (p := ⟨b, _, none⟩) hlt).trans (hc i c hi h3)⟩
theorem Own.rsl {w : World} {g : Nat} {e : TypeId} {v : Value} {n : Nat} {P : Nat → Rg} (h : Own w g e 2 v n (rgs n P)) : RSl w v n P := by
  obtain ⟨cap, rfl, h1, h2⟩ := h.form
  exact ⟨_, cap, rfl, h1, h2, .inr ⟨g, 0, rfl, h.lt, fun i c hi hc => by rw [Nat.zero_add, h.cell _ (by omega), rgs_get n P i c hi hc]⟩⟩

theorem rowRg : RowTy Try.prog 67 2 := ⟨_, Try.underlying67, rfl, by kernel_rfl⟩
theorem sizeRg : (Try.prog.info? 67).map (·.size) = some 2 := by kernel_rfl
theorem elRg : ElemTy Try.prog 34 67 2 16 := elem_of (z := .agg (Rg.cells ⟨0, 0⟩)) Try.underlying34 (by unfold Rg.cells; kernel_rfl) (Rg.cells_size _)
/-- P with another permit at i. -/
def updR (P : Nat → Rg) (i : Nat) (p : Rg) : Nat → Rg := fun j => if j = i then p else P j
theorem updR_same (P : Nat → Rg) (i : Nat) (p : Rg) : updR P i p i = p := by simp [updR]
theorem updR_other (P : Nat → Rg) (i : Nat) (p : Rg) (j : Nat) (h : j ≠ i) : updR P i p j = P j := by simp [updR, h]
theorem rgs_set (n : Nat) (P : Nat → Rg) (i c : Nat) (u : Value) (p : Rg) (hi : i < n) (hc : c < 2) (hp : (P i).cells.toList.set c u = p.cells.toList) : (rgs n P).set (i * 2 + c) u = rgs n (updR P i p) := by
  apply List.ext_getElem?
  intro j
  by_cases hj : j < n * 2
  · obtain ⟨k, d, hd, rfl⟩ : ∃ k d, d < 2 ∧ j = k * 2 + d := ⟨j / 2, j % 2, Nat.mod_lt _ (by decide), by omega⟩
    have hk : k < n := by omega
    rw [rgs_get n _ k d hk hd, List.getElem?_set, rgs_length]
    by_cases hki : k = i
    · subst hki
      rw [updR_same]
      have := congrArg (fun l : List Value => l[d]?) hp
      simp only [List.getElem?_set, Array.getElem?_toList, Array.length_toList, Rg.cells_size] at this
      rw [← this]
      by_cases hcd : c = d
      · subst hcd; simp [hc, hj]
      · rw [if_neg (by omega), if_neg hcd, rgs_get n P k d hk hd]
    · rw [updR_other P i p k hki, if_neg (by omega), rgs_get n P k d hk hd]
  · rw [List.getElem?_eq_none (by simp [rgs_length]; omega), List.getElem?_eq_none (by simp [rgs_length]; omega)]

/-- A list of permits that a call has made, or none. -/
def ResR (w : World) (g : Nat) (v : Value) (n : Nat) (P : Nat → Rg) : Prop := (n = 0 ∧ ∃ a cap, v = .slice a 0 cap ∧ cap ≤ maxLen) ∨ Own w g 67 2 v n (rgs n P)
theorem ResR.rsl {w : World} {g : Nat} {v : Value} {n : Nat} {P : Nat → Rg} (h : ResR w g v n P) : RSl w v n P := by
  rcases h with ⟨rfl, a, cap, rfl, h⟩ | h
  · exact ⟨a, cap, rfl, Nat.zero_le _, h, .inl rfl⟩
  · exact h.rsl
theorem ResR.below {w w' : World} {g : Nat} {v : Value} {n : Nat} {P : Nat → Rg} (h : ResR w g v n P) (hb : Below w.heap.size w w') : ResR w' g v n P := by
  rcases h with h | h
  · exact .inl h
  · exact .inr (h.below hb h.lt)
theorem ResR.only {w w' : World} {g k : Nat} {v : Value} {n : Nat} {P : Nat → Rg} (h : ResR w g v n P) (hb : Only k w w') (hk : n = 0 ∨ g ≠ k) : ResR w' g v n P := by
  rcases h with h | h
  · exact .inl h
  · rcases hk with rfl | hk
    · obtain ⟨cap, rfl, _, hc⟩ := h.form
      exact .inl ⟨rfl, _, cap, rfl, hc⟩
    · exact .inr (h.move (hb.block g hk))
theorem ResR.ne {w : World} {g : Nat} {v : Value} {n : Nat} {P : Nat → Rg} (h : ResR w g v n P) {k : Nat} (hk : w.heap.size ≤ k) : n = 0 ∨ g ≠ k := by
  rcases h with h | h
  · exact .inl h.1
  · have := h.lt; exact .inr (by omega)

def markR (m : Int) (i : Nat) : Rg := ⟨m + 2 * i, IntKind.i16.wrap (m + 2 * i + 1)⟩
/-- .. after k rounds. -/
def markedR (m : Int) (P : Nat → Rg) (k : Nat) : Nat → Rg := fun i => if i < k then markR m i else P i

end Go.Proofs.Ytglimhkpndfjgaa
/- Readings read from a text: plain laws; no statement is proved here. -/
namespace Go.Proofs.Ytglimhkpndfjgaa
open Go.ChangeShapes Go.WideShapes Go.ChangeAt Go.RowKit
set_option linter.unusedVariables false

theorem itoa_pos {z : Int} (h : 0 ≤ z) : Lib.itoa z = Lib.decDigits z.toNat := by unfold Lib.itoa; rw [if_neg (by omega)]
theorem itoa_neg {z : Int} (h : z < 0) : Lib.itoa z = 45 :: Lib.decDigits (-z).toNat := by
  unfold Lib.itoa
  rw [if_pos h]
  rw [show z.natAbs = (-z).toNat by omega]
/-- The number that the reference reads, maybe with a sign, and whether it reads one. -/
def sgV (l : List UInt8) : Int := if l.head? = some 45 then -(((decN l.tail).getD 0 : Nat) : Int) else (((decN l).getD 0 : Nat) : Int)
def sgB (l : List UInt8) : Bool := if l.head? = some 45 then (decN l.tail).isSome && decide (0 < (decN l.tail).getD 0) else (decN l).isSome
theorem digits_head (u : Nat) : (Lib.decDigits u).head? ≠ some 45 := by
  have h := decDigits_digits u u (Nat.le_refl _)
  cases hd : Lib.decDigits u with
  | nil => simp
  | cons c r =>
    rw [hd] at h
    have := h c (by simp)
    intro q
    have q : c = 45 := by simpa using q
    subst q
    revert this; decide
theorem sg_itoa {z : Int} (h : -32768 ≤ z ∧ z ≤ 32767) : sgV (Lib.itoa z) = z ∧ sgB (Lib.itoa z) = true := by
  by_cases hz : 0 ≤ z
  · rw [itoa_pos hz]
    unfold sgV sgB
    rw [if_neg (digits_head _), if_neg (digits_head _), decN_digits (by omega)]
    simp; omega
  · rw [itoa_neg (by omega)]
    have hd := decN_digits (u := (-z).toNat) (by omega)
    unfold sgV sgB
    simp only [List.head?_cons, if_true, List.tail_cons, hd, Option.getD_some, Option.isSome_some, Bool.true_and]
    simp; omega
theorem sg_some {l : List UInt8} (h : sgB l = true) : Lib.itoa (sgV l) = l := by
  unfold sgB at h
  unfold sgV
  split at h
  · rename_i hh
    rw [if_pos hh]
    cases l with
    | nil => cases hh
    | cons c r =>
      obtain rfl : c = 45 := by simpa using hh
      simp only [List.tail_cons, Bool.and_eq_true] at h ⊢
      obtain ⟨u, hu⟩ := Option.isSome_iff_exists.1 h.1
      have hu0 : 0 < u := by simpa [hu] using h.2
      simp only [hu, Option.getD_some] at h ⊢
      rw [itoa_neg (z := -((u : Nat) : Int)) (by omega), show (- -((u : Nat) : Int)).toNat = u by omega, (decN_some hu).1]
  · rename_i hh
    rw [if_neg hh]
    obtain ⟨u, hu⟩ := Option.isSome_iff_exists.1 h
    rw [hu]
    simp only [Option.getD_some]
    rw [itoa_pos (z := ((u : Nat) : Int)) (by omega), Int.toNat_natCast, (decN_some hu).1]
theorem intV_itoa {z : Int} (h : -32768 ≤ z ∧ z ≤ 100000) : intV (Lib.itoa z) = some z := by
  by_cases hz : 0 ≤ z
  · rw [itoa_pos hz, intV_digits (by omega)]
    congr 1; omega
  · rw [itoa_neg (by omega)]
    have hp := parseM_digits _ _ _ (decV_decDigits (-z).toNat _ (Nat.le_refl _)) (by omega)
    have hne : Lib.decDigits (-z).toNat ≠ [] := fun q => by have := decDigits_pos (-z).toNat; rw [q] at this; simp at this
    unfold intV Lib.parseIntB Lib.parseUintB
    have e : (if (45 : UInt8).toNat = 43 ∨ (45 : UInt8).toNat = 45 then Lib.decDigits (-z).toNat else 45 :: Lib.decDigits (-z).toNat) = Lib.decDigits (-z).toNat := by rw [if_pos (by decide)]
    simp only [e]
    rw [if_neg hne, hp]
    have h1 : ¬ (¬ (45 : UInt8).toNat = 45 ∧ 2 ^ (64 - 1) ≤ (-z).toNat) := fun q => q.1 rfl
    have h2 : ¬ ((45 : UInt8).toNat = 45 ∧ 2 ^ (64 - 1) < (-z).toNat) := by omega
    have h3 : (45 : UInt8).toNat = 45 := rfl
    simp only [if_neg h1, if_neg h2, if_pos h3]
    congr 1; omega
theorem numZ_itoa {lo hi z : Int} (h : lo ≤ z ∧ z ≤ hi) (hb : -32768 ≤ z ∧ z ≤ 100000) : numZ lo hi (Lib.itoa z) = z := by
  unfold numZ
  rw [intV_itoa hb]
  simp; omega
theorem numZ_bd (lo hi : Int) (h : 0 ≤ hi) (h2 : 0 ≤ lo) (l : List UInt8) : 0 ≤ numZ lo hi l ∧ numZ lo hi l ≤ hi := by
  unfold numZ
  split
  · split
    · rename_i h; simp at h; omega
    · omega
  · omega
theorem itoa_not (z : Int) (c : UInt8) (hc : c.toNat < 45) : c ∉ Lib.itoa z := by
  by_cases hz : 0 ≤ z
  · rw [itoa_pos hz]; exact decDigits_not _ _ (by omega)
  · rw [itoa_neg (by omega)]
    intro q
    rcases List.mem_cons.1 q with q | q
    · subst q; revert hc; decide
    · exact decDigits_not _ _ (by omega) q
/-- The time ahead of a reading. -/
def prevT (P : Nat → Rg) : Nat → Int
  | 0 => 0
  | k + 1 => (P k).tim
/-- Do the times rise? -/
def okT (P : Nat → Rg) : Nat → Bool
  | 0 => true
  | k + 1 => okT P k && (decide (prevT P k < (P k).tim) && decide ((P k).tim ≤ 100000))
theorem prevT_congr {P P' : Nat → Rg} : ∀ {k : Nat}, (∀ i, i < k → P i = P' i) → prevT P k = prevT P' k
  | 0, _ => rfl
  | k + 1, h => by show (P k).tim = (P' k).tim; rw [h k (by omega)]
theorem okT_congr {P P' : Nat → Rg} : ∀ {k : Nat}, (∀ i, i < k → P i = P' i) → okT P k = okT P' k
  | 0, _ => rfl
  | k + 1, h => by unfold okT; rw [okT_congr (fun i hi => h i (by omega)), prevT_congr (fun i hi => h i (by omega)), h k (by omega)]
theorem okT_prev {P : Nat → Rg} : ∀ {k : Nat}, okT P k = true → 0 ≤ prevT P k
  | 0, _ => by show (0 : Int) ≤ 0; omega
  | k + 1, h => by
    unfold okT at h
    simp only [Bool.and_eq_true, decide_eq_true_eq] at h
    have := okT_prev h.1
    show 0 ≤ (P k).tim
    omega
theorem okT_in {P : Nat → Rg} : ∀ {k : Nat}, okT P k = true → ∀ i, i < k → 1 ≤ (P i).tim ∧ (P i).tim ≤ 100000
  | 0, _, i, hi => by omega
  | k + 1, h, i, hi => by
    unfold okT at h
    simp only [Bool.and_eq_true, decide_eq_true_eq] at h
    by_cases hik : i < k
    · exact okT_in h.1 i hik
    · obtain rfl : i = k := by omega
      have := okT_prev h.1
      omega
theorem okT_false {P : Nat → Rg} {k : Nat} (h : okT P k = false) : ∀ {n : Nat}, k ≤ n → okT P n = false
  | 0, hn => by obtain rfl : k = 0 := by omega
                exact h
  | n + 1, hn => by
    by_cases e : k = n + 1
    · subst e; exact h
    · unfold okT; rw [okT_false h (n := n) (by omega)]; rfl
/-- Are readings valid, and does each number fit? -/
def validR (n : Nat) (P : Nat → Rg) : Prop := n ≤ 40 ∧ okT P n = true ∧ ∀ i, i < n → -32768 ≤ (P i).lev ∧ (P i).lev ≤ 32767
/-- A row's text without its end. -/
def rowG (p : Rg) : List UInt8 := glue 32 [Lib.itoa p.tim, Lib.itoa p.lev]
def rowsG (P : Nat → Rg) (n : Nat) : List (List UInt8) := (List.range n).map fun i => rowG (P i)
def txtRg (P : Nat → Rg) : Nat → List UInt8
  | 0 => []
  | k + 1 => txtRg P k ++ (rowG (P k) ++ [10])
theorem txtRg_lined (P : Nat → Rg) : ∀ n, txtRg P n = lined 10 (rowsG P n)
  | 0 => rfl
  | n + 1 => by
    have ih := txtRg_lined P n
    unfold txtRg rowsG
    rw [List.range_succ, List.map_append]
    show _ = lined 10 (rowsG P n ++ [rowG (P n)])
    rw [lined_snoc, ih, List.append_assoc]
theorem txtRg_congr {P P' : Nat → Rg} : ∀ {n : Nat}, (∀ i, i < n → P i = P' i) → txtRg P n = txtRg P' n
  | 0, _ => rfl
  | n + 1, h => by unfold txtRg; rw [txtRg_congr (fun i hi => h i (by omega)), h n (by omega)]
theorem rowG_words (p : Rg) : splitL 32 (rowG p) = [Lib.itoa p.tim, Lib.itoa p.lev] := by
  unfold rowG
  refine splitL_glue (by simp) fun a ha => ?_
  simp at ha
  rcases ha with rfl | rfl <;> exact itoa_not _ _ (by decide)
theorem rowG_not (p : Rg) : (10 : UInt8) ∉ rowG p := by
  have h := fun u => itoa_not u 10 (by decide)
  simp [rowG, glue, h]
theorem rowsG_not (P : Nat → Rg) (n : Nat) : ∀ a ∈ rowsG P n, (10 : UInt8) ∉ a := by
  intro a ha
  unfold rowsG at ha
  rw [List.mem_map] at ha
  obtain ⟨i, _, rfl⟩ := ha
  exact rowG_not _
theorem rowsG_len (P : Nat → Rg) (n : Nat) : (rowsG P n).length = n := by simp [rowsG]
theorem rowsG_get (P : Nat → Rg) (n i : Nat) (h : i < n) : (rowsG P n)[i]? = some (rowG (P i)) := by simp [rowsG, h]
theorem split_txtRg (P : Nat → Rg) (n : Nat) : splitL 10 (txtRg P n) = rowsG P n ++ [[]] := by
  rw [txtRg_lined]; exact splitL_lined (rowsG_not P n)
def rgW (ws : List (List UInt8)) : Rg := ⟨(((decN (ws.getD 0 [])).getD 0 : Nat) : Int), sgV (ws.getD 1 [])⟩
def rdG (l : List UInt8) (i : Nat) : Rg := rgW (wordsAt l i)
def okG (ws : List (List UInt8)) : Bool := (decN (ws.getD 0 [])).isSome && sgB (ws.getD 1 []) && (decide (-32768 ≤ sgV (ws.getD 1 [])) && decide (sgV (ws.getD 1 []) ≤ 32767))
def okGW (ws : List (List UInt8)) : Prop := ws.length = 2 ∧ okG ws = true
/-- Is a text that of readings? -/
def goodRg (l : List UInt8) : Prop := ∃ n P, validR n P ∧ l = txtRg P n
theorem rg_txt {P : Nat → Rg} {n : Nat} (h : validR n P) : rdN (txtRg P n) = n ∧ ∀ i, i < n → rdG (txtRg P n) i = P i ∧ okGW (wordsAt (txtRg P n) i) := by
  obtain ⟨h40, ht, hl⟩ := h
  refine ⟨by unfold rdN; rw [split_txtRg]; simp [rowsG_len], fun i hi => ?_⟩
  have hw : wordsAt (txtRg P n) i = [Lib.itoa (P i).tim, Lib.itoa (P i).lev] := by
    unfold wordsAt
    rw [split_txtRg, List.getD_eq_getElem?_getD, List.getElem?_append_left (by rw [rowsG_len]; exact hi), rowsG_get _ _ _ hi]
    exact rowG_words _
  have hti := okT_in ht i hi
  have hs := sg_itoa (hl i hi)
  have hli := hl i hi
  have d1 := decN_digits (u := (P i).tim.toNat) (by omega)
  rw [← itoa_pos (by omega)] at d1
  have e1 : (((P i).tim.toNat : Nat) : Int) = (P i).tim := by omega
  refine ⟨?_, ?_⟩
  · unfold rdG rgW
    rw [hw]
    simp only [List.getD_cons_zero, List.getD_cons_succ, d1, Option.getD_some, e1, hs.1]
  · rw [hw]
    refine ⟨rfl, ?_⟩
    unfold okG
    simp only [List.getD_cons_zero, List.getD_cons_succ, d1, Option.isSome_some, hs.1, hs.2]
    simp; omega
theorem okGW_row {l : List UInt8} (h : okGW (splitL 32 l)) : rowG (rgW (splitL 32 l)) = l ∧ (-32768 ≤ (rgW (splitL 32 l)).lev ∧ (rgW (splitL 32 l)).lev ≤ 32767) := by
  have hg := glue_split 32 l
  obtain ⟨h1, h2⟩ := h
  generalize splitL 32 l = ws at *
  obtain ⟨a, b, rfl⟩ : ∃ a b, ws = [a, b] := by
    match ws, h1 with
    | [a, b], _ => exact ⟨a, b, rfl⟩
  unfold okG at h2
  simp only [List.getD_cons_zero, List.getD_cons_succ, Bool.and_eq_true, decide_eq_true_eq] at h2
  obtain ⟨⟨s1, s2⟩, l1⟩ := h2
  obtain ⟨u1, e1⟩ := Option.isSome_iff_exists.1 s1
  have q1 := (decN_some e1).1
  have q2 := sg_some s2
  unfold rowG rgW
  simp only [List.getD_cons_zero, List.getD_cons_succ, e1, Option.getD_some, q2]
  rw [itoa_pos (z := ((u1 : Nat) : Int)) (by omega), Int.toNat_natCast, q1]
  exact ⟨hg, l1⟩
theorem goodRg_iff (l : List UInt8) : goodRg l ↔ ((splitL 10 l).getD (rdN l) [0] = [] ∧ (∀ i, i < rdN l → okGW (wordsAt l i)) ∧ rdN l ≤ 40 ∧ okT (rdG l) (rdN l) = true) := by
  constructor
  · rintro ⟨n, P, h, rfl⟩
    obtain ⟨h1, h2⟩ := rg_txt h
    rw [h1]
    refine ⟨?_, fun i hi => (h2 i hi).2, h.1, by rw [okT_congr fun i hi => (h2 i hi).1]; exact h.2.1⟩
    rw [split_txtRg, List.getD_eq_getElem?_getD, List.getElem?_append_right (by rw [rowsG_len]; exact Nat.le_refl _), rowsG_len, Nat.sub_self]; rfl
  · rintro ⟨h1, h2, h3, h4⟩
    have hpos := List.length_pos_iff.2 (splitL_ne 10 l)
    have hn : rdN l + 1 = (splitL 10 l).length := by unfold rdN; omega
    have hrow := fun i (hi : i < rdN l) => okGW_row (l := (splitL 10 l).getD i []) (h2 i hi)
    refine ⟨rdN l, rdG l, ⟨h3, h4, fun i hi => (hrow i hi).2⟩, ?_⟩
    rw [txtRg_lined]
    have hs : splitL 10 l = rowsG (rdG l) (rdN l) ++ [[]] := by
      apply List.ext_getElem?
      intro i
      by_cases hi : i < rdN l
      · rw [List.getElem?_append_left (by rw [rowsG_len]; exact hi), rowsG_get _ _ _ hi]
        have := (hrow i hi).1
        unfold rdG wordsAt
        rw [this, List.getD_eq_getElem?_getD, List.getElem?_eq_getElem (by omega)]; rfl
      · by_cases he : i = rdN l
        · subst he
          rw [List.getElem?_append_right (by rw [rowsG_len]; omega), rowsG_len, Nat.sub_self]
          rw [List.getD_eq_getElem?_getD, List.getElem?_eq_getElem (by omega)] at h1
          rw [List.getElem?_eq_getElem (by omega)]
          exact congrArg some h1
        · rw [List.getElem?_eq_none (by omega), List.getElem?_eq_none (by simp [rowsG_len]; omega)]
    exact (lined_of hs).symm
/-- A good text's lines, as the program finds them. -/
theorem lines_txtG {P : Nat → Rg} {n : Nat} (h : validR n P) : (linesL (txtRg P n)).length = n ∧ goodTo (txtRg P n) 2 40 n ∧ ∀ j, j < n → lineWs ((linesL (txtRg P n)).getD j []) = [Lib.itoa (P j).tim, Lib.itoa (P j).lev] := by
  have hl : linesL (txtRg P n) = (rowsG P n).map (· ++ [10]) := by rw [txtRg_lined]; exact linesL_lined _ (rowsG_not P n)
  have hw : ∀ j, j < n → lineWs ((linesL (txtRg P n)).getD j []) = [Lib.itoa (P j).tim, Lib.itoa (P j).lev] := fun j hj => by
    rw [hl, List.getD_eq_getElem?_getD, List.getElem?_map, rowsG_get _ _ _ hj]
    show lineWs (rowG (P j) ++ [10]) = _
    unfold lineWs
    rw [trim_end]
    exact rowG_words _
  exact ⟨by rw [hl]; simp [rowsG_len], ⟨h.1, fun j hj => by rw [hw j hj]; rfl⟩, hw⟩
/-- The readings that the program reads off the lines' words. -/
def rgI (l : List UInt8) (j : Nat) : Rg := ⟨numZ 1 100000 ((lineWs ((linesL l).getD j [])).getD 0 []), numZ (-32768) 32767 ((lineWs ((linesL l).getD j [])).getD 1 [])⟩
theorem rgI_in (l : List UInt8) (j : Nat) : (0 ≤ (rgI l j).tim ∧ (rgI l j).tim ≤ 100000) ∧ (-32768 ≤ (rgI l j).lev ∧ (rgI l j).lev ≤ 32767) :=
  ⟨numZ_bd _ _ (by decide) (by decide) _, numZ_in _ _ (by decide) _⟩
theorem rgI_txt {P : Nat → Rg} {n : Nat} (h : validR n P) : ∀ j, j < n → rgI (txtRg P n) j = P j := fun j hj => by
  have hti := okT_in h.2.1 j hj
  have hl := h.2.2 j hj
  unfold rgI
  rw [(lines_txtG h).2.2 j hj]
  simp only [List.getD_cons_zero, List.getD_cons_succ]
  rw [numZ_itoa (z := (P j).tim) (by omega) (by omega), numZ_itoa (z := (P j).lev) (by omega) (by omega)]
/-- What the program finds is what the reference finds. -/
theorem goodRg_I (l : List UInt8) : goodRg l ↔ (goodTo l 2 40 (linesL l).length ∧ okT (rgI l) (linesL l).length = true ∧ txtRg (rgI l) (linesL l).length = l) := by
  constructor
  · rintro ⟨n, P, h, rfl⟩
    obtain ⟨h1, h2, h3⟩ := lines_txtG h
    rw [h1]
    exact ⟨h2, by rw [okT_congr (rgI_txt h)]; exact h.2.1, txtRg_congr (rgI_txt h)⟩
  · rintro ⟨h1, h2, h3⟩
    exact ⟨(linesL l).length, rgI l, ⟨h1.1, h2, fun i _ => (rgI_in l i).2⟩, h3.symm⟩
theorem goodRg_same {l : List UInt8} (h : goodRg l) : rdN l = (linesL l).length ∧ ∀ i, i < rdN l → rdG l i = rgI l i := by
  obtain ⟨n, P, h, rfl⟩ := h
  obtain ⟨h1, h2⟩ := rg_txt h
  obtain ⟨h3, h4, h5⟩ := lines_txtG h
  exact ⟨by rw [h1, h3], fun i hi => by rw [h1] at hi; rw [(h2 i hi).1, rgI_txt h i hi]⟩
open Classical in
/-- The code that goes with a text. -/
noncomputable def rgC (l : List UInt8) : Int := if goodRg l then 0 else 5
open Classical in
noncomputable def rgM (l : List UInt8) : Nat := if goodRg l then rdN l else 0
theorem rg_good {l : List UInt8} (h : goodRg l) : rgC l = 0 ∧ rgM l = rdN l := ⟨by unfold rgC; rw [if_pos h], by unfold rgM; rw [if_pos h]⟩
theorem rg_bad {l : List UInt8} (h : ¬ goodRg l) : rgC l = 5 ∧ rgM l = 0 := ⟨by unfold rgC; rw [if_neg h], by unfold rgM; rw [if_neg h]⟩
theorem rgM_le (l : List UInt8) : rgM l ≤ 40 := by
  by_cases h : goodRg l
  · rw [(rg_good h).2]; exact ((goodRg_iff l).1 h).2.2.1
  · rw [(rg_bad h).2]; omega
end Go.Proofs.Ytglimhkpndfjgaa
/- strconv.ParseUint at base 16 and 32 bits: the walk of the library's text. -/
namespace Go.Proofs.Ytglimhkpndfjgaa
open Go.ChangeShapes Go.WideShapes Go.ChangeAt Go.RowKit
set_option linter.unusedVariables false
set_option linter.unusedSimpArgs false
attribute [local irreducible] Calls

theorem lower_all : ∀ n : Nat, n < 256 → (0 ≤ bits .or .u8 (n : Int) 32 ∧ bits .or .u8 (n : Int) 32 ≤ 255 ∧ ((97 ≤ bits .or .u8 (n : Int) 32 ∧ bits .or .u8 (n : Int) 32 ≤ 102 ∧ ((65 ≤ n ∧ n ≤ 70 ∧ bits .or .u8 (n : Int) 32 = n + 32) ∨ (97 ≤ n ∧ n ≤ 102 ∧ bits .or .u8 (n : Int) 32 = n))) ∨ ((bits .or .u8 (n : Int) 32 < 97 ∨ 102 < bits .or .u8 (n : Int) 32) ∧ ¬ (65 ≤ n ∧ n ≤ 70) ∧ ¬ (97 ≤ n ∧ n ≤ 102)))) := by
  decide +kernel
/-- What a byte that is no decimal digit is, by its small letter. -/
theorem lower_hex (c : UInt8) (h : ¬ (48 ≤ c.toNat ∧ c.toNat ≤ 57)) :
    (0 ≤ bits .or .u8 (c.toNat : Int) 32 ∧ bits .or .u8 (c.toNat : Int) 32 ≤ 255) ∧ ((97 ≤ bits .or .u8 (c.toNat : Int) 32 ∧ bits .or .u8 (c.toNat : Int) 32 ≤ 102 ∧ c.toNat ≠ 95 ∧ ∃ d : Nat, hexE c = some d ∧ bits .or .u8 (c.toNat : Int) 32 - 87 = d ∧ d < 16) ∨ ((bits .or .u8 (c.toNat : Int) 32 < 97 ∨ 102 < bits .or .u8 (c.toNat : Int) 32) ∧ hexE c = none)) := by
  obtain ⟨h0, h1, h2⟩ := lower_all c.toNat c.toNat_lt
  refine ⟨⟨h0, h1⟩, ?_⟩
  unfold hexE hexD
  rcases h2 with ⟨ha, hb, ⟨hc, hd, he⟩ | ⟨hc, hd, he⟩⟩ | ⟨ha, hb, hc⟩
  · left
    refine ⟨ha, hb, by omega, c.toNat - 55, ?_, by omega, by omega⟩
    rw [if_pos ⟨hc, hd⟩]
  · left
    refine ⟨ha, hb, by omega, c.toNat - 87, ?_, by omega, by omega⟩
    rw [if_neg (by omega), if_neg h, if_pos ⟨hc, hd⟩]
  · right
    exact ⟨ha, by rw [if_neg hb, if_neg h, if_neg hc]⟩
theorem hexE_dec (c : UInt8) (h : 48 ≤ c.toNat ∧ c.toNat ≤ 57) : hexE c = some (c.toNat - 48) := by
  unfold hexE hexD
  rw [if_neg (by omega), if_pos h]
theorem hexU_cons (M a : Nat) (c : UInt8) (l : List UInt8) {d : Nat} (h : hexE c = some d) : hexU M a (c :: l) = if M < a * 16 + d then .inr true else hexU M (a * 16 + d) l := by
  rw [hexU, h]
theorem hexU_bad (M a : Nat) (c : UInt8) (l : List UInt8) (h : hexE c = none) : hexU M a (c :: l) = .inr false := by
  rw [hexU, h]

end Go.Proofs.Ytglimhkpndfjgaa
