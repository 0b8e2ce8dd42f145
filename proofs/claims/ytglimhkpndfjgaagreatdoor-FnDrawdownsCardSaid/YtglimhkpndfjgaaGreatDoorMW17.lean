import Derived.Test.YtglimhkpndfjgaaGreatDoorMW16
import Derived.Test.YtglimhkpndfjgaaGreatDoorMW12
import Derived.Lib.Strings
import Derived.Lib.Walk
import Derived.Lib.ConvBytes
import Derived.Lib.Hide
import Derived.Laws.Strings3
import Derived.Laws.Closers25
import Derived.Laws.Closers25b
import Derived.WalkKit
import Derived.BigCall
import Derived.BigGuard
import Derived.Test.YtglimhkpndfjgaaGreatDoorMW01
import Derived.Laws.IdiomStrings
import Derived.Lib.AtoiErrMem
/- Readings read from a text: plain laws; no statement is proved here. -/
namespace Go.Proofs.YtglimhkpndfjgaaGreatDoor
open Go.ChangeShapes Go.WideShapes Go.ChangeAt Go.RowKit
set_option linter.unusedVariables false

theorem itoa_pos {z : Int} (h : 0 ≤ z) : Lib.itoa z = Lib.decDigits z.toNat := by unfold Lib.itoa; rw [if_neg (by omega)]
theorem itoa_neg {z : Int} (h : z < 0) : Lib.itoa z = 45 :: Lib.decDigits (-z).toNat := by
  unfold Lib.itoa
  rw [if_pos h]
  rw [show z.natAbs = (-z).toNat by omega]
/-- The number that the reference reads, maybe with a sign, and whether it reads one. -/
def sgV (l : List UInt8) : Int := if l.head? = some 45 then -(((decN l.tail).getD 0 : Nat) : Int) else (((decN l).getD 0 : Nat) : Int)
def sgB (l : List UInt8) : Bool := if l.head? = some 45 then (decN l.tail).isSome && decide (0 < (decN l.tail).getD 0) else (decN l).isSome
theorem digits_head (u : Nat) : (Lib.decDigits u).head? ≠ some 45 := by
  have h := decDigits_digits u u (Nat.le_refl _)
  cases hd : Lib.decDigits u with
  | nil => simp
  | cons c r =>
    rw [hd] at h
    have := h c (by simp)
    intro q
    have q : c = 45 := by simpa using q
    subst q
    revert this; decide
theorem sg_itoa {z : Int} (h : -32768 ≤ z ∧ z ≤ 32767) : sgV (Lib.itoa z) = z ∧ sgB (Lib.itoa z) = true := by
  by_cases hz : 0 ≤ z
  · rw [itoa_pos hz]
    unfold sgV sgB
    rw [if_neg (digits_head _), if_neg (digits_head _), decN_digits (by omega)]
    simp; omega
  · rw [itoa_neg (by omega)]
    have hd := decN_digits (u := (-z).toNat) (by omega)
    unfold sgV sgB
    simp only [List.head?_cons, if_true, List.tail_cons, hd, Option.getD_some, Option.isSome_some, Bool.true_and]
    simp; omega
theorem sg_some {l : List UInt8} (h : sgB l = true) : Lib.itoa (sgV l) = l := by
  unfold sgB at h
  unfold sgV
  split at h
  · rename_i hh
    rw [if_pos hh]
    cases l with
    | nil => cases hh
    | cons c r =>
      obtain rfl : c = 45 := by simpa using hh
      simp only [List.tail_cons, Bool.and_eq_true] at h ⊢
      obtain ⟨u, hu⟩ := Option.isSome_iff_exists.1 h.1
      have hu0 : 0 < u := by simpa [hu] using h.2
      simp only [hu, Option.getD_some] at h ⊢
      rw [itoa_neg (z := -((u : Nat) : Int)) (by omega), show (- -((u : Nat) : Int)).toNat = u by omega, (decN_some hu).1]
  · rename_i hh
    rw [if_neg hh]
    obtain ⟨u, hu⟩ := Option.isSome_iff_exists.1 h
    rw [hu]
    simp only [Option.getD_some]
    rw [itoa_pos (z := ((u : Nat) : Int)) (by omega), Int.toNat_natCast, (decN_some hu).1]
theorem intV_itoa {z : Int} (h : -32768 ≤ z ∧ z ≤ 100000) : intV (Lib.itoa z) = some z := by
  by_cases hz : 0 ≤ z
  · rw [itoa_pos hz, intV_digits (by omega)]
    congr 1; omega
  · rw [itoa_neg (by omega)]
    have hp := parseM_digits _ _ _ (decV_decDigits (-z).toNat _ (Nat.le_refl _)) (by omega)
    have hne : Lib.decDigits (-z).toNat ≠ [] := fun q => by have := decDigits_pos (-z).toNat; rw [q] at this; simp at this
    unfold intV Lib.parseIntB Lib.parseUintB
    have e : (if (45 : UInt8).toNat = 43 ∨ (45 : UInt8).toNat = 45 then Lib.decDigits (-z).toNat else 45 :: Lib.decDigits (-z).toNat) = Lib.decDigits (-z).toNat := by rw [if_pos (by decide)]
    simp only [e]
    rw [if_neg hne, hp]
    have h1 : ¬ (¬ (45 : UInt8).toNat = 45 ∧ 2 ^ (64 - 1) ≤ (-z).toNat) := fun q => q.1 rfl
    have h2 : ¬ ((45 : UInt8).toNat = 45 ∧ 2 ^ (64 - 1) < (-z).toNat) := by omega
    have h3 : (45 : UInt8).toNat = 45 := rfl
    simp only [if_neg h1, if_neg h2, if_pos h3]
    congr 1; omega
theorem numZ_itoa {lo hi z : Int} (h : lo ≤ z ∧ z ≤ hi) (hb : -32768 ≤ z ∧ z ≤ 100000) : numZ lo hi (Lib.itoa z) = z := by
  unfold numZ
  rw [intV_itoa hb]
  simp; omega
theorem numZ_bd (lo hi : Int) (h : 0 ≤ hi) (h2 : 0 ≤ lo) (l : List UInt8) : 0 ≤ numZ lo hi l ∧ numZ lo hi l ≤ hi := by
  unfold numZ
  split
  · split
    · rename_i h; simp at h; omega
    · omega
  · omega
theorem itoa_not (z : Int) (c : UInt8) (hc : c.toNat < 45) : c ∉ Lib.itoa z := by
  by_cases hz : 0 ≤ z
  · rw [itoa_pos hz]; exact decDigits_not _ _ (by omega)
  · rw [itoa_neg (by omega)]
    intro q
    rcases List.mem_cons.1 q with q | q
    · subst q; revert hc; decide
    · exact decDigits_not _ _ (by omega) q
/-- The time ahead of a reading. -/
def prevT (P : Nat → Rg) : Nat → Int
  | 0 => 0
  | k + 1 => (P k).tim
/-- Do the times rise? -/
def okT (P : Nat → Rg) : Nat → Bool
  | 0 => true
  | k + 1 => okT P k && (decide (prevT P k < (P k).tim) && decide ((P k).tim ≤ 100000))
theorem prevT_congr {P P' : Nat → Rg} : ∀ {k : Nat}, (∀ i, i < k → P i = P' i) → prevT P k = prevT P' k
  | 0, _ => rfl
  | k + 1, h => by show (P k).tim = (P' k).tim; rw [h k (by omega)]
theorem okT_congr {P P' : Nat → Rg} : ∀ {k : Nat}, (∀ i, i < k → P i = P' i) → okT P k = okT P' k
  | 0, _ => rfl
  | k + 1, h => by unfold okT; rw [okT_congr (fun i hi => h i (by omega)), prevT_congr (fun i hi => h i (by omega)), h k (by omega)]
theorem okT_prev {P : Nat → Rg} : ∀ {k : Nat}, okT P k = true → 0 ≤ prevT P k
  | 0, _ => by show (0 : Int) ≤ 0; omega
  | k + 1, h => by
    unfold okT at h
    simp only [Bool.and_eq_true, decide_eq_true_eq] at h
    have := okT_prev h.1
    show 0 ≤ (P k).tim
    omega
theorem okT_in {P : Nat → Rg} : ∀ {k : Nat}, okT P k = true → ∀ i, i < k → 1 ≤ (P i).tim ∧ (P i).tim ≤ 100000
  | 0, _, i, hi => by omega
  | k + 1, h, i, hi => by
    unfold okT at h
    simp only [Bool.and_eq_true, decide_eq_true_eq] at h
    by_cases hik : i < k
    · exact okT_in h.1 i hik
    · obtain rfl : i = k := by omega
      have := okT_prev h.1
      omega
theorem okT_false {P : Nat → Rg} {k : Nat} (h : okT P k = false) : ∀ {n : Nat}, k ≤ n → okT P n = false
  | 0, hn => by obtain rfl : k = 0 := by omega
                exact h
  | n + 1, hn => by
    by_cases e : k = n + 1
    · subst e; exact h
    · unfold okT; rw [okT_false h (n := n) (by omega)]; rfl
/-- Are readings valid, and does each number fit? -/
def validR (n : Nat) (P : Nat → Rg) : Prop := n ≤ 40 ∧ okT P n = true ∧ ∀ i, i < n → -32768 ≤ (P i).lev ∧ (P i).lev ≤ 32767
/-- A row's text without its end. -/
def rowG (p : Rg) : List UInt8 := glue 32 [Lib.itoa p.tim, Lib.itoa p.lev]
def rowsG (P : Nat → Rg) (n : Nat) : List (List UInt8) := (List.range n).map fun i => rowG (P i)
def txtRg (P : Nat → Rg) : Nat → List UInt8
  | 0 => []
  | k + 1 => txtRg P k ++ (rowG (P k) ++ [10])
theorem txtRg_lined (P : Nat → Rg) : ∀ n, txtRg P n = lined 10 (rowsG P n)
  | 0 => rfl
  | n + 1 => by
    have ih := txtRg_lined P n
    unfold txtRg rowsG
    rw [List.range_succ, List.map_append]
    show _ = lined 10 (rowsG P n ++ [rowG (P n)])
    rw [lined_snoc, ih, List.append_assoc]
theorem txtRg_congr {P P' : Nat → Rg} : ∀ {n : Nat}, (∀ i, i < n → P i = P' i) → txtRg P n = txtRg P' n
  | 0, _ => rfl
  | n + 1, h => by unfold txtRg; rw [txtRg_congr (fun i hi => h i (by omega)), h n (by omega)]
theorem rowG_words (p : Rg) : splitL 32 (rowG p) = [Lib.itoa p.tim, Lib.itoa p.lev] := by
  unfold rowG
  refine splitL_glue (by simp) fun a ha => ?_
  simp at ha
  rcases ha with rfl | rfl <;> exact itoa_not _ _ (by decide)
theorem rowG_not (p : Rg) : (10 : UInt8) ∉ rowG p := by
  have h := fun u => itoa_not u 10 (by decide)
  simp [rowG, glue, h]
theorem rowsG_not (P : Nat → Rg) (n : Nat) : ∀ a ∈ rowsG P n, (10 : UInt8) ∉ a := by
  intro a ha
  unfold rowsG at ha
  rw [List.mem_map] at ha
  obtain ⟨i, _, rfl⟩ := ha
  exact rowG_not _
theorem rowsG_len (P : Nat → Rg) (n : Nat) : (rowsG P n).length = n := by simp [rowsG]
theorem rowsG_get (P : Nat → Rg) (n i : Nat) (h : i < n) : (rowsG P n)[i]? = some (rowG (P i)) := by simp [rowsG, h]
theorem split_txtRg (P : Nat → Rg) (n : Nat) : splitL 10 (txtRg P n) = rowsG P n ++ [[]] := by
  rw [txtRg_lined]; exact splitL_lined (rowsG_not P n)
def rgW (ws : List (List UInt8)) : Rg := ⟨(((decN (ws.getD 0 [])).getD 0 : Nat) : Int), sgV (ws.getD 1 [])⟩
def rdG (l : List UInt8) (i : Nat) : Rg := rgW (wordsAt l i)
def okG (ws : List (List UInt8)) : Bool := (decN (ws.getD 0 [])).isSome && sgB (ws.getD 1 []) && (decide (-32768 ≤ sgV (ws.getD 1 [])) && decide (sgV (ws.getD 1 []) ≤ 32767))
def okGW (ws : List (List UInt8)) : Prop := ws.length = 2 ∧ okG ws = true
/-- Is a text that of readings? -/
def goodRg (l : List UInt8) : Prop := ∃ n P, validR n P ∧ l = txtRg P n
theorem rg_txt {P : Nat → Rg} {n : Nat} (h : validR n P) : rdN (txtRg P n) = n ∧ ∀ i, i < n → rdG (txtRg P n) i = P i ∧ okGW (wordsAt (txtRg P n) i) := by
  obtain ⟨h40, ht, hl⟩ := h
  refine ⟨by unfold rdN; rw [split_txtRg]; simp [rowsG_len], fun i hi => ?_⟩
  have hw : wordsAt (txtRg P n) i = [Lib.itoa (P i).tim, Lib.itoa (P i).lev] := by
    unfold wordsAt
    rw [split_txtRg, List.getD_eq_getElem?_getD, List.getElem?_append_left (by rw [rowsG_len]; exact hi), rowsG_get _ _ _ hi]
    exact rowG_words _
  have hti := okT_in ht i hi
  have hs := sg_itoa (hl i hi)
  have hli := hl i hi
  have d1 := decN_digits (u := (P i).tim.toNat) (by omega)
  rw [← itoa_pos (by omega)] at d1
  have e1 : (((P i).tim.toNat : Nat) : Int) = (P i).tim := by omega
  refine ⟨?_, ?_⟩
  · unfold rdG rgW
    rw [hw]
    simp only [List.getD_cons_zero, List.getD_cons_succ, d1, Option.getD_some, e1, hs.1]
  · rw [hw]
    refine ⟨rfl, ?_⟩
    unfold okG
    simp only [List.getD_cons_zero, List.getD_cons_succ, d1, Option.isSome_some, hs.1, hs.2]
    simp; omega
theorem okGW_row {l : List UInt8} (h : okGW (splitL 32 l)) : rowG (rgW (splitL 32 l)) = l ∧ (-32768 ≤ (rgW (splitL 32 l)).lev ∧ (rgW (splitL 32 l)).lev ≤ 32767) := by
  have hg := glue_split 32 l
  obtain ⟨h1, h2⟩ := h
  generalize splitL 32 l = ws at *
  obtain ⟨a, b, rfl⟩ : ∃ a b, ws = [a, b] := by
    match ws, h1 with
    | [a, b], _ => exact ⟨a, b, rfl⟩
  unfold okG at h2
  simp only [List.getD_cons_zero, List.getD_cons_succ, Bool.and_eq_true, decide_eq_true_eq] at h2
  obtain ⟨⟨s1, s2⟩, l1⟩ := h2
  obtain ⟨u1, e1⟩ := Option.isSome_iff_exists.1 s1
  have q1 := (decN_some e1).1
  have q2 := sg_some s2
  unfold rowG rgW
  simp only [List.getD_cons_zero, List.getD_cons_succ, e1, Option.getD_some, q2]
  rw [itoa_pos (z := ((u1 : Nat) : Int)) (by omega), Int.toNat_natCast, q1]
  exact ⟨hg, l1⟩
theorem goodRg_iff (l : List UInt8) : goodRg l ↔ ((splitL 10 l).getD (rdN l) [0] = [] ∧ (∀ i, i < rdN l → okGW (wordsAt l i)) ∧ rdN l ≤ 40 ∧ okT (rdG l) (rdN l) = true) := by
  constructor
  · rintro ⟨n, P, h, rfl⟩
    obtain ⟨h1, h2⟩ := rg_txt h
    rw [h1]
    refine ⟨?_, fun i hi => (h2 i hi).2, h.1, by rw [okT_congr fun i hi => (h2 i hi).1]; exact h.2.1⟩
    rw [split_txtRg, List.getD_eq_getElem?_getD, List.getElem?_append_right (by rw [rowsG_len]; exact Nat.le_refl _), rowsG_len, Nat.sub_self]; rfl
  · rintro ⟨h1, h2, h3, h4⟩
    have hpos := List.length_pos_iff.2 (splitL_ne 10 l)
    have hn : rdN l + 1 = (splitL 10 l).length := by unfold rdN; omega
    have hrow := fun i (hi : i < rdN l) => okGW_row (l := (splitL 10 l).getD i []) (h2 i hi)
    refine ⟨rdN l, rdG l, ⟨h3, h4, fun i hi => (hrow i hi).2⟩, ?_⟩
    rw [txtRg_lined]
    have hs : splitL 10 l = rowsG (rdG l) (rdN l) ++ [[]] := by
      apply List.ext_getElem?
      intro i
      by_cases hi : i < rdN l
      · rw [List.getElem?_append_left (by rw [rowsG_len]; exact hi), rowsG_get _ _ _ hi]
        have := (hrow i hi).1
        unfold rdG wordsAt
        rw [this, List.getD_eq_getElem?_getD, List.getElem?_eq_getElem (by omega)]; rfl
      · by_cases he : i = rdN l
        · subst he
          rw [List.getElem?_append_right (by rw [rowsG_len]; omega), rowsG_len, Nat.sub_self]
          rw [List.getD_eq_getElem?_getD, List.getElem?_eq_getElem (by omega)] at h1
          rw [List.getElem?_eq_getElem (by omega)]
          exact congrArg some h1
        · rw [List.getElem?_eq_none (by omega), List.getElem?_eq_none (by simp [rowsG_len]; omega)]
    exact (lined_of hs).symm
/-- A good text's lines, as the program finds them. -/
theorem lines_txtG {P : Nat → Rg} {n : Nat} (h : validR n P) : (linesL (txtRg P n)).length = n ∧ goodTo (txtRg P n) 2 40 n ∧ ∀ j, j < n → lineWs ((linesL (txtRg P n)).getD j []) = [Lib.itoa (P j).tim, Lib.itoa (P j).lev] := by
  have hl : linesL (txtRg P n) = (rowsG P n).map (· ++ [10]) := by rw [txtRg_lined]; exact linesL_lined _ (rowsG_not P n)
  have hw : ∀ j, j < n → lineWs ((linesL (txtRg P n)).getD j []) = [Lib.itoa (P j).tim, Lib.itoa (P j).lev] := fun j hj => by
    rw [hl, List.getD_eq_getElem?_getD, List.getElem?_map, rowsG_get _ _ _ hj]
    show lineWs (rowG (P j) ++ [10]) = _
    unfold lineWs
    rw [trim_end]
    exact rowG_words _
  exact ⟨by rw [hl]; simp [rowsG_len], ⟨h.1, fun j hj => by rw [hw j hj]; rfl⟩, hw⟩
/-- The readings that the program reads off the lines' words. -/
def rgI (l : List UInt8) (j : Nat) : Rg := ⟨numZ 1 100000 ((lineWs ((linesL l).getD j [])).getD 0 []), numZ (-32768) 32767 ((lineWs ((linesL l).getD j [])).getD 1 [])⟩
theorem rgI_in (l : List UInt8) (j : Nat) : (0 ≤ (rgI l j).tim ∧ (rgI l j).tim ≤ 100000) ∧ (-32768 ≤ (rgI l j).lev ∧ (rgI l j).lev ≤ 32767) :=
  ⟨numZ_bd _ _ (by decide) (by decide) _, numZ_in _ _ (by decide) _⟩
theorem rgI_txt {P : Nat → Rg} {n : Nat} (h : validR n P) : ∀ j, j < n → rgI (txtRg P n) j = P j := fun j hj => by
  have hti := okT_in h.2.1 j hj
  have hl := h.2.2 j hj
  unfold rgI
  rw [(lines_txtG h).2.2 j hj]
  simp only [List.getD_cons_zero, List.getD_cons_succ]
  rw [numZ_itoa (z := (P j).tim) (by omega) (by omega), numZ_itoa (z := (P j).lev) (by omega) (by omega)]
/-- What the program finds is what the reference finds. -/
theorem goodRg_I (l : List UInt8) : goodRg l ↔ (goodTo l 2 40 (linesL l).length ∧ okT (rgI l) (linesL l).length = true ∧ txtRg (rgI l) (linesL l).length = l) := by
  constructor
  · rintro ⟨n, P, h, rfl⟩
    obtain ⟨h1, h2, h3⟩ := lines_txtG h
    rw [h1]
    exact ⟨h2, by rw [okT_congr (rgI_txt h)]; exact h.2.1, txtRg_congr (rgI_txt h)⟩
  · rintro ⟨h1, h2, h3⟩
    exact ⟨(linesL l).length, rgI l, ⟨h1.1, h2, fun i _ => (rgI_in l i).2⟩, h3.symm⟩
theorem goodRg_same {l : List UInt8} (h : goodRg l) : rdN l = (linesL l).length ∧ ∀ i, i < rdN l → rdG l i = rgI l i := by
  obtain ⟨n, P, h, rfl⟩ := h
  obtain ⟨h1, h2⟩ := rg_txt h
  obtain ⟨h3, h4, h5⟩ := lines_txtG h
  exact ⟨by rw [h1, h3], fun i hi => by rw [h1] at hi; rw [(h2 i hi).1, rgI_txt h i hi]⟩
open Classical in
/-- The code that goes with a text. -/
noncomputable def rgC (l : List UInt8) : Int := if goodRg l then 0 else 5
open Classical in
noncomputable def rgM (l : List UInt8) : Nat := if goodRg l then rdN l else 0
theorem rg_good {l : List UInt8} (h : goodRg l) : rgC l = 0 ∧ rgM l = rdN l := ⟨by unfold rgC; rw [if_pos h], by unfold rgM; rw [if_pos h]⟩
theorem rg_bad {l : List UInt8} (h : ¬ goodRg l) : rgC l = 5 ∧ rgM l = 0 := ⟨by unfold rgC; rw [if_neg h], by unfold rgM; rw [if_neg h]⟩
theorem rgM_le (l : List UInt8) : rgM l ≤ 40 := by
  by_cases h : goodRg l
  · rw [(rg_good h).2]; exact ((goodRg_iff l).1 h).2.2.1
  · rw [(rg_bad h).2]; omega
end Go.Proofs.YtglimhkpndfjgaaGreatDoor
/- strconv.ParseUint at base 16 and 32 bits: the walk of the library's text. -/
namespace Go.Proofs.YtglimhkpndfjgaaGreatDoor
open Go.ChangeShapes Go.WideShapes Go.ChangeAt Go.RowKit
set_option linter.unusedVariables false
set_option linter.unusedSimpArgs false
attribute [local irreducible] Calls

theorem lower_all : ∀ n : Nat, n < 256 → (0 ≤ bits .or .u8 (n : Int) 32 ∧ bits .or .u8 (n : Int) 32 ≤ 255 ∧ ((97 ≤ bits .or .u8 (n : Int) 32 ∧ bits .or .u8 (n : Int) 32 ≤ 102 ∧ ((65 ≤ n ∧ n ≤ 70 ∧ bits .or .u8 (n : Int) 32 = n + 32) ∨ (97 ≤ n ∧ n ≤ 102 ∧ bits .or .u8 (n : Int) 32 = n))) ∨ ((bits .or .u8 (n : Int) 32 < 97 ∨ 102 < bits .or .u8 (n : Int) 32) ∧ ¬ (65 ≤ n ∧ n ≤ 70) ∧ ¬ (97 ≤ n ∧ n ≤ 102)))) := by
  decide +kernel
/-- What a byte that is no decimal digit is, by its small letter. -/
theorem lower_hex (c : UInt8) (h : ¬ (48 ≤ c.toNat ∧ c.toNat ≤ 57)) :
    (0 ≤ bits .or .u8 (c.toNat : Int) 32 ∧ bits .or .u8 (c.toNat : Int) 32 ≤ 255) ∧ ((97 ≤ bits .or .u8 (c.toNat : Int) 32 ∧ bits .or .u8 (c.toNat : Int) 32 ≤ 102 ∧ c.toNat ≠ 95 ∧ ∃ d : Nat, hexE c = some d ∧ bits .or .u8 (c.toNat : Int) 32 - 87 = d ∧ d < 16) ∨ ((bits .or .u8 (c.toNat : Int) 32 < 97 ∨ 102 < bits .or .u8 (c.toNat : Int) 32) ∧ hexE c = none)) := by
  obtain ⟨h0, h1, h2⟩ := lower_all c.toNat c.toNat_lt
  refine ⟨⟨h0, h1⟩, ?_⟩
  unfold hexE hexD
  rcases h2 with ⟨ha, hb, ⟨hc, hd, he⟩ | ⟨hc, hd, he⟩⟩ | ⟨ha, hb, hc⟩
  · left
    refine ⟨ha, hb, by omega, c.toNat - 55, ?_, by omega, by omega⟩
    rw [if_pos ⟨hc, hd⟩]
  · left
    refine ⟨ha, hb, by omega, c.toNat - 87, ?_, by omega, by omega⟩
    rw [if_neg (by omega), if_neg h, if_pos ⟨hc, hd⟩]
  · right
    exact ⟨ha, by rw [if_neg hb, if_neg h, if_neg hc]⟩
theorem hexE_dec (c : UInt8) (h : 48 ≤ c.toNat ∧ c.toNat ≤ 57) : hexE c = some (c.toNat - 48) := by
  unfold hexE hexD
  rw [if_neg (by omega), if_pos h]
theorem hexU_cons (M a : Nat) (c : UInt8) (l : List UInt8) {d : Nat} (h : hexE c = some d) : hexU M a (c :: l) = if M < a * 16 + d then .inr true else hexU M (a * 16 + d) l := by
  rw [hexU, h]
theorem hexU_bad (M a : Nat) (c : UInt8) (l : List UInt8) (h : hexE c = none) : hexU M a (c :: l) = .inr false := by
  rw [hexU, h]

/-- What the library's inner function hands back. -/
def uTup : Sum Nat Bool → Value
  | .inl n => .tuple #[.int .u64 n, .nilIface]
  | .inr true => .tuple #[.int .u64 4294967295, .iface 188 (.int .i64 1)]
  | .inr false => .tuple #[.int .u64 0, .iface 188 (.int .i64 2)]
theorem lower_any (c : Int) (w : World) :
    Calls Tryz.prog 182 #[.int .u8 c] w fun e w' => e = .returned (.int .u8 (bits .or .u8 c 32)) ∧ w' = w := by
  go_enter Tryz.func182, Tryz.ntmps182
  go_wp2
  go_ret
  exact ⟨rfl, rfl⟩

set_option maxHeartbeats 32000000 in
set_option maxRecDepth 100000 in
theorem parseUint16_in (t : ByteArray) (hne : t.size ≠ 0) (hmax : t.size ≤ 1048576) (w : World) :
    Calls Tryz.prog 149 #[.string t, .int .i64 16, .int .i64 32] w fun e w' => e = .returned (uTup (hexU 4294967295 0 t.data.toList)) ∧ w' = Lib.bytesWorld w 5 t := by
  have hemp : t.toList.isEmpty = false := by
    rw [← decide_eq_emptyBytes]
    exact decide_eq_false (fun h => hne (by rw [h]; rfl))
  have hcv := Lib.run_convert_string_bytes (P := Tryz.prog) w 9 22 5 t (u := .string) Tryz.underlying9 Tryz.underlying22 Tryz.underlying5
  have hB : ∀ j, j < t.size → (Lib.bytesWorld w 5 t).cell? ⟨w.heap.size, j, none⟩ = some (.int .u8 (t.data.toList.getD j 0).toNat) := fun j hj => Lib.bytesWorld_cell w 5 t j hj
  obtain ⟨W1, hW1⟩ : ∃ W1, W1 = Lib.bytesWorld w 5 t := ⟨_, rfl⟩
  rw [← hW1] at hcv hB ⊢
  clear hW1
  obtain ⟨bs, hL⟩ : ∃ bs, bs = t.data.toList := ⟨_, rfl⟩
  have hLn : bs.length = t.size := by rw [hL, Lib.size_eq]
  rw [← hL] at hB ⊢
  clear hL
  have hmv : IntKind.u64.wrap (IntKind.u64.wrap 4294967296 - 1) = 4294967295 := by
    rw [IntKind.wrap_u64, IntKind.wrap_u64]
    decide
  go_enter Tryz.func149, Tryz.ntmps149
  go_wp2
  go_loop [12, 13, 101] (fun vu vn vi => ∃ (k acc : Nat) (a : Int), vu = .bool false ∧ vn = .int .u64 a ∧ vi = .int .i64 k ∧ k ≤ t.size ∧ Hid (a = (acc : Int) ∧ acc ≤ 4294967295 ∧ hexU 4294967295 0 bs = hexU 4294967295 acc (bs.drop k)))
    (fun _ _ vi => t.size - (intOf vi).toNat)
  case atStart => exact ⟨0, 0, 0, rfl, rfl, rfl, by omega, rfl, by omega, rfl⟩
  case round =>
    obtain ⟨k, acc, a, rfl, rfl, rfl, hk, hh⟩ := hrel
    obtain ⟨ha, hacc, hdec⟩ := hh.out
    clear hh
    have a0 : 0 ≤ a := by omega
    have a1 : a ≤ 4294967295 := by omega
    by_cases hkn : k < t.size
    · have hc := hB k hkn
      have hdrop : bs.drop k = bs[k]'(by omega) :: bs.drop (k + 1) := List.drop_eq_getElem_cons (by omega)
      have hget : bs.getD k 0 = bs[k]'(by omega) := by simp [List.getD, List.getElem?_eq_getElem (show k < bs.length by omega)]
      rw [hdrop] at hdec
      rw [hget] at hc
      generalize bs[k]'(by omega) = c at hc hdec
      have hc256 : c.toNat < 256 := c.toNat_lt
      clear hB hdrop hget
      by_cases hdig : 48 ≤ c.toNat ∧ c.toNat ≤ 57
      · rw [hexU_cons _ _ _ _ (hexE_dec c hdig)] at hdec
        obtain ⟨hd0, hd1⟩ := hdig
        by_cases hov : 4294967295 < acc * 16 + (c.toNat - 48)
        · rw [if_pos hov] at hdec
          have iov : 4294967295 < a * 16 + ((c.toNat : Int) - 48) := by omega
          clear hacc hov ha
          go_wp2
          go_ret2
          exact ⟨by first | rfl | (rw [hdec]; rfl), rfl⟩
        · rw [if_neg hov] at hdec
          have HN : Hid (a * 16 + ((c.toNat : Int) - 48) = ((acc * 16 + (c.toNat - 48) : Nat) : Int) ∧ acc * 16 + (c.toNat - 48) ≤ 4294967295 ∧ hexU 4294967295 0 bs = hexU 4294967295 (acc * 16 + (c.toNat - 48)) (bs.drop (k + 1))) := Lib.hid ⟨by omega, by omega, hdec⟩
          have iov : a * 16 + ((c.toNat : Int) - 48) ≤ 4294967295 := by omega
          clear hacc hov hdec ha
          go_wp2
          refine ⟨⟨k + 1, acc * 16 + (c.toNat - 48), a * 16 + ((c.toNat : Int) - 48), rfl, (by first | rfl | (congr 1; omega)), (by first | rfl | (congr 1; omega)), by omega, HN⟩, by simp [intOf]; omega⟩
      · obtain ⟨⟨hl0, hl1⟩, hlo⟩ := lower_hex c hdig
        have hlw := fun w' => lower_any (c.toNat : Int) w'
        have hdig' : ¬ (48 ≤ (c.toNat : Int) ∧ (c.toNat : Int) ≤ 57) := by omega
        rcases hlo with ⟨hl2, hl3, h95, d, hd, hdl, hd16⟩ | ⟨hl2, hd⟩
        · rw [hexU_cons _ _ _ _ hd] at hdec
          have hx : (bits .or .u8 (c.toNat : Int) 32) = d + 87 := by omega
          rw [hx] at hlw hl2 hl3
          clear hx hdl hl0 hl1 hd hdig
          have i95 : (c.toNat : Int) ≠ 95 := by omega
          have hdd : (d : Int) + 87 - 97 + 10 = d := by omega
          by_cases hov : 4294967295 < acc * 16 + d
          · rw [if_pos hov] at hdec
            have iov : 4294967295 < a * 16 + (d : Int) := by omega
            clear hacc hov ha
            have HD := Lib.hid hdec
            clear hdec
            go_wp2_with (go_at_call 182; refine (hlw _).mono ?_; rintro e w' ⟨rfl, hw⟩; rw [hw]; clear hw w')
            all_goals go_ret2
            all_goals exact ⟨by rw [HD.out]; rfl, rfl⟩
          · rw [if_neg hov] at hdec
            have HN : Hid (a * 16 + (d : Int) = ((acc * 16 + d : Nat) : Int) ∧ acc * 16 + d ≤ 4294967295 ∧ hexU 4294967295 0 bs = hexU 4294967295 (acc * 16 + d) (bs.drop (k + 1))) := Lib.hid ⟨by omega, by omega, hdec⟩
            have iov : a * 16 + (d : Int) ≤ 4294967295 := by omega
            clear hacc hov hdec ha
            go_wp2_with (go_at_call 182; refine (hlw _).mono ?_; rintro e w' ⟨rfl, hw⟩; rw [hw]; clear hw w')
            all_goals refine ⟨⟨k + 1, acc * 16 + d, a * 16 + (d : Int), rfl, (by first | rfl | (congr 1; omega)), (by first | rfl | (congr 1; omega)), by omega, HN⟩, by simp [intOf]; omega⟩
        · rw [hexU_bad _ _ _ _ hd] at hdec
          have HD := Lib.hid hdec
          clear hacc ha hdec hd
          by_cases h95 : c.toNat = 95
          · rw [h95] at hc
            have hl95 : ∀ w', Calls Tryz.prog 182 #[.int .u8 95] w' fun e w'' => e = .returned (.int .u8 127) ∧ w'' = w' := fun w' => lower_any 95 w'
            clear hlw hl0 hl1 hl2 hdig' h95 hdig
            go_wp2_with (go_at_call 182; refine (hl95 _).mono ?_; rintro e w' ⟨rfl, hw⟩; rw [hw]; clear hw w')
            go_ret2
            exact ⟨by rw [HD.out]; rfl, rfl⟩
          have i95 : (c.toNat : Int) ≠ 95 := by omega
          clear h95 hdig
          generalize bits .or .u8 (c.toNat : Int) 32 = x at *
          go_wp2_with (go_at_call 182; refine (hlw _).mono ?_; rintro e w' ⟨rfl, hw⟩; rw [hw]; clear hw w')
          all_goals go_ret2
          all_goals exact ⟨by rw [HD.out]; rfl, rfl⟩
    · have hkk : k = t.size := by omega
      subst hkk
      have hF : hexU 4294967295 acc (bs.drop t.size) = .inl acc := by rw [List.drop_eq_nil_of_le (by omega)]; rfl
      rw [hF] at hdec
      subst ha
      clear hacc hF a0 a1
      go_wp2
      go_ret2
      exact ⟨by first | rfl | (rw [hdec]; rfl), rfl⟩
end Go.Proofs.YtglimhkpndfjgaaGreatDoor
/- strconv.FormatUint at base 16: the walk of the library's text. -/
namespace Go.Proofs.YtglimhkpndfjgaaGreatDoor
open Go.ChangeShapes Go.WideShapes Go.ChangeAt Go.RowKit
set_option linter.unusedVariables false
set_option linter.unusedSimpArgs false
attribute [local irreducible] Calls

/-- The cells of some bytes. -/
def u8s (l : List UInt8) : List Value := l.map fun c => .int .u8 c.toNat

theorem isPow_any (w : World) :
    Calls Tryz.prog 234 #[.int .i64 16] w fun e w' => e = .returned (.bool true) ∧ w' = w := by
  go_enter Tryz.func234, Tryz.ntmps234
  go_wp2
  go_ret
  exact ⟨rfl, rfl⟩
theorem tz64_16 (w : World) (hT : w.cell? ⟨8, 15, none⟩ = some (.int .u8 4)) :
    Calls Tryz.prog 239 #[.int .u64 16] w fun e w' => e = .returned (.int .i64 4) ∧ w' = w := by
  have hk : IntKind.u64.wrap (bits BinOp.and IntKind.u64 16 (IntKind.u64.wrap (-16)) * 285870213051353865) / 288230376151711744 = 15 := by decide +kernel
  go_enter Tryz.func239, Tryz.ntmps239
  go_wp2
  go_ret
  exact ⟨rfl, rfl⟩
theorem tz16_any (w : World) (hT : w.cell? ⟨8, 15, none⟩ = some (.int .u8 4)) :
    Calls Tryz.prog 235 #[.int .u64 16] w fun e w' => e = .returned (.int .i64 4) ∧ w' = w := by
  have h := tz64_16 w hT
  go_enter Tryz.func235, Tryz.ntmps235
  go_wp2_with (go_at_call 239; refine h.mono ?_; rintro e w' ⟨rfl, hw⟩; rw [hw]; clear hw w')
  go_ret
  exact ⟨rfl, rfl⟩

theorem and15 (x : Nat) (h : x < 4294967296) : bits .and .u64 (x : Int) 15 = ((x % 16 : Nat) : Int) := by
  have h1 : (BitVec.ofInt 64 (x : Int)).toNat = x := by
    rw [BitVec.ofInt_natCast, BitVec.toNat_ofNat]; exact Nat.mod_eq_of_lt (by omega)
  have h2 : (BitVec.ofInt 64 (15 : Int)).toNat = 15 := by decide
  show IntKind.u64.wrap ((BitVec.ofInt 64 (x : Int) &&& BitVec.ofInt 64 (15 : Int)).toNat : Int) = _
  rw [BitVec.toNat_and, h1, h2, IntKind.wrap_u64]
  have h3 : x &&& 15 = x % 16 := Nat.and_two_pow_sub_one_eq_mod x 4
  rw [h3]
  omega
def digitsB : ByteArray := ⟨#[48, 49, 50, 51, 52, 53, 54, 55, 56, 57, 97, 98, 99, 100, 101, 102, 103, 104, 105, 106, 107, 108, 109, 110, 111, 112, 113, 114, 115, 116, 117, 118, 119, 120, 121, 122]⟩
theorem digits_at : ∀ n : Nat, n < 16 → ∀ h : n < digitsB.size, digitsB[n] = dig n := by decide
theorem idx_digits (n : Nat) (h : n < 16) (w : World) : (Instr.index 9 (.string ⟨#[48, 49, 50, 51, 52, 53, 54, 55, 56, 57, 97, 98, 99, 100, 101, 102, 103, 104, 105, 106, 107, 108, 109, 110, 111, 112, 113, 114, 115, 116, 117, 118, 119, 120, 121, 122]⟩) (.int .u64 (n : Int))).run Tryz.prog w = .ok (.int .u8 ((dig n).toNat : Int)) w := by
  have hs : n < digitsB.size := by show n < 36; omega
  have e := digits_at n h hs
  rw [run_index_string w 9 _ .u64 _ Tryz.underlying9, dif_pos ⟨by omega, by show (n : Int) < 36; omega⟩]
  have e2 : ((n : Int)).toNat = n := by omega
  simp only [e2]
  rw [← e]; rfl

/-- The digits of u, of which those of x are still to be written, behind the place i. -/
def FmtH (u x i : Nat) (C : Array Value) : Prop := ∃ L, hexL u = hexL x ++ L ∧ C.toList.drop i = u8s L ∧ L.length = 65 - i
theorem drop_set (C : Array Value) (i : Nat) (v : Value) (h : i < C.size) : (C.setIfInBounds i v).toList.drop i = v :: C.toList.drop (i + 1) := by
  have hl : i < (C.setIfInBounds i v).toList.length := by simpa using h
  rw [List.drop_eq_getElem_cons hl]
  congr 1
  · simp
  · simp [List.drop_set]
theorem FmtH.bound {u x i : Nat} {C : Array Value} (h : FmtH u x i C) (hu : u < 4294967296) (hi : i ≤ 65) : 58 ≤ i := by
  obtain ⟨L, h1, h2, h3⟩ := h
  have h4 := (hexL_length hu).1
  have h5 := hexL_pos x
  rw [h1, List.length_append] at h4
  omega
theorem FmtH.step {u x i : Nat} {C : Array Value} (h : FmtH u x (i + 1) C) (hx : ¬ x < 16) (hs : C.size = 65) (hi : i < 65) : FmtH u (x / 16) i (C.setIfInBounds i (.int .u8 ((dig (x % 16)).toNat : Int))) := by
  obtain ⟨L, h1, h2, h3⟩ := h
  refine ⟨dig (x % 16) :: L, ?_, ?_, by simp; omega⟩
  · rw [h1, hexL_ge hx]; simp
  · rw [drop_set _ _ _ (by omega), h2]; rfl
theorem FmtH.last {u x i : Nat} {C : Array Value} (h : FmtH u x (i + 1) C) (hx : x < 16) (hs : C.size = 65) (hi : i < 65) : (C.setIfInBounds i (.int .u8 ((dig x).toNat : Int))).toList.drop i = u8s (hexL u) ∧ (hexL u).length = 65 - i := by
  obtain ⟨L, h1, h2, h3⟩ := h
  have e : hexL u = dig x :: L := by rw [h1, hexL_lt hx]; rfl
  rw [e]
  refine ⟨?_, by simp; omega⟩
  rw [drop_set _ _ _ (by omega), h2]; rfl
theorem zero65 : ZeroTy Tryz.prog 234 (Array.replicate 65 (.int .u8 0)) := by unfold ZeroTy; kernel_rfl

set_option maxHeartbeats 8000000 in
set_option maxRecDepth 100000 in
theorem formatBits_any (u : Nat) (hu : u < 4294967296) (w : World) (hT : w.cell? ⟨8, 15, none⟩ = some (.int .u8 4)) :
    Calls Tryz.prog 218 #[.slice none 0 0, .int .u64 u, .int .i64 16, .bool false, .bool false] w fun e w' => e = .returned (.tuple #[.slice none 0 0, .string ⟨(hexL u).toArray⟩]) ∧ Below w.heap.size w w' := by
  have hT1 : ∀ w', Below w.heap.size w w' → Calls Tryz.prog 235 #[.int .u64 16] w' fun e w'' => e = .returned (.int .i64 4) ∧ w'' = w' := fun w' hb => tz16_any w' ((hb.cell (p := ⟨8, 15, none⟩) (Lib.lt_of_cell hT)).trans hT)
  have HT := Lib.hid hT1
  clear hT1 hT
  go_enter Tryz.func218, Tryz.ntmps218
  go_upto_region 5 with (refine wpList_alloc_as rfl rfl zero65 ?_)
  have hA := Blk.new w (Array.replicate 65 (.int .u8 0)) 234
  have hbel := below1 w (.cells (Array.replicate 65 (.int .u8 0)) 234)
  have hF : FmtH u u 65 (Array.replicate 65 (.int .u8 0)) := ⟨[], by simp, by simp [u8s], rfl⟩
  have hS : (Array.replicate 65 (Value.int .u8 0)).size = 65 := by simp
  generalize Array.replicate 65 (Value.int .u8 0) = C at *
  generalize w.alloc (.cells C 234) = W at *
  have hz := HT.out W hbel
  go_wp2_with (first | (go_at_call 234; refine (isPow_any _).mono ?_; rintro e w' ⟨rfl, hw⟩; rw [hw]; clear hw w') | (go_at_call 235; refine hz.mono ?_; rintro e w' ⟨rfl, hw⟩; rw [hw]; clear hw w'))
  clear hz HT
  go_loopw [1, 13] (fun vu vi wr => ∃ (x i : Nat) (D : Array Value), vu = .int .u64 x ∧ vi = .int .i64 ((i : Int) + 1) ∧ Hid (FmtH u x (i + 1) D) ∧ 57 ≤ i ∧ i ≤ 64 ∧ x < 4294967296 ∧ Hid (D.size = 65) ∧ Blk wr w.heap.size D 234 ∧ Below w.heap.size w wr) (fun vu _ _ => (intOf vu).toNat)
  case atStart => exact ⟨u, 64, C, rfl, rfl, Lib.hid hF, by omega, by omega, hu, Lib.hid hS, hA, hbel⟩
  case round =>
    clear hF hS hA hbel
    obtain ⟨x, i, D, rfl, rfl, hF, hi0, hi1, hx, hS, hA, hbel⟩ := hrel
    have hc : ∃ v, D[i]? = some v := ⟨_, Array.getElem?_eq_getElem (by rw [hS.out]; omega)⟩
    obtain ⟨v, hv⟩ := hc
    have hcell := (hA.cell i).trans hv
    have hfree := hA.free i
    have bi0 : (0 : Int) ≤ i := by omega
    have bi1 : (i : Int) < 65 := by omega
    have h13 : (i : Int) + 1 - 1 = i := by omega
    clear hv
    by_cases hge : x < 16
    · have hlt : (x : Int) < 16 := by omega
      have hix := fun w' => idx_digits x hge w'
      have hL := hF.out.last hge hS.out (by omega)
      have hsl : ∀ W, (Instr.sliceAt 234 (.pointer (some ⟨w.heap.size, 0, none⟩)) (some (.int .i64 i)) none none).run Tryz.prog W = .ok (.slice (some ⟨w.heap.size, i, none⟩) (hexL u).length (65 - i)) W := fun W => by
        have hal : Tryz.prog.arrayLen 234 = 65 := by simp [Program.arrayLen, Tryz.underlying234]
        rw [run_sliceAt_array_l W 234 ⟨w.heap.size, 0, none⟩ (by simp [Program.arrayLen, Program.elem, Tryz.underlying234]) .i64 i (by omega) (by rw [hal]; omega)]
        go_simp
        omega
      have hcv := run_convert_bytes_back (P := Tryz.prog) (wr.setCell ⟨w.heap.size, i, none⟩ (.int .u8 ((dig x).toNat : Int))) 22 9 5 ⟨w.heap.size, i, none⟩ (65 - i) (hexL u) Tryz.underlying22 Tryz.underlying5 Tryz.underlying9 (fun j hj => by
        have hadd : (⟨w.heap.size, i, none⟩ : Addr).add j = ⟨w.heap.size, i + j, none⟩ := by unfold Addr.add; split <;> simp_all
        rw [hadd, (hA.setCell i _).cell]
        have e := congrArg (fun l => l[j]?) hL.1
        simp only [List.getElem?_drop, u8s, List.getElem?_map, List.getElem?_eq_getElem hj, Option.map_some] at e
        rw [← e]; simp only [← Array.getElem?_toList])
      clear hL
      go_wp2_with fail
      go_ret2
      exact ⟨rfl, hbel.setCell (Nat.le_refl _) _⟩
    · have hlt : ¬ (x : Int) < 16 := by omega
      have hN := hF.out.step hge hS.out (by omega)
      have h58 := hN.bound hu (by omega)
      have hix : ∀ w', (Instr.index 9 (.string ⟨#[48, 49, 50, 51, 52, 53, 54, 55, 56, 57, 97, 98, 99, 100, 101, 102, 103, 104, 105, 106, 107, 108, 109, 110, 111, 112, 113, 114, 115, 116, 117, 118, 119, 120, 121, 122]⟩) (.int .u64 ((x : Int) % 16))).run Tryz.prog w' = .ok (.int .u8 ((dig (x % 16)).toNat : Int)) w' := fun w' => by
        have h := idx_digits (x % 16) (Nat.mod_lt _ (by decide)) w'
        rwa [show ((x % 16 : Nat) : Int) = (x : Int) % 16 by omega] at h
      have hand : bits .and .u64 (x : Int) 15 = (x : Int) % 16 := by
        have h := and15 x hx
        rwa [show ((x % 16 : Nat) : Int) = (x : Int) % 16 by omega] at h
      have HN := Lib.hid hN
      clear hN
      go_wp2_with fail
      go_roundw
      case rel =>
        refine ⟨x / 16, i - 1, _, by go_num, by first | go_num | (congr 1; omega), ?_, by omega, by omega, by omega, ?_, hA.setCell i _, ?_⟩
        · rw [show i - 1 + 1 = i by omega]; exact HN
        · exact Lib.hid (by simpa using hS.out)
        · exact hbel.setCell (Nat.le_refl _) _
      case measure => simp [intOf]; omega
set_option maxRecDepth 100000 in
theorem formatUintI_any (u : Nat) (hu : u < 4294967296) (w : World) (hT : w.cell? ⟨8, 15, none⟩ = some (.int .u8 4)) :
    Calls Tryz.prog 188 #[.int .u64 u, .int .i64 16] w fun e w' => e = .returned (.string ⟨(hexL u).toArray⟩) ∧ Below w.heap.size w w' := by
  have h := formatBits_any u hu w hT
  clear hT
  go_enter Tryz.func188, Tryz.ntmps188
  go_wp2_with (go_at_call 218; refine h.mono ?_; rintro e w1 ⟨rfl, hb⟩)
  go_ret
  exact ⟨rfl, hb⟩
set_option maxRecDepth 100000 in
theorem formatUint_any (u : Nat) (hu : u < 4294967296) (w : World) (hT : w.cell? ⟨8, 15, none⟩ = some (.int .u8 4)) :
    Calls Tryz.prog 151 #[.int .u64 u, .int .i64 16] w fun e w' => e = .returned (.string ⟨(hexL u).toArray⟩) ∧ Below w.heap.size w w' := by
  have h := formatUintI_any u hu w hT
  clear hT
  go_enter Tryz.func151, Tryz.ntmps151
  go_wp2_with (go_at_call 188; refine h.mono ?_; rintro e w1 ⟨rfl, hb⟩)
  go_ret
  exact ⟨rfl, hb⟩
end Go.Proofs.YtglimhkpndfjgaaGreatDoor
