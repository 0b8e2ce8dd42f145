import Derived.Test.YtcojgmgoiopboaaGreatDoorMR19
import Derived.Test.YtcojgmgoiopboaaGreatDoorMR06
import Derived.Test.YtcojgmgoiopboaaGreatDoorMR18
import Derived.Lib.AppendIntMem
/- Readings read from a text: plain laws; no statement is proved here. -/
namespace Go.Proofs.YtcojgmgoiopboaaGreatDoor
open Go.ChangeShapes Go.WideShapes Go.ChangeAt Go.RowKit
set_option linter.unusedVariables false

theorem itoa_pos {z : Int} (h : 0 ≤ z) : Lib.itoa z = Lib.decDigits z.toNat := by unfold Lib.itoa; rw [if_neg (by omega)]
theorem itoa_neg {z : Int} (h : z < 0) : Lib.itoa z = 45 :: Lib.decDigits (-z).toNat := by
  unfold Lib.itoa
  rw [if_pos h]
  rw [show z.natAbs = (-z).toNat by omega]
/-- The number that the reference reads, maybe with a sign, and whether it reads one. -/
def sgV (l : List UInt8) : Int := if l.head? = some 45 then -(((decN l.tail).getD 0 : Nat) : Int) else (((decN l).getD 0 : Nat) : Int)
def sgB (l : List UInt8) : Bool := if l.head? = some 45 then (decN l.tail).isSome && decide (0 < (decN l.tail).getD 0) else (decN l).isSome
theorem digits_head (u : Nat) : (Lib.decDigits u).head? ≠ some 45 := by
  have h := decDigits_digits u u (Nat.le_refl _)
  cases hd : Lib.decDigits u with
  | nil => simp
  | cons c r =>
    rw [hd] at h
    have := h c (by simp)
    intro q
    have q : c = 45 := by simpa using q
    subst q
    revert this; decide
theorem sg_itoa {z : Int} (h : -32768 ≤ z ∧ z ≤ 32767) : sgV (Lib.itoa z) = z ∧ sgB (Lib.itoa z) = true := by
  by_cases hz : 0 ≤ z
  · rw [itoa_pos hz]
    unfold sgV sgB
    rw [if_neg (digits_head _), if_neg (digits_head _), decN_digits (by omega)]
    simp; omega
  · rw [itoa_neg (by omega)]
    have hd := decN_digits (u := (-z).toNat) (by omega)
    unfold sgV sgB
    simp only [List.head?_cons, if_true, List.tail_cons, hd, Option.getD_some, Option.isSome_some, Bool.true_and]
    simp; omega
theorem sg_some {l : List UInt8} (h : sgB l = true) : Lib.itoa (sgV l) = l := by
  unfold sgB at h
  unfold sgV
  split at h
  · rename_i hh
    rw [if_pos hh]
    cases l with
    | nil => cases hh
    | cons c r =>
      obtain rfl : c = 45 := by simpa using hh
      simp only [List.tail_cons, Bool.and_eq_true] at h ⊢
      obtain ⟨u, hu⟩ := Option.isSome_iff_exists.1 h.1
      have hu0 : 0 < u := by simpa [hu] using h.2
      simp only [hu, Option.getD_some] at h ⊢
      rw [itoa_neg (z := -((u : Nat) : Int)) (by omega), show (- -((u : Nat) : Int)).toNat = u by omega, (decN_some hu).1]
  · rename_i hh
    rw [if_neg hh]
    obtain ⟨u, hu⟩ := Option.isSome_iff_exists.1 h
    rw [hu]
    simp only [Option.getD_some]
    rw [itoa_pos (z := ((u : Nat) : Int)) (by omega), Int.toNat_natCast, (decN_some hu).1]
theorem intV_itoa {z : Int} (h : -32768 ≤ z ∧ z ≤ 100000) : intV (Lib.itoa z) = some z := by
  by_cases hz : 0 ≤ z
  · rw [itoa_pos hz, intV_digits (by omega)]
    congr 1; omega
  · rw [itoa_neg (by omega)]
    have hp := parseM_digits _ _ _ (decV_decDigits (-z).toNat _ (Nat.le_refl _)) (by omega)
    have hne : Lib.decDigits (-z).toNat ≠ [] := fun q => by have := decDigits_pos (-z).toNat; rw [q] at this; simp at this
    unfold intV Lib.parseIntB Lib.parseUintB
    have e : (if (45 : UInt8).toNat = 43 ∨ (45 : UInt8).toNat = 45 then Lib.decDigits (-z).toNat else 45 :: Lib.decDigits (-z).toNat) = Lib.decDigits (-z).toNat := by rw [if_pos (by decide)]
    simp only [e]
    rw [if_neg hne, hp]
    have h1 : ¬ (¬ (45 : UInt8).toNat = 45 ∧ 2 ^ (64 - 1) ≤ (-z).toNat) := fun q => q.1 rfl
    have h2 : ¬ ((45 : UInt8).toNat = 45 ∧ 2 ^ (64 - 1) < (-z).toNat) := by omega
    have h3 : (45 : UInt8).toNat = 45 := rfl
    simp only [if_neg h1, if_neg h2, if_pos h3]
    congr 1; omega
theorem numZ_itoa {lo hi z : Int} (h : lo ≤ z ∧ z ≤ hi) (hb : -32768 ≤ z ∧ z ≤ 100000) : numZ lo hi (Lib.itoa z) = z := by
  unfold numZ
  rw [intV_itoa hb]
  simp; omega
theorem numZ_bd (lo hi : Int) (h : 0 ≤ hi) (h2 : 0 ≤ lo) (l : List UInt8) : 0 ≤ numZ lo hi l ∧ numZ lo hi l ≤ hi := by
  unfold numZ
  split
  · split
    · rename_i h; simp at h; omega
    · omega
  · omega
theorem itoa_not (z : Int) (c : UInt8) (hc : c.toNat < 45) : c ∉ Lib.itoa z := by
  by_cases hz : 0 ≤ z
  · rw [itoa_pos hz]; exact decDigits_not _ _ (by omega)
  · rw [itoa_neg (by omega)]
    intro q
    rcases List.mem_cons.1 q with q | q
    · subst q; revert hc; decide
    · exact decDigits_not _ _ (by omega) q
/-- The time ahead of a reading. -/
def prevT (P : Nat → Rg) : Nat → Int
  | 0 => 0
  | k + 1 => (P k).tim
/-- Do the times rise? -/
def okT (P : Nat → Rg) : Nat → Bool
  | 0 => true
  | k + 1 => okT P k && (decide (prevT P k < (P k).tim) && decide ((P k).tim ≤ 100000))
theorem prevT_congr {P P' : Nat → Rg} : ∀ {k : Nat}, (∀ i, i < k → P i = P' i) → prevT P k = prevT P' k
  | 0, _ => rfl
  | k + 1, h => by show (P k).tim = (P' k).tim; rw [h k (by omega)]
theorem okT_congr {P P' : Nat → Rg} : ∀ {k : Nat}, (∀ i, i < k → P i = P' i) → okT P k = okT P' k
  | 0, _ => rfl
  | k + 1, h => by unfold okT; rw [okT_congr (fun i hi => h i (by omega)), prevT_congr (fun i hi => h i (by omega)), h k (by omega)]
theorem okT_prev {P : Nat → Rg} : ∀ {k : Nat}, okT P k = true → 0 ≤ prevT P k
  | 0, _ => by show (0 : Int) ≤ 0; omega
  | k + 1, h => by
    unfold okT at h
    simp only [Bool.and_eq_true, decide_eq_true_eq] at h
    have := okT_prev h.1
    show 0 ≤ (P k).tim
    omega
theorem okT_in {P : Nat → Rg} : ∀ {k : Nat}, okT P k = true → ∀ i, i < k → 1 ≤ (P i).tim ∧ (P i).tim ≤ 100000
  | 0, _, i, hi => by omega
  | k + 1, h, i, hi => by
    unfold okT at h
    simp only [Bool.and_eq_true, decide_eq_true_eq] at h
    by_cases hik : i < k
    · exact okT_in h.1 i hik
    · obtain rfl : i = k := by omega
      have := okT_prev h.1
      omega
theorem okT_false {P : Nat → Rg} {k : Nat} (h : okT P k = false) : ∀ {n : Nat}, k ≤ n → okT P n = false
  | 0, hn => by obtain rfl : k = 0 := by omega
                exact h
  | n + 1, hn => by
    by_cases e : k = n + 1
    · subst e; exact h
    · unfold okT; rw [okT_false h (n := n) (by omega)]; rfl
/-- Are readings valid, and does each number fit? -/
def validR (n : Nat) (P : Nat → Rg) : Prop := n ≤ 40 ∧ okT P n = true ∧ ∀ i, i < n → -32768 ≤ (P i).lev ∧ (P i).lev ≤ 32767
/-- A row's text without its end. -/
def rowG (p : Rg) : List UInt8 := glue 32 [Lib.itoa p.tim, Lib.itoa p.lev]
def rowsG (P : Nat → Rg) (n : Nat) : List (List UInt8) := (List.range n).map fun i => rowG (P i)
def txtRg (P : Nat → Rg) : Nat → List UInt8
  | 0 => []
  | k + 1 => txtRg P k ++ (rowG (P k) ++ [10])
theorem txtRg_lined (P : Nat → Rg) : ∀ n, txtRg P n = lined 10 (rowsG P n)
  | 0 => rfl
  | n + 1 => by
    have ih := txtRg_lined P n
    unfold txtRg rowsG
    rw [List.range_succ, List.map_append]
    show _ = lined 10 (rowsG P n ++ [rowG (P n)])
    rw [lined_snoc, ih, List.append_assoc]
theorem txtRg_congr {P P' : Nat → Rg} : ∀ {n : Nat}, (∀ i, i < n → P i = P' i) → txtRg P n = txtRg P' n
  | 0, _ => rfl
  | n + 1, h => by unfold txtRg; rw [txtRg_congr (fun i hi => h i (by omega)), h n (by omega)]
theorem rowG_words (p : Rg) : splitL 32 (rowG p) = [Lib.itoa p.tim, Lib.itoa p.lev] := by
  unfold rowG
  refine splitL_glue (by simp) fun a ha => ?_
  simp at ha
  rcases ha with rfl | rfl <;> exact itoa_not _ _ (by decide)
theorem rowG_not (p : Rg) : (10 : UInt8) ∉ rowG p := by
  have h := fun u => itoa_not u 10 (by decide)
  simp [rowG, glue, h]
theorem rowsG_not (P : Nat → Rg) (n : Nat) : ∀ a ∈ rowsG P n, (10 : UInt8) ∉ a := by
  intro a ha
  unfold rowsG at ha
  rw [List.mem_map] at ha
  obtain ⟨i, _, rfl⟩ := ha
  exact rowG_not _
theorem rowsG_len (P : Nat → Rg) (n : Nat) : (rowsG P n).length = n := by simp [rowsG]
theorem rowsG_get (P : Nat → Rg) (n i : Nat) (h : i < n) : (rowsG P n)[i]? = some (rowG (P i)) := by simp [rowsG, h]
theorem split_txtRg (P : Nat → Rg) (n : Nat) : splitL 10 (txtRg P n) = rowsG P n ++ [[]] := by
  rw [txtRg_lined]; exact splitL_lined (rowsG_not P n)
def rgW (ws : List (List UInt8)) : Rg := ⟨(((decN (ws.getD 0 [])).getD 0 : Nat) : Int), sgV (ws.getD 1 [])⟩
def rdG (l : List UInt8) (i : Nat) : Rg := rgW (wordsAt l i)
def okG (ws : List (List UInt8)) : Bool := (decN (ws.getD 0 [])).isSome && sgB (ws.getD 1 []) && (decide (-32768 ≤ sgV (ws.getD 1 [])) && decide (sgV (ws.getD 1 []) ≤ 32767))
def okGW (ws : List (List UInt8)) : Prop := ws.length = 2 ∧ okG ws = true
/-- Is a text that of readings? -/
def goodRg (l : List UInt8) : Prop := ∃ n P, validR n P ∧ l = txtRg P n
theorem rg_txt {P : Nat → Rg} {n : Nat} (h : validR n P) : rdN (txtRg P n) = n ∧ ∀ i, i < n → rdG (txtRg P n) i = P i ∧ okGW (wordsAt (txtRg P n) i) := by
  obtain ⟨h40, ht, hl⟩ := h
  refine ⟨by unfold rdN; rw [split_txtRg]; simp [rowsG_len], fun i hi => ?_⟩
  have hw : wordsAt (txtRg P n) i = [Lib.itoa (P i).tim, Lib.itoa (P i).lev] := by
    unfold wordsAt
    rw [split_txtRg, List.getD_eq_getElem?_getD, List.getElem?_append_left (by rw [rowsG_len]; exact hi), rowsG_get _ _ _ hi]
    exact rowG_words _
  have hti := okT_in ht i hi
  have hs := sg_itoa (hl i hi)
  have hli := hl i hi
  have d1 := decN_digits (u := (P i).tim.toNat) (by omega)
  rw [← itoa_pos (by omega)] at d1
  have e1 : (((P i).tim.toNat : Nat) : Int) = (P i).tim := by omega
  refine ⟨?_, ?_⟩
  · unfold rdG rgW
    rw [hw]
    simp only [List.getD_cons_zero, List.getD_cons_succ, d1, Option.getD_some, e1, hs.1]
  · rw [hw]
    refine ⟨rfl, ?_⟩
    unfold okG
    simp only [List.getD_cons_zero, List.getD_cons_succ, d1, Option.isSome_some, hs.1, hs.2]
    simp; omega
theorem okGW_row {l : List UInt8} (h : okGW (splitL 32 l)) : rowG (rgW (splitL 32 l)) = l ∧ (-32768 ≤ (rgW (splitL 32 l)).lev ∧ (rgW (splitL 32 l)).lev ≤ 32767) := by
  have hg := glue_split 32 l
  obtain ⟨h1, h2⟩ := h
  generalize splitL 32 l = ws at *
  obtain ⟨a, b, rfl⟩ : ∃ a b, ws = [a, b] := by
    match ws, h1 with
    | [a, b], _ => exact ⟨a, b, rfl⟩
  unfold okG at h2
  simp only [List.getD_cons_zero, List.getD_cons_succ, Bool.and_eq_true, decide_eq_true_eq] at h2
  obtain ⟨⟨s1, s2⟩, l1⟩ := h2
  obtain ⟨u1, e1⟩ := Option.isSome_iff_exists.1 s1
  have q1 := (decN_some e1).1
  have q2 := sg_some s2
  unfold rowG rgW
  simp only [List.getD_cons_zero, List.getD_cons_succ, e1, Option.getD_some, q2]
  rw [itoa_pos (z := ((u1 : Nat) : Int)) (by omega), Int.toNat_natCast, q1]
  exact ⟨hg, l1⟩
theorem goodRg_iff (l : List UInt8) : goodRg l ↔ ((splitL 10 l).getD (rdN l) [0] = [] ∧ (∀ i, i < rdN l → okGW (wordsAt l i)) ∧ rdN l ≤ 40 ∧ okT (rdG l) (rdN l) = true) := by
  constructor
  · rintro ⟨n, P, h, rfl⟩
    obtain ⟨h1, h2⟩ := rg_txt h
    rw [h1]
    refine ⟨?_, fun i hi => (h2 i hi).2, h.1, by rw [okT_congr fun i hi => (h2 i hi).1]; exact h.2.1⟩
    rw [split_txtRg, List.getD_eq_getElem?_getD, List.getElem?_append_right (by rw [rowsG_len]; exact Nat.le_refl _), rowsG_len, Nat.sub_self]; rfl
  · rintro ⟨h1, h2, h3, h4⟩
    have hpos := List.length_pos_iff.2 (splitL_ne 10 l)
    have hn : rdN l + 1 = (splitL 10 l).length := by unfold rdN; omega
    have hrow := fun i (hi : i < rdN l) => okGW_row (l := (splitL 10 l).getD i []) (h2 i hi)
    refine ⟨rdN l, rdG l, ⟨h3, h4, fun i hi => (hrow i hi).2⟩, ?_⟩
    rw [txtRg_lined]
    have hs : splitL 10 l = rowsG (rdG l) (rdN l) ++ [[]] := by
      apply List.ext_getElem?
      intro i
      by_cases hi : i < rdN l
      · rw [List.getElem?_append_left (by rw [rowsG_len]; exact hi), rowsG_get _ _ _ hi]
        have := (hrow i hi).1
        unfold rdG wordsAt
        rw [this, List.getD_eq_getElem?_getD, List.getElem?_eq_getElem (by omega)]; rfl
      · by_cases he : i = rdN l
        · subst he
          rw [List.getElem?_append_right (by rw [rowsG_len]; omega), rowsG_len, Nat.sub_self]
          rw [List.getD_eq_getElem?_getD, List.getElem?_eq_getElem (by omega)] at h1
          rw [List.getElem?_eq_getElem (by omega)]
          exact congrArg some h1
        · rw [List.getElem?_eq_none (by omega), List.getElem?_eq_none (by simp [rowsG_len]; omega)]
    exact (lined_of hs).symm
/-- A good text's lines, as the program finds them. -/
theorem lines_txtG {P : Nat → Rg} {n : Nat} (h : validR n P) : (linesL (txtRg P n)).length = n ∧ goodTo (txtRg P n) 2 40 n ∧ ∀ j, j < n → lineWs ((linesL (txtRg P n)).getD j []) = [Lib.itoa (P j).tim, Lib.itoa (P j).lev] := by
  have hl : linesL (txtRg P n) = (rowsG P n).map (· ++ [10]) := by rw [txtRg_lined]; exact linesL_lined _ (rowsG_not P n)
  have hw : ∀ j, j < n → lineWs ((linesL (txtRg P n)).getD j []) = [Lib.itoa (P j).tim, Lib.itoa (P j).lev] := fun j hj => by
    rw [hl, List.getD_eq_getElem?_getD, List.getElem?_map, rowsG_get _ _ _ hj]
    show lineWs (rowG (P j) ++ [10]) = _
    unfold lineWs
    rw [trim_end]
    exact rowG_words _
  exact ⟨by rw [hl]; simp [rowsG_len], ⟨h.1, fun j hj => by rw [hw j hj]; rfl⟩, hw⟩
/-- The readings that the program reads off the lines' words. -/
def rgI (l : List UInt8) (j : Nat) : Rg := ⟨numZ 1 100000 ((lineWs ((linesL l).getD j [])).getD 0 []), numZ (-32768) 32767 ((lineWs ((linesL l).getD j [])).getD 1 [])⟩
theorem rgI_in (l : List UInt8) (j : Nat) : (0 ≤ (rgI l j).tim ∧ (rgI l j).tim ≤ 100000) ∧ (-32768 ≤ (rgI l j).lev ∧ (rgI l j).lev ≤ 32767) :=
  ⟨numZ_bd _ _ (by decide) (by decide) _, numZ_in _ _ (by decide) _⟩
theorem rgI_txt {P : Nat → Rg} {n : Nat} (h : validR n P) : ∀ j, j < n → rgI (txtRg P n) j = P j := fun j hj => by
  have hti := okT_in h.2.1 j hj
  have hl := h.2.2 j hj
  unfold rgI
  rw [(lines_txtG h).2.2 j hj]
  simp only [List.getD_cons_zero, List.getD_cons_succ]
  rw [numZ_itoa (z := (P j).tim) (by omega) (by omega), numZ_itoa (z := (P j).lev) (by omega) (by omega)]
/-- What the program finds is what the reference finds. -/
theorem goodRg_I (l : List UInt8) : goodRg l ↔ (goodTo l 2 40 (linesL l).length ∧ okT (rgI l) (linesL l).length = true ∧ txtRg (rgI l) (linesL l).length = l) := by
  constructor
  · rintro ⟨n, P, h, rfl⟩
    obtain ⟨h1, h2, h3⟩ := lines_txtG h
    rw [h1]
    exact ⟨h2, by rw [okT_congr (rgI_txt h)]; exact h.2.1, txtRg_congr (rgI_txt h)⟩
  · rintro ⟨h1, h2, h3⟩
    exact ⟨(linesL l).length, rgI l, ⟨h1.1, h2, fun i _ => (rgI_in l i).2⟩, h3.symm⟩
theorem goodRg_same {l : List UInt8} (h : goodRg l) : rdN l = (linesL l).length ∧ ∀ i, i < rdN l → rdG l i = rgI l i := by
  obtain ⟨n, P, h, rfl⟩ := h
  obtain ⟨h1, h2⟩ := rg_txt h
  obtain ⟨h3, h4, h5⟩ := lines_txtG h
  exact ⟨by rw [h1, h3], fun i hi => by rw [h1] at hi; rw [(h2 i hi).1, rgI_txt h i hi]⟩
open Classical in
/-- The code that goes with a text. -/
noncomputable def rgC (l : List UInt8) : Int := if goodRg l then 0 else 5
open Classical in
noncomputable def rgM (l : List UInt8) : Nat := if goodRg l then rdN l else 0
theorem rg_good {l : List UInt8} (h : goodRg l) : rgC l = 0 ∧ rgM l = rdN l := ⟨by unfold rgC; rw [if_pos h], by unfold rgM; rw [if_pos h]⟩
theorem rg_bad {l : List UInt8} (h : ¬ goodRg l) : rgC l = 5 ∧ rgM l = 0 := ⟨by unfold rgC; rw [if_neg h], by unfold rgM; rw [if_neg h]⟩
theorem rgM_le (l : List UInt8) : rgM l ≤ 40 := by
  by_cases h : goodRg l
  · rw [(rg_good h).2]; exact ((goodRg_iff l).1 h).2.2.1
  · rw [(rg_bad h).2]; omega
end Go.Proofs.YtcojgmgoiopboaaGreatDoor
/- ReadPermits, in the reference: the walk. -/
namespace Go.Proofs.YtcojgmgoiopboaaGreatDoor
open Go.ChangeShapes Go.WideShapes Go.ChangeAt Go.RowKit
set_option linter.unusedVariables false
set_option linter.unusedSimpArgs false
attribute [local irreducible] Calls

theorem splitL_len_le (c : UInt8) : ∀ (l : List UInt8), ∀ a ∈ splitL c l, a.length ≤ l.length
  | [], a, h => by have h : a = [] := by simpa [splitL] using h
                   rw [h]; simp
  | x :: l, a, h => by
    have ih := splitL_len_le c l
    rw [splitL] at h
    split at h
    · rcases List.mem_cons.1 h with rfl | h
      · simp
      · have := ih a h; simp; omega
    · cases hs : splitL c l with
      | nil => exact absurd hs (splitL_ne c l)
      | cons b t =>
        rw [hs] at h ih
        rcases List.mem_cons.1 h with rfl | h
        · have := ih b List.mem_cons_self; simp; omega
        · have := ih a (List.mem_cons_of_mem _ h); simp; omega
theorem splitL_get_le (c : UInt8) (l : List UInt8) (i : Nat) : ((splitL c l).getD i []).length ≤ l.length := by
  rw [List.getD_eq_getElem?_getD]
  by_cases h : i < (splitL c l).length
  · rw [List.getElem?_eq_getElem h]; exact splitL_len_le c l _ (List.getElem_mem h)
  · rw [List.getElem?_eq_none (by omega)]; simp
theorem size_of (L : List UInt8) : (⟨L.toArray⟩ : ByteArray).size = L.length := by simp [ByteArray.size]
theorem wrap8 (n : Int) (h : 0 ≤ n ∧ n ≤ 127) : IntKind.i8.wrap n = n := by
  simp [IntKind.wrap, IntKind.bits, IntKind.signed]
  omega
theorem wrap16 (n : Int) (h : 0 ≤ n ∧ n ≤ 32767) : IntKind.i16.wrap n = n := by
  simp [IntKind.wrap, IntKind.bits, IntKind.signed]
  omega
theorem plain_rd {l : List UInt8} {n : Nat} (h : ∀ i, i < n → okW (wordsAt l i)) : plainPs n (rdP l) = decide (n ≤ 6) ∧ ∀ i, i < n → (rdP l i).ok := by
  have hb : ∀ i, i < n → (0 ≤ (rdP l i).own ∧ (rdP l i).own ≤ 7) ∧ (0 ≤ (rdP l i).cel ∧ (rdP l i).cel ≤ 63) ∧ (0 ≤ (rdP l i).rat ∧ (rdP l i).rat ≤ 400) := fun i hi => (okW_row (l := (splitL 10 l).getD i []) (h i hi)).2
  refine ⟨?_, fun i hi => by have := hb i hi; unfold Pm.ok; omega⟩
  unfold plainPs
  rw [anyTo_false.2 fun i hi => by
    have := hb i hi
    unfold badAny badOwner badCell badRate
    simp; omega]
  simp
theorem strs_getD {L : List (List UInt8)} {i : Nat} (h : i < L.length) : (strs L)[i]? = some (.string ⟨(L.getD i []).toArray⟩) := by
  apply strs_get; rw [List.getD_eq_getElem?_getD, List.getElem?_eq_getElem h]; rfl
end Go.Proofs.YtcojgmgoiopboaaGreatDoor
/- ReadReadings, in the reference: the walk. -/
namespace Go.Proofs.YtcojgmgoiopboaaGreatDoor
open Go.ChangeShapes Go.WideShapes Go.ChangeAt Go.RowKit
set_option linter.unusedVariables false
set_option linter.unusedSimpArgs false
attribute [local irreducible] Calls

theorem wrap16s (n : Int) (h : -32768 ≤ n ∧ n ≤ 32767) : IntKind.i16.wrap n = n := by
  simp [IntKind.wrap, IntKind.bits, IntKind.signed]
  omega
theorem decN_bd (l : List UInt8) : (decN l).getD 0 < 1000000000 := by
  cases h : decN l with
  | none => simp
  | some u => simpa using (decN_some h).2
set_option maxRecDepth 100000 in
set_option maxHeartbeats 4000000 in
theorem l03ReadSigned_any (s : ByteArray) (hs : s.size ≤ 1048576) (w : World) :
    Calls Tryz.prog 34 #[.string s] w fun e w' => e = .returned (.tuple #[.int .i64 (sgV s.data.toList), .bool (sgB s.data.toList)]) ∧ w' = w := by
  have hidx : ∀ (h : 0 < s.size) w', (Instr.index 9 (.string s) (.int .i64 0)).run Tryz.prog w' = .ok (.int .u8 ((s.data.toList.getD 0 0).toNat : Int)) w' := fun h w' => by
    rw [run_index_string w' 9 _ .i64 _ Tryz.underlying9, dif_pos ⟨by omega, by omega⟩]
    simp only [Int.toNat_zero]
    rw [List.getD_eq_getElem?_getD, List.getElem?_eq_getElem (show 0 < s.data.toList.length from h)]
    rfl
  have hn1 := fun w' => l01Number_any s hs w'
  have hl : s.data.toList.length = s.size := rfl
  have hsl : ∀ (h : 0 < s.size) W, (Instr.slice 9 (.string s) (some (.int .i64 1)) none none).run Tryz.prog W = .ok (.string (s.extract 1 s.size)) W := fun h W => by
    rw [run_slice_string_from_if W 9 s .i64 _ Tryz.underlying9, if_pos ⟨by omega, by omega⟩]
    rfl
  have hex : s.extract 1 s.size = ⟨(s.data.toList.tail).toArray⟩ := by
    rw [extract_eq]
    have : (s.data.toList.drop 1).take (s.size - 1) = s.data.toList.tail := by
      rw [List.take_of_length_le (by simp [hl]), List.drop_one]
    rw [this]
  have hn2 := fun w' => l01Number_any ⟨(s.data.toList.tail).toArray⟩ (by rw [size_of]; simp; omega) w'
  rw [show (⟨(s.data.toList.tail).toArray⟩ : ByteArray).data.toList = s.data.toList.tail by simp] at hn2
  rw [hex] at hsl
  have hem : s.toList.isEmpty = s.data.toList.isEmpty := by rw [ByteArray.toList_eq]
  clear hex
  generalize s.data.toList = l at *
  cases l with
  | nil =>
    have hE : s.toList.isEmpty = true := hem
    have hV : sgV [] = 0 ∧ sgB [] = false := ⟨by unfold sgV decN; simp, by unfold sgB decN; simp⟩
    have hD : decN [] = none := by unfold decN; simp
    rw [hV.1, hV.2]
    rw [hD] at hn1
    clear hem hV hD hn2 hsl hidx
    go_enter Tryz.func34, Tryz.ntmps34
    go_wp2_with (go_at_call 22; refine (hn1 _).mono ?_; rintro e w' ⟨rfl, hw⟩; rw [hw]; clear hw w')
    go_ret2
    exact ⟨rfl, rfl⟩
  | cons c r =>
    have hE : s.toList.isEmpty = false := hem
    have hp : 0 < s.size := by simp at hl; omega
    have hx := hidx hp
    have hs1 := hsl hp
    clear hidx hsl
    simp only [List.getD_cons_zero, List.tail_cons] at hx hs1 hn2
    by_cases hc : c = 45
    · have ic : ((c.toNat : Nat) : Int) = 45 := by rw [hc]; rfl
      have hb := decN_bd r
      have hV : sgV (c :: r) = -(((decN r).getD 0 : Nat) : Int) ∧ sgB (c :: r) = ((decN r).isSome && decide (0 < (decN r).getD 0)) := by
        subst hc; exact ⟨by unfold sgV; simp, by unfold sgB; rw [if_pos (show (45 :: r : List UInt8).head? = some 45 from rfl)]; rfl⟩
      rw [hV.1, hV.2]
      clear hV hem hl hn1 hc
      generalize (decN r).getD 0 = u at *
      generalize (decN r).isSome = b at *
      have wn : IntKind.i64.wrap (-(u : Int)) = -(u : Int) := IntWalk.i64_in _ (by omega)
      have hd : decide (0 < u) = decide ((0 : Int) < u) := by simp
      rw [hd]
      clear hd
      cases b <;> by_cases h0 : (0 : Int) < u
      all_goals (
        go_enter Tryz.func34, Tryz.ntmps34
        go_wp2_with (go_at_call 22; refine (hn2 _).mono ?_; rintro e w' ⟨rfl, hw⟩; rw [hw]; clear hw w')
        go_ret2
        exact ⟨by first | rfl | simp [h0], rfl⟩)
    · have ic : ¬ ((c.toNat : Nat) : Int) = 45 := fun q => hc (UInt8.toNat_inj.1 (by have : (45 : UInt8).toNat = 45 := rfl; omega))
      have hV : sgV (c :: r) = (((decN (c :: r)).getD 0 : Nat) : Int) ∧ sgB (c :: r) = (decN (c :: r)).isSome := by
        refine ⟨?_, ?_⟩
        · unfold sgV; rw [if_neg (by simpa using hc)]
        · unfold sgB; rw [if_neg (by simpa using hc)]
      rw [hV.1, hV.2]
      clear hV hem hl hn2 hc hs1
      generalize decN (c :: r) = D at *
      go_enter Tryz.func34, Tryz.ntmps34
      go_wp2_with (go_at_call 22; refine (hn1 _).mono ?_; rintro e w' ⟨rfl, hw⟩; rw [hw]; clear hw w')
      go_ret2
      exact ⟨rfl, rfl⟩
theorem okT_prev2 {P : Nat → Rg} : ∀ {k : Nat}, okT P k = true → prevT P k ≤ 100000
  | 0, _ => by show (0 : Int) ≤ 100000; omega
  | k + 1, h => (okT_in h k (by omega)).2
end Go.Proofs.YtcojgmgoiopboaaGreatDoor
/- The text of permits, in the program and in the reference: the walks, continued. -/
namespace Go.Proofs.YtcojgmgoiopboaaGreatDoor
open Go.ChangeShapes Go.WideShapes Go.ChangeAt Go.RowKit
set_option linter.unusedVariables false
set_option linter.unusedSimpArgs false
attribute [local irreducible] Calls
theorem str_nil : (⟨#[]⟩ : ByteArray) = ⟨([] : List UInt8).toArray⟩ := rfl
theorem tab_below {w w' : World} (h : Lib.TabIs Tryz.prog w "internal/strconv.uint64pow10" .u64 Lib.pow10Tab) (hb : Below w.heap.size w w') : Lib.TabIs Tryz.prog w' "internal/strconv.uint64pow10" .u64 Lib.pow10Tab :=
  Lib.tabBelow_of_tabIs h w' hb
end Go.Proofs.YtcojgmgoiopboaaGreatDoor
/- ReadPermits, in the program: the walk. -/
namespace Go.Proofs.YtcojgmgoiopboaaGreatDoor
open Go.ChangeShapes Go.WideShapes Go.ChangeAt Go.RowKit
set_option linter.unusedVariables false
set_option linter.unusedSimpArgs false
attribute [local irreducible] Calls

/-- The words of row j lie in memory. -/
def RowAt (B : Nat) (W : World) (g j : Nat) (ws : List (List UInt8)) : Prop :=
  ∃ b cap, W.cell? ⟨g, j, none⟩ = some (.slice (some ⟨b, 0, none⟩) 3 cap) ∧ 3 ≤ cap ∧ b < W.heap.size ∧ W.cell? ⟨b, 0, none⟩ = some (.string ⟨(ws.getD 0 []).toArray⟩) ∧ W.cell? ⟨b, 1, none⟩ = some (.string ⟨(ws.getD 1 []).toArray⟩) ∧ W.cell? ⟨b, 2, none⟩ = some (.string ⟨(ws.getD 2 []).toArray⟩)
theorem rows_of {w0 W : World} {l : List UInt8} {v : Value} {ok : Bool} (h : LinesRet w0 l 3 6 W v ok) :
    ∃ a n cap, v = .slice a n cap ∧ n ≤ 6 ∧ n ≤ cap ∧ ((goodTo l 3 6 (linesL l).length ∧ ok = true ∧ n = (linesL l).length) ∨ (¬ goodTo l 3 6 (linesL l).length ∧ ok = false ∧ n = 0)) ∧ (n = 0 ∨ ∃ g, a = some ⟨g, 0, none⟩ ∧ g < W.heap.size ∧ ∀ j, j < n → RowAt w0.heap.size W g j (lineWs ((linesL l).getD j []))) := by
  rcases h with ⟨hg, hok, g, vs, hg1, hO, hr⟩ | ⟨hg, hok, rfl⟩
  · obtain ⟨cap, rfl, hc1, hc2⟩ := hO.form
    refine ⟨_, _, _, rfl, hg.1, hc1, .inl ⟨hg, hok, rfl⟩, .inr ⟨g, rfl, hO.lt, fun j hj => ?_⟩⟩
    obtain ⟨b, u, h1, h2, h3⟩ := hr j hj
    have h3n := hg.2 j hj
    rw [h3n] at h3
    obtain ⟨cap3, rfl, hc3, hc4⟩ := h3.form
    have hget := fun i (hi : i < 3) => (h3.cell i (by omega)).trans (strs_getD (L := lineWs ((linesL l).getD j [])) (i := i) (by omega))
    exact ⟨b, cap3, (hO.cell j (by omega)).trans h1, hc3, h3.lt, hget 0 (by omega), hget 1 (by omega), hget 2 (by omega)⟩
  · exact ⟨none, 0, 0, rfl, by omega, by omega, .inr ⟨hg, hok, rfl⟩, .inl rfl⟩
theorem lineWs_le (l : List UInt8) (j i : Nat) : ((lineWs ((linesL l).getD j [])).getD i []).length ≤ l.length := by
  have h1 := splitL_get_le 32 (Lib.trimSuffix ((linesL l).getD j []) [10]) i
  have h2 : (Lib.trimSuffix ((linesL l).getD j []) [10]).length ≤ ((linesL l).getD j []).length := by
    unfold Lib.trimSuffix; split
    · simp
    · exact Nat.le_refl _
  have h3 : ((linesL l).getD j []).length ≤ l.length := by
    rw [List.getD_eq_getElem?_getD]
    by_cases hj : j < (linesL l).length
    · rw [List.getElem?_eq_getElem hj]
      have h := (leftL_step hj).1
      have hlen := leftL_len l j
      rw [h] at hlen; simp at hlen
      show (linesL l)[j].length ≤ _
      omega
    · rw [List.getElem?_eq_none (by omega)]; simp
  exact Nat.le_trans h1 (Nat.le_trans h2 h3)
end Go.Proofs.YtcojgmgoiopboaaGreatDoor
/- ReadReadings, in the program: the walk. -/
namespace Go.Proofs.YtcojgmgoiopboaaGreatDoor
open Go.ChangeShapes Go.WideShapes Go.ChangeAt Go.RowKit
set_option linter.unusedVariables false
set_option linter.unusedSimpArgs false
attribute [local irreducible] Calls

theorem decimalZ_any (n : Int) (h : -32768 ≤ n ∧ n ≤ 100000) (w : World) (htab : Lib.TabIs Tryz.prog w "internal/strconv.uint64pow10" .u64 Lib.pow10Tab) :
    Calls Tryz.prog 48 #[.int .i64 n] w fun e w' => e = .returned (.string ⟨(Lib.itoa n).toArray⟩) ∧ Below w.heap.size w w' := by
  have hf := sh_strconv_FormatInt_10 n (by omega) (by omega) w htab
  generalize Lib.itoa n = D at *
  clear h
  go_enter Tryz.func48, Tryz.ntmps48
  go_wp2_with (go_at_call 75; refine hf.mono ?_; rintro e w1 ⟨rfl, k, os, rfl⟩)
  go_ret
  exact ⟨rfl, below_grow w k os⟩
theorem itoa_len {z : Int} (h : -32768 ≤ z ∧ z ≤ 100000) : (Lib.itoa z).length ≤ 7 := by
  by_cases hz : 0 ≤ z
  · rw [itoa_pos hz]; have := decDigits_len_le 5 z.toNat (by omega); omega
  · rw [itoa_neg (by omega)]; have := decDigits_len_le 5 (-z).toNat (by omega); simp; omega
theorem txtRg_len {P : Nat → Rg} : ∀ {k : Nat}, (∀ i, i < k → (1 ≤ (P i).tim ∧ (P i).tim ≤ 100000) ∧ (-32768 ≤ (P i).lev ∧ (P i).lev ≤ 32767)) → (txtRg P k).length ≤ 16 * k
  | 0, _ => by simp [txtRg]
  | k + 1, h => by
    have ih := txtRg_len (P := P) (k := k) (fun i hi => h i (by omega))
    have h0 := h k (by omega)
    have h1 := itoa_len (z := (P k).tim) (by omega)
    have h2 := itoa_len (z := (P k).lev) (by omega)
    unfold txtRg rowG glue glue; simp; omega
/-- The list of times. -/
def tls (P : Nat → Rg) : Nat → List Value
  | 0 => []
  | k + 1 => tls P k ++ [.int .i64 (P k).tim]
theorem tls_len (P : Nat → Rg) : ∀ k, (tls P k).length = k
  | 0 => rfl
  | k + 1 => by unfold tls; simp [tls_len P k]
theorem tls_get (P : Nat → Rg) : ∀ (n i : Nat), i < n → (tls P n)[i]? = some (.int .i64 (P i).tim)
  | n + 1, i, h => by
    unfold tls
    by_cases hi : i < n
    · rw [List.getElem?_append_left (by rw [tls_len]; exact hi)]; exact tls_get P n i hi
    · obtain rfl : i = n := by omega
      rw [List.getElem?_append_right (by rw [tls_len]; exact Nat.le_refl _), tls_len, Nat.sub_self]; rfl
end Go.Proofs.YtcojgmgoiopboaaGreatDoor
