import Derived.Test.YtglimhkpndfjgaaMT12
import Derived.Test.YtglimhkpndfjgaaMT01
import Derived.Lib.Hide
import Derived.Laws.IdiomStrings
import Derived.Lib.AtoiErrMem
import Derived.WalkKit
import Derived.BigCall
import Derived.BigGuard
import Derived.Shelf.Strings.Builder1
import Derived.Shelf.Strings.Builder2
import Derived.Shelf.Small.Bits
import Derived.Shelf.Small.Strs
import Derived.Shelf.Strings.BuilderF
import Derived.Shelf.Strings.BuilderK
import Derived.Shelf.Utf8.RuneCount
import Derived.Shelf.Strings.Builder2Cap
import Derived.Shelf.Strconv.Itoa0
import Derived.Shelf.Strconv.Itoa1
import Derived.Shelf.LaysM
import Derived.Shelf.Strconv.Itoa2
import Derived.Shelf.Strconv.Itoa3
import Derived.Shelf.Strconv.Itoa4
import Derived.Shelf.Strconv.ParseIntEmpty
import Derived.Shelf.Strconv.Clone
import Derived.Shelf.Strconv.SyntaxError
import Derived.Shelf.LaysC
import Derived.Shelf.Strconv.ToError
import Derived.Shelf.Strconv.Lower
import Derived.Shelf.Strconv.ParseUint10
import Derived.Shelf.Strconv.ParseUint10Empty
import Derived.Shelf.Strconv.ParseUint10Any
import Derived.Shelf.Strconv.ParseInt10
import Derived.Shelf.Strconv.RangeError
import Derived.Shelf.Strconv.ToErrorRange
import Derived.Shelf.Strconv.ParseUintEmpty
import Derived.Shelf.Strconv.ParseUint10b64
import Derived.Shelf.Strconv.ParseUint10b32
import Derived.Shelf.Strconv.ParseUint10b16
import Derived.Shelf.Strconv.ParseUint10b8
import Derived.Shelf.Strconv.ParseUint10At
import Derived.Shelf.Strconv.ParseInt10At64
import Derived.Shelf.Strconv.ParseInt10At32
import Derived.Shelf.Strconv.ParseInt10At16
import Derived.Shelf.Strconv.ParseInt10At8
import Derived.Shelf.Strconv.ParseInt10All
import Derived.Shelf.Strconv.ParseIntPublic10
import Derived.Shelf.Strconv.ErrVarParseInt
import Derived.Ground.MpProg
import Derived.Shelf.Pu.ParseUintPublic10
import Derived.Shelf.Pu.ErrVarParseUint
import Derived.Shelf.Strings.Search1
import Derived.Shelf.Strings.Search2
import Derived.Shelf.Strings.Search3
import Derived.Shelf.Strings.Count
import Derived.Shelf.Strings.Shaped
import Derived.Shelf.Strings.Prefix
import Derived.Shelf.Strings.Split
import Derived.Shelf.Strings.SplitShaped
import Derived.Shelf.Unicode.Decode
import Derived.Shelf.Strings.RuneCount
import Derived.Shelf.Strings.Explode
import Derived.Shelf.Bits.Mul64
import Derived.Shelf.Strings.Repeat
import Derived.Shelf.Unicode.DecodeSlow
import Derived.Shelf.Unicode.DecodeAny
import Derived.Shelf.Strings.BuilderCap
import Derived.Test.YtglimhkpndfjgaaMT15
import Derived.Test.YtglimhkpndfjgaaMT11
import Derived.Test.YtglimhkpndfjgaaMT10
import Derived.Test.YtglimhkpndfjgaaMT14
import Derived.Lib.AppendIntMem
/- strconv.FormatUint at base 16: the walk of the library's text. -/
namespace Go.Proofs.Ytglimhkpndfjgaa
open Go.ChangeShapes Go.WideShapes Go.ChangeAt Go.RowKit
set_option linter.unusedVariables false
set_option linter.unusedSimpArgs false
attribute [local irreducible] Calls

/-- The cells of some bytes. -/
def u8s (l : List UInt8) : List Value := l.map fun c => .int .u8 c.toNat

theorem and15 (x : Nat) (h : x < 4294967296) : bits .and .u64 (x : Int) 15 = ((x % 16 : Nat) : Int) := by
  have h1 : (BitVec.ofInt 64 (x : Int)).toNat = x := by
    rw [BitVec.ofInt_natCast, BitVec.toNat_ofNat]; exact Nat.mod_eq_of_lt (by omega)
  have h2 : (BitVec.ofInt 64 (15 : Int)).toNat = 15 := by decide
  show IntKind.u64.wrap ((BitVec.ofInt 64 (x : Int) &&& BitVec.ofInt 64 (15 : Int)).toNat : Int) = _
  rw [BitVec.toNat_and, h1, h2, IntKind.wrap_u64]
  have h3 : x &&& 15 = x % 16 := Nat.and_two_pow_sub_one_eq_mod x 4
  rw [h3]
  omega
def digitsB : ByteArray := ⟨#[48, 49, 50, 51, 52, 53, 54, 55, 56, 57, 97, 98, 99, 100, 101, 102, 103, 104, 105, 106, 107, 108, 109, 110, 111, 112, 113, 114, 115, 116, 117, 118, 119, 120, 121, 122]⟩
theorem digits_at : ∀ n : Nat, n < 16 → ∀ h : n < digitsB.size, digitsB[n] = dig n := by decide
theorem idx_digits (n : Nat) (h : n < 16) (w : World) : (Instr.index 9 (.string ⟨#[48, 49, 50, 51, 52, 53, 54, 55, 56, 57, 97, 98, 99, 100, 101, 102, 103, 104, 105, 106, 107, 108, 109, 110, 111, 112, 113, 114, 115, 116, 117, 118, 119, 120, 121, 122]⟩) (.int .u64 (n : Int))).run Try.prog w = .ok (.int .u8 ((dig n).toNat : Int)) w := by
  have hs : n < digitsB.size := by show n < 36; omega
  have e := digits_at n h hs
  rw [run_index_string w 9 _ .u64 _ Try.underlying9, dif_pos ⟨by omega, by show (n : Int) < 36; omega⟩]
  have e2 : ((n : Int)).toNat = n := by omega
  simp only [e2]
  rw [← e]; rfl

/-- The digits of u, of which those of x are still to be written, behind the place i. -/
def FmtH (u x i : Nat) (C : Array Value) : Prop := ∃ L, hexL u = hexL x ++ L ∧ C.toList.drop i = u8s L ∧ L.length = 65 - i
theorem drop_set (C : Array Value) (i : Nat) (v : Value) (h : i < C.size) : (C.setIfInBounds i v).toList.drop i = v :: C.toList.drop (i + 1) := by
  have hl : i < (C.setIfInBounds i v).toList.length := by simpa using h
  rw [List.drop_eq_getElem_cons hl]
  congr 1
  · simp
  · simp [List.drop_set]
theorem FmtH.bound {u x i : Nat} {C : Array Value} (h : FmtH u x i C) (hu : u < 4294967296) (hi : i ≤ 65) : 58 ≤ i := by
  obtain ⟨L, h1, h2, h3⟩ := h
  have h4 := (hexL_length hu).1
  have h5 := hexL_pos x
  rw [h1, List.length_append] at h4
  omega
theorem FmtH.step {u x i : Nat} {C : Array Value} (h : FmtH u x (i + 1) C) (hx : ¬ x < 16) (hs : C.size = 65) (hi : i < 65) : FmtH u (x / 16) i (C.setIfInBounds i (.int .u8 ((dig (x % 16)).toNat : Int))) := by
  obtain ⟨L, h1, h2, h3⟩ := h
  refine ⟨dig (x % 16) :: L, ?_, ?_, by simp; omega⟩
  · rw [h1, hexL_ge hx]; simp
  · rw [drop_set _ _ _ (by omega), h2]; rfl
theorem FmtH.last {u x i : Nat} {C : Array Value} (h : FmtH u x (i + 1) C) (hx : x < 16) (hs : C.size = 65) (hi : i < 65) : (C.setIfInBounds i (.int .u8 ((dig x).toNat : Int))).toList.drop i = u8s (hexL u) ∧ (hexL u).length = 65 - i := by
  obtain ⟨L, h1, h2, h3⟩ := h
  have e : hexL u = dig x :: L := by rw [h1, hexL_lt hx]; rfl
  rw [e]
  refine ⟨?_, by simp; omega⟩
  rw [drop_set _ _ _ (by omega), h2]; rfl
end Go.Proofs.Ytglimhkpndfjgaa
/- This seat has no contracts of texts: the imports alone, so that the others find what they need. -/
namespace Go.Proofs.Ytglimhkpndfjgaa
end Go.Proofs.Ytglimhkpndfjgaa
/- NumberText and ReadNumber, in the program and in the reference: the walks. -/
namespace Go.Proofs.Ytglimhkpndfjgaa
open Go.ChangeShapes Go.WideShapes Go.ChangeAt Go.RowKit
set_option linter.unusedVariables false
set_option linter.unusedSimpArgs false
attribute [local irreducible] Calls

theorem run_n32bits (b : Nat) (w : World) : (callFunc 67 #[.float .f32 b]).run Try.prog w = .ok (.value (.int .u32 b)) w := by
  kernel_rfl
theorem repeat_zeros : ∀ k, Lib.repeatL [48] k = List.replicate k 48
  | 0 => rfl
  | k + 1 => by show [48] ++ Lib.repeatL [48] k = _; rw [repeat_zeros k]; rfl
theorem txt_nan {b : Nat} (h : isN .f32 b = true) : (⟨#[55, 102, 99, 48, 48, 48, 48, 48]⟩ : ByteArray) = ⟨(txt b).toArray⟩ := by
  unfold txt cn
  rw [cnk_of_nan h]
  decide
theorem txt_num {b : Nat} (h : isN .f32 b = false) (hb : b < 4294967296) : (⟨(List.replicate (8 - (hexL b).length) 48).toArray⟩ : ByteArray) ++ (⟨(hexL b).toArray⟩ : ByteArray) = ⟨(txt b).toArray⟩ := by
  unfold txt cn
  rw [cnk_of_not h, (hexL_length hb).2]
  show ByteArray.append _ _ = _
  rw [ByteArray.append_eq]
  apply congrArg ByteArray.mk
  simp
end Go.Proofs.Ytglimhkpndfjgaa
/- ReadNumber, in the program and in the reference: the walks. -/
namespace Go.Proofs.Ytglimhkpndfjgaa
open Go.ChangeShapes Go.WideShapes Go.ChangeAt Go.RowKit
set_option linter.unusedVariables false
set_option linter.unusedSimpArgs false
attribute [local irreducible] Calls

theorem str_ne (a : List UInt8) (s : ByteArray) : (decide ((⟨a.toArray⟩ : ByteArray) = s)) = decide (a = s.data.toList) := by
  by_cases h : a = s.data.toList
  · subst h; simp
  · rw [decide_eq_false h]
    apply decide_eq_false
    intro he
    apply h
    rw [← he]
theorem hexV_small {c : UInt8} {a d : Nat} (h : hexD c = some d) (k : Nat) (ha : a < 16 ^ k) : a * 16 + d < 16 ^ (k + 1) := by
  have := hexD_lt h
  rw [Nat.pow_succ]
  omega
theorem hexV_cons (a : Nat) (c : UInt8) (l : List UInt8) {d : Nat} (h : hexD c = some d) : hexV a (c :: l) = hexV (a * 16 + d) l := by
  rw [hexV, h]
theorem hexV_bad (a : Nat) (c : UInt8) (l : List UInt8) (h : hexD c = none) : hexV a (c :: l) = none := by
  rw [hexV, h]
end Go.Proofs.Ytglimhkpndfjgaa
/- Wells read from a text: plain laws; no statement is proved here. -/
namespace Go.Proofs.Ytglimhkpndfjgaa
open Go.ChangeShapes Go.WideShapes Go.ChangeAt Go.RowKit
set_option linter.unusedVariables false

def okWl (p : Wl) : Prop := (-100 ≤ p.px ∧ p.px ≤ 100) ∧ (-100 ≤ p.py ∧ p.py ≤ 100) ∧ plain p.rt = true ∧ p.rt < 4294967296
/-- Are wells valid? -/
def validL (n : Nat) (P : Nat → Wl) : Prop := n ≤ 12 ∧ ∀ i, i < n → okWl (P i)
theorem numL_plain {b : Nat} (h : plain b = true) (hb : b < 4294967296) : numL (txt b) = some b := by
  rw [numL_txt hb]
  unfold cn cnk
  rw [plain_numW h]
  rfl
theorem numB_txt {b : Nat} (h : plain b = true) (hb : b < 4294967296) : numB (txt b) = b ∧ numC (txt b) = 0 := by
  unfold numB numC; rw [numL_plain h hb]; exact ⟨rfl, rfl⟩
theorem numC_txt {l : List UInt8} (h : numC l = 0) : txt (numB l) = l ∧ numB l < 4294967296 := by
  unfold numC at h
  unfold numB
  cases hl : numL l with
  | none => rw [hl] at h; simp at h
  | some b =>
    have := numL_some hl
    exact ⟨this.2.2.2.2.symm, this.2.2.2.1⟩
theorem numB_lt (l : List UInt8) : numB l < 4294967296 := by
  unfold numB
  cases hl : numL l with
  | none => decide
  | some b => exact (numL_some hl).2.2.2.1
/-- A row's text without its end. -/
def rowV (p : Wl) : List UInt8 := glue 32 [Lib.itoa p.px, Lib.itoa p.py, txt p.rt]
def rowsV (P : Nat → Wl) (n : Nat) : List (List UInt8) := (List.range n).map fun i => rowV (P i)
def txtWl (P : Nat → Wl) : Nat → List UInt8
  | 0 => []
  | k + 1 => txtWl P k ++ (rowV (P k) ++ [10])
theorem txtWl_lined (P : Nat → Wl) : ∀ n, txtWl P n = lined 10 (rowsV P n)
  | 0 => rfl
  | n + 1 => by
    have ih := txtWl_lined P n
    unfold txtWl rowsV
    rw [List.range_succ, List.map_append]
    show _ = lined 10 (rowsV P n ++ [rowV (P n)])
    rw [lined_snoc, ih, List.append_assoc]
theorem txtWl_congr {P P' : Nat → Wl} : ∀ {n : Nat}, (∀ i, i < n → P i = P' i) → txtWl P n = txtWl P' n
  | 0, _ => rfl
  | n + 1, h => by unfold txtWl; rw [txtWl_congr (fun i hi => h i (by omega)), h n (by omega)]
theorem rowV_words {p : Wl} (h : p.rt < 4294967296) : splitL 32 (rowV p) = [Lib.itoa p.px, Lib.itoa p.py, txt p.rt] := by
  unfold rowV
  refine splitL_glue (by simp) fun a ha => ?_
  simp at ha
  rcases ha with rfl | rfl | rfl
  · exact itoa_not _ _ (by decide)
  · exact itoa_not _ _ (by decide)
  · exact txt_not _ h _ (by decide)
theorem rowV_not {p : Wl} (h : p.rt < 4294967296) : (10 : UInt8) ∉ rowV p := by
  have h1 := fun u => itoa_not u 10 (by decide)
  have h2 := txt_not p.rt h 10 (by decide)
  simp [rowV, glue, h1, h2]
theorem rowsV_not {P : Nat → Wl} {n : Nat} (h : ∀ i, i < n → (P i).rt < 4294967296) : ∀ a ∈ rowsV P n, (10 : UInt8) ∉ a := by
  intro a ha
  unfold rowsV at ha
  rw [List.mem_map] at ha
  obtain ⟨i, hi, rfl⟩ := ha
  exact rowV_not (h i (List.mem_range.1 hi))
theorem rowsV_len (P : Nat → Wl) (n : Nat) : (rowsV P n).length = n := by simp [rowsV]
theorem rowsV_get (P : Nat → Wl) (n i : Nat) (h : i < n) : (rowsV P n)[i]? = some (rowV (P i)) := by simp [rowsV, h]
theorem split_txtWl {P : Nat → Wl} {n : Nat} (h : ∀ i, i < n → (P i).rt < 4294967296) : splitL 10 (txtWl P n) = rowsV P n ++ [[]] := by
  rw [txtWl_lined]; exact splitL_lined (rowsV_not h)
def wlW (ws : List (List UInt8)) : Wl := ⟨sgV (ws.getD 0 []), sgV (ws.getD 1 []), numB (ws.getD 2 [])⟩
def rdL (l : List UInt8) (i : Nat) : Wl := wlW (wordsAt l i)
def in100 (z : Int) : Bool := decide (-100 ≤ z) && decide (z ≤ 100)
def okL (ws : List (List UInt8)) : Bool := sgB (ws.getD 0 []) && sgB (ws.getD 1 []) && in100 (sgV (ws.getD 0 [])) && in100 (sgV (ws.getD 1 [])) && decide (numC (ws.getD 2 []) = 0) && plain (numB (ws.getD 2 []))
def okLW (ws : List (List UInt8)) : Prop := ws.length = 3 ∧ okL ws = true
/-- Is a text that of wells? -/
def goodWl (l : List UInt8) : Prop := ∃ n P, validL n P ∧ l = txtWl P n
theorem wl_txt {P : Nat → Wl} {n : Nat} (h : validL n P) : rdN (txtWl P n) = n ∧ ∀ i, i < n → rdL (txtWl P n) i = P i ∧ okLW (wordsAt (txtWl P n) i) := by
  obtain ⟨h12, hp⟩ := h
  have hlt := fun i hi => (hp i hi).2.2.2
  refine ⟨by unfold rdN; rw [split_txtWl hlt]; simp [rowsV_len], fun i hi => ?_⟩
  have hw : wordsAt (txtWl P n) i = [Lib.itoa (P i).px, Lib.itoa (P i).py, txt (P i).rt] := by
    unfold wordsAt
    rw [split_txtWl hlt, List.getD_eq_getElem?_getD, List.getElem?_append_left (by rw [rowsV_len]; exact hi), rowsV_get _ _ _ hi]
    exact rowV_words (hlt i hi)
  obtain ⟨hx, hy, hpl, hlt'⟩ := hp i hi
  have s1 := sg_itoa (z := (P i).px) (by omega)
  have s2 := sg_itoa (z := (P i).py) (by omega)
  have s3 := numB_txt hpl hlt'
  refine ⟨?_, ?_⟩
  · unfold rdL wlW
    rw [hw]
    simp only [List.getD_cons_zero, List.getD_cons_succ, s1.1, s2.1, s3.1]
  · rw [hw]
    refine ⟨rfl, ?_⟩
    unfold okL in100
    simp only [List.getD_cons_zero, List.getD_cons_succ, s1.1, s1.2, s2.1, s2.2, s3.1, s3.2, hpl]
    simp; omega
theorem okLW_row {l : List UInt8} (h : okLW (splitL 32 l)) : rowV (wlW (splitL 32 l)) = l ∧ okWl (wlW (splitL 32 l)) := by
  have hg := glue_split 32 l
  obtain ⟨h1, h2⟩ := h
  generalize splitL 32 l = ws at *
  obtain ⟨a, b, c, rfl⟩ : ∃ a b c, ws = [a, b, c] := by
    match ws, h1 with
    | [a, b, c], _ => exact ⟨a, b, c, rfl⟩
  unfold okL in100 at h2
  simp only [List.getD_cons_zero, List.getD_cons_succ, Bool.and_eq_true, decide_eq_true_eq] at h2
  obtain ⟨⟨⟨⟨⟨s1, s2⟩, l1⟩, l2⟩, c3⟩, p3⟩ := h2
  have q1 := sg_some s1
  have q2 := sg_some s2
  have q3 := numC_txt c3
  unfold rowV wlW okWl
  simp only [List.getD_cons_zero, List.getD_cons_succ, q1, q2, q3.1]
  exact ⟨hg, l1, l2, p3, q3.2⟩
theorem goodWl_iff (l : List UInt8) : goodWl l ↔ ((splitL 10 l).getD (rdN l) [0] = [] ∧ (∀ i, i < rdN l → okLW (wordsAt l i)) ∧ rdN l ≤ 12) := by
  constructor
  · rintro ⟨n, P, h, rfl⟩
    obtain ⟨h1, h2⟩ := wl_txt h
    rw [h1]
    refine ⟨?_, fun i hi => (h2 i hi).2, h.1⟩
    rw [split_txtWl (fun i hi => (h.2 i hi).2.2.2), List.getD_eq_getElem?_getD, List.getElem?_append_right (by rw [rowsV_len]; exact Nat.le_refl _), rowsV_len, Nat.sub_self]; rfl
  · rintro ⟨h1, h2, h3⟩
    have hpos := List.length_pos_iff.2 (splitL_ne 10 l)
    have hn : rdN l + 1 = (splitL 10 l).length := by unfold rdN; omega
    have hrow := fun i (hi : i < rdN l) => okLW_row (l := (splitL 10 l).getD i []) (h2 i hi)
    refine ⟨rdN l, rdL l, ⟨h3, fun i hi => (hrow i hi).2⟩, ?_⟩
    rw [txtWl_lined]
    have hs : splitL 10 l = rowsV (rdL l) (rdN l) ++ [[]] := by
      apply List.ext_getElem?
      intro i
      by_cases hi : i < rdN l
      · rw [List.getElem?_append_left (by rw [rowsV_len]; exact hi), rowsV_get _ _ _ hi]
        have := (hrow i hi).1
        unfold rdL wordsAt
        rw [this, List.getD_eq_getElem?_getD, List.getElem?_eq_getElem (by omega)]; rfl
      · by_cases he : i = rdN l
        · subst he
          rw [List.getElem?_append_right (by rw [rowsV_len]; omega), rowsV_len, Nat.sub_self]
          rw [List.getD_eq_getElem?_getD, List.getElem?_eq_getElem (by omega)] at h1
          rw [List.getElem?_eq_getElem (by omega)]
          exact congrArg some h1
        · rw [List.getElem?_eq_none (by omega), List.getElem?_eq_none (by simp [rowsV_len]; omega)]
    exact (lined_of hs).symm
/-- A good text's lines, as the program finds them. -/
theorem lines_txtW {P : Nat → Wl} {n : Nat} (h : validL n P) : (linesL (txtWl P n)).length = n ∧ goodTo (txtWl P n) 3 12 n ∧ ∀ j, j < n → lineWs ((linesL (txtWl P n)).getD j []) = [Lib.itoa (P j).px, Lib.itoa (P j).py, txt (P j).rt] := by
  have hlt := fun i hi => (h.2 i hi).2.2.2
  have hl : linesL (txtWl P n) = (rowsV P n).map (· ++ [10]) := by rw [txtWl_lined]; exact linesL_lined _ (rowsV_not hlt)
  have hw : ∀ j, j < n → lineWs ((linesL (txtWl P n)).getD j []) = [Lib.itoa (P j).px, Lib.itoa (P j).py, txt (P j).rt] := fun j hj => by
    rw [hl, List.getD_eq_getElem?_getD, List.getElem?_map, rowsV_get _ _ _ hj]
    show lineWs (rowV (P j) ++ [10]) = _
    unfold lineWs
    rw [trim_end]
    exact rowV_words (hlt j hj)
  exact ⟨by rw [hl]; simp [rowsV_len], ⟨h.1, fun j hj => by rw [hw j hj]; rfl⟩, hw⟩
/-- The wells that the program reads off the lines' words. -/
def wlI (l : List UInt8) (j : Nat) : Wl := ⟨numZ (-100) 100 ((lineWs ((linesL l).getD j [])).getD 0 []), numZ (-100) 100 ((lineWs ((linesL l).getD j [])).getD 1 []), numB ((lineWs ((linesL l).getD j [])).getD 2 [])⟩
theorem wlI_in (l : List UInt8) (j : Nat) : (-100 ≤ (wlI l j).px ∧ (wlI l j).px ≤ 100) ∧ (-100 ≤ (wlI l j).py ∧ (wlI l j).py ≤ 100) ∧ (wlI l j).rt < 4294967296 :=
  ⟨numZ_in _ _ (by decide) _, numZ_in _ _ (by decide) _, numB_lt _⟩
theorem wlI_txt {P : Nat → Wl} {n : Nat} (h : validL n P) : ∀ j, j < n → wlI (txtWl P n) j = P j := fun j hj => by
  obtain ⟨hx, hy, hpl, hlt⟩ := h.2 j hj
  unfold wlI
  rw [(lines_txtW h).2.2 j hj]
  simp only [List.getD_cons_zero, List.getD_cons_succ]
  rw [numZ_itoa (z := (P j).px) (by omega) (by omega), numZ_itoa (z := (P j).py) (by omega) (by omega), (numB_txt hpl hlt).1]
/-- Is some well none? -/
def badL (p : Wl) : Bool := !plain p.rt
/-- What the program finds is what the reference finds. -/
theorem goodWl_I (l : List UInt8) : goodWl l ↔ (goodTo l 3 12 (linesL l).length ∧ anyTo badL (wlI l) (linesL l).length = false ∧ txtWl (wlI l) (linesL l).length = l) := by
  constructor
  · rintro ⟨n, P, h, rfl⟩
    obtain ⟨h1, h2, h3⟩ := lines_txtW h
    rw [h1]
    exact ⟨h2, anyTo_false.2 fun i hi => by rw [wlI_txt h i hi]; unfold badL; rw [(h.2 i hi).2.2.1]; rfl, txtWl_congr (wlI_txt h)⟩
  · rintro ⟨h1, h2, h3⟩
    refine ⟨(linesL l).length, wlI l, ⟨h1.1, fun i hi => ?_⟩, h3.symm⟩
    have h4 := anyTo_false.1 h2 i hi
    obtain ⟨a, b, c⟩ := wlI_in l i
    exact ⟨a, b, by unfold badL at h4; simpa using h4, c⟩
theorem goodWl_same {l : List UInt8} (h : goodWl l) : rdN l = (linesL l).length ∧ ∀ i, i < rdN l → rdL l i = wlI l i := by
  obtain ⟨n, P, h, rfl⟩ := h
  obtain ⟨h1, h2⟩ := wl_txt h
  obtain ⟨h3, h4, h5⟩ := lines_txtW h
  exact ⟨by rw [h1, h3], fun i hi => by rw [h1] at hi; rw [(h2 i hi).1, wlI_txt h i hi]⟩
open Classical in
/-- The code that goes with a text. -/
noncomputable def wlC (l : List UInt8) : Int := if goodWl l then 0 else 5
open Classical in
noncomputable def wlM (l : List UInt8) : Nat := if goodWl l then rdN l else 0
theorem wl_good {l : List UInt8} (h : goodWl l) : wlC l = 0 ∧ wlM l = rdN l := ⟨by unfold wlC; rw [if_pos h], by unfold wlM; rw [if_pos h]⟩
theorem wl_bad {l : List UInt8} (h : ¬ goodWl l) : wlC l = 5 ∧ wlM l = 0 := ⟨by unfold wlC; rw [if_neg h], by unfold wlM; rw [if_neg h]⟩
theorem wlM_le (l : List UInt8) : wlM l ≤ 12 ∧ ∀ i, i < wlM l → isN .f32 (rdL l i).rt = false := by
  by_cases h : goodWl l
  · rw [(wl_good h).2]
    have hi := (goodWl_iff l).1 h
    exact ⟨hi.2.2, fun i hi2 => plain_numW (okLW_row (l := (splitL 10 l).getD i []) (hi.2.1 i hi2)).2.2.2.1⟩
  · rw [(wl_bad h).2]; exact ⟨by omega, fun i hi => absurd hi (by omega)⟩
end Go.Proofs.Ytglimhkpndfjgaa
/- Draws of the sixth week: the words of an aquifer, of wells. -/
namespace Go.Proofs.Ytglimhkpndfjgaa
open Go.ChangeShapes Go.WideShapes Go.ChangeAt Go.RowKit
set_option linter.unusedVariables false
set_option linter.unusedSimpArgs false
attribute [local irreducible] Calls
def aqT (x : Nat) : Nat := (floatBits .quo .f32 (floatOfInt .f32 (1 + (x : Int))) 1098907648).getD 0
def aqS (x : Nat) : Nat := (floatBits .quo .f32 (floatOfInt .f32 (1 + (x : Int))) 1149239296).getD 0
def aqOk (t s : Nat) : Bool := fge t 981467136 && fle t 1233125376 && fge s 897581056 && fle s 1065353216
theorem aqT_all : ∀ x : Nat, x < 800 → (floatBits .quo .f32 (floatOfInt .f32 (1 + (x : Int))) 1098907648).isSome = true ∧ (117 * 8388608 ≤ aqT x ∧ aqT x ≤ 147 * 8388608) ∧ fge (aqT x) 981467136 = true ∧ fle (aqT x) 1233125376 = true := by
  have h : (List.range 800).all (fun (x : Nat) => (floatBits .quo .f32 (floatOfInt .f32 (1 + (x : Int))) 1098907648).isSome && ((decide (117 * 8388608 ≤ aqT x) && decide (aqT x ≤ 147 * 8388608)) && (fge (aqT x) 981467136 && fle (aqT x) 1233125376))) = true := by kernel_rfl
  intro x hx
  have := List.all_eq_true.1 h x (List.mem_range.2 hx)
  simpa [and_assoc] using this
theorem aqS_all : ∀ x : Nat, x < 500 → (floatBits .quo .f32 (floatOfInt .f32 (1 + (x : Int))) 1149239296).isSome = true ∧ (107 * 8388608 ≤ aqS x ∧ aqS x ≤ 127 * 8388608) ∧ fge (aqS x) 897581056 = true ∧ fle (aqS x) 1065353216 = true := by
  have h : (List.range 500).all (fun (x : Nat) => (floatBits .quo .f32 (floatOfInt .f32 (1 + (x : Int))) 1149239296).isSome && ((decide (107 * 8388608 ≤ aqS x) && decide (aqS x ≤ 127 * 8388608)) && (fge (aqS x) 897581056 && fle (aqS x) 1065353216))) = true := by kernel_rfl
  intro x hx
  have := List.all_eq_true.1 h x (List.mem_range.2 hx)
  simpa [and_assoc] using this
theorem aqT_is {x : Nat} (h : x < 800) : floatBits .quo .f32 (floatOfInt .f32 (1 + (x : Int))) 1098907648 = some (aqT x) := by
  obtain ⟨r, hr⟩ := Option.isSome_iff_exists.1 (aqT_all x h).1
  unfold aqT; rw [hr]; rfl
theorem aqS_is {x : Nat} (h : x < 500) : floatBits .quo .f32 (floatOfInt .f32 (1 + (x : Int))) 1149239296 = some (aqS x) := by
  obtain ⟨r, hr⟩ := Option.isSome_iff_exists.1 (aqS_all x h).1
  unfold aqS; rw [hr]; rfl
/-- A drawn aquifer. -/
structure AqD (T S : Nat) : Prop where
  aq : Aq T S
  ok : aqOk T S = true
theorem aqD_of {x y : Nat} (hx : x < 800) (hy : y < 500) : AqD (aqT x) (aqS y) := by
  obtain ⟨_, h1, h2, h3⟩ := aqT_all x hx
  obtain ⟨_, h4, h5, h6⟩ := aqS_all y hy
  exact ⟨⟨h1, h4⟩, by unfold aqOk; rw [h2, h3, h5, h6]; rfl⟩
/-! ### Wells. -/
/-- A drawn well: its place is near, its rate plain. -/
def WlD (p : Wl) : Prop := (-4 ≤ p.px ∧ p.px ≤ 11) ∧ (-4 ≤ p.py ∧ p.py ≤ 11) ∧ ∃ x, x < 6401 ∧ p.rt = numOf x
theorem numOf_all : ∀ x : Nat, x < 6401 → plain (numOf x) = true ∧ numOf x % 2147483648 ≤ 147 * 8388608 ∧ numOf x < 4294967296 := by
  have h : (List.range 6401).all (fun (x : Nat) => plain (numOf x) && (decide (numOf x % 2147483648 ≤ 147 * 8388608) && decide (numOf x < 4294967296))) = true := by kernel_rfl
  intro x hx
  have := List.all_eq_true.1 h x (List.mem_range.2 hx)
  simpa [and_assoc] using this
theorem WlD.ok {p : Wl} (h : WlD p) : okWl p := by
  obtain ⟨h1, h2, x, hx, h3⟩ := h
  obtain ⟨a, _, c⟩ := numOf_all x hx
  exact ⟨by omega, by omega, by rw [h3]; exact a, by rw [h3]; exact c⟩
theorem WlD.mg {p : Wl} (h : WlD p) : Mg p.rt 147 := by
  obtain ⟨_, _, x, hx, h3⟩ := h
  rw [h3]; exact (numOf_all x hx).2.1
end Go.Proofs.Ytglimhkpndfjgaa
/- ReadPermits, in the reference: the walk. -/
namespace Go.Proofs.Ytglimhkpndfjgaa
open Go.ChangeShapes Go.WideShapes Go.ChangeAt Go.RowKit
set_option linter.unusedVariables false
set_option linter.unusedSimpArgs false
attribute [local irreducible] Calls

theorem splitL_len_le (c : UInt8) : ∀ (l : List UInt8), ∀ a ∈ splitL c l, a.length ≤ l.length
  | [], a, h => by have h : a = [] := by simpa [splitL] using h
                   rw [h]; simp
  | x :: l, a, h => by
    have ih := splitL_len_le c l
    rw [splitL] at h
    split at h
    · rcases List.mem_cons.1 h with rfl | h
      · simp
      · have := ih a h; simp; omega
    · cases hs : splitL c l with
      | nil => exact absurd hs (splitL_ne c l)
      | cons b t =>
        rw [hs] at h ih
        rcases List.mem_cons.1 h with rfl | h
        · have := ih b List.mem_cons_self; simp; omega
        · have := ih a (List.mem_cons_of_mem _ h); simp; omega
theorem splitL_get_le (c : UInt8) (l : List UInt8) (i : Nat) : ((splitL c l).getD i []).length ≤ l.length := by
  rw [List.getD_eq_getElem?_getD]
  by_cases h : i < (splitL c l).length
  · rw [List.getElem?_eq_getElem h]; exact splitL_len_le c l _ (List.getElem_mem h)
  · rw [List.getElem?_eq_none (by omega)]; simp
theorem size_of (L : List UInt8) : (⟨L.toArray⟩ : ByteArray).size = L.length := by simp [ByteArray.size]
theorem wrap8 (n : Int) (h : 0 ≤ n ∧ n ≤ 127) : IntKind.i8.wrap n = n := by
  simp [IntKind.wrap, IntKind.bits, IntKind.signed]
  omega
theorem wrap16 (n : Int) (h : 0 ≤ n ∧ n ≤ 32767) : IntKind.i16.wrap n = n := by
  simp [IntKind.wrap, IntKind.bits, IntKind.signed]
  omega
theorem plain_rd {l : List UInt8} {n : Nat} (h : ∀ i, i < n → okW (wordsAt l i)) : plainPt n (rdP l) = decide (n ≤ 6) ∧ ∀ i, i < n → (rdP l i).ok := by
  have hb : ∀ i, i < n → (0 ≤ (rdP l i).own ∧ (rdP l i).own ≤ 7) ∧ (0 ≤ (rdP l i).cel ∧ (rdP l i).cel ≤ 63) ∧ (0 ≤ (rdP l i).rat ∧ (rdP l i).rat ≤ 400) := fun i hi => (okW_row (l := (splitL 10 l).getD i []) (h i hi)).2
  refine ⟨?_, fun i hi => by have := hb i hi; unfold Pm.ok; omega⟩
  unfold plainPt
  rw [anyTo_false.2 fun i hi => by
    have := hb i hi
    unfold badAny badOwner badCell badRate
    simp; omega]
  simp
theorem strs_getD {L : List (List UInt8)} {i : Nat} (h : i < L.length) : (strs L)[i]? = some (.string ⟨(L.getD i []).toArray⟩) := by
  apply strs_get; rw [List.getD_eq_getElem?_getD, List.getElem?_eq_getElem h]; rfl
end Go.Proofs.Ytglimhkpndfjgaa
/- ReadReadings, in the reference: the walk. -/
namespace Go.Proofs.Ytglimhkpndfjgaa
open Go.ChangeShapes Go.WideShapes Go.ChangeAt Go.RowKit
set_option linter.unusedVariables false
set_option linter.unusedSimpArgs false
attribute [local irreducible] Calls

theorem wrap16s (n : Int) (h : -32768 ≤ n ∧ n ≤ 32767) : IntKind.i16.wrap n = n := by
  simp [IntKind.wrap, IntKind.bits, IntKind.signed]
  omega
theorem decN_bd (l : List UInt8) : (decN l).getD 0 < 1000000000 := by
  cases h : decN l with
  | none => simp
  | some u => simpa using (decN_some h).2
theorem okT_prev2 {P : Nat → Rg} : ∀ {k : Nat}, okT P k = true → prevT P k ≤ 100000
  | 0, _ => by show (0 : Int) ≤ 100000; omega
  | k + 1, h => (okT_in h k (by omega)).2
set_option maxRecDepth 100000 in
set_option maxHeartbeats 400000 in
theorem l04Ok_any (n : Nat) (P : Nat → Rg) (v : Value) (w : World) (hv : RSl w v n P) :
    Calls Try.prog 65 #[v] w fun e w' => e = .returned (.bool (decide (n ≤ 40) && okT P n)) ∧ w' = w := by
  obtain ⟨a, c, rfl, hc1, hc2, hcell⟩ := hv
  unfold maxLen at hc2
  have HC := Lib.hid hcell
  clear hcell
  by_cases h40 : n ≤ 40
  · have i40 : ¬ (40 : Int) < n := by omega
    have HD : Hid ((decide (n ≤ 40) && okT P n) = okT P n) := Lib.hid (by rw [decide_eq_true h40]; rfl)
    clear h40
    go_enter Try.func65, Try.ntmps65
    go_upto_region 5 with fail
    go_loopw [3, 4] (fun vp vi wr => ∃ k : Nat, k ≤ n ∧ vi = .int .i64 k ∧ vp = .int .i64 (prevT P k) ∧ Hid (okT P k = true) ∧ wr = w) (fun _ vi _ => n - (intOf vi).toNat)
    case atStart => exact ⟨0, by omega, rfl, rfl, Lib.hid rfl, rfl⟩
    case round =>
      obtain ⟨k, hk, rfl, rfl, hok, rfl⟩ := hrel
      have bk : (0 : Int) ≤ k := by omega
      by_cases hlt : k < n
      · have bl : (k : Int) < n := by omega
        obtain ⟨b, o, rfl, hb, hcell⟩ := HC.out.resolve_left (by omega)
        have e0 := (hcell k 0 hlt (by omega)).trans (P k).get0
        have e0 : wr.cell? ⟨b, o + k * 2, none⟩ = some (.int .i64 (P k).tim) := e0
        clear hcell
        have q1 := okT_prev hok.out
        have q2 := okT_prev2 hok.out
        have wp : IntKind.i64.wrap (prevT P k + 1) = prevT P k + 1 := IntWalk.i64_in _ (by omega)
        have hin := fun w' => l00In_any (P k).tim (prevT P k + 1) 100000 w'
        have hpn : prevT P (k + 1) = (P k).tim := rfl
        have hst : okT P (k + 1) = (okT P k && (decide (prevT P k < (P k).tim) && decide ((P k).tim ≤ 100000))) := rfl
        have hde : decide (prevT P k < (P k).tim) = decide (prevT P k + 1 ≤ (P k).tim) := decide_eq_decide.2 (by omega)
        rw [hok.out, Bool.true_and, hde] at hst
        have HPN := Lib.hid hpn
        clear hde hpn q1 q2
        cases hd : (decide (prevT P k + 1 ≤ (P k).tim) && decide ((P k).tim ≤ 100000)) <;> rw [hd] at hin hst
        · have HF : Hid (okT P n = false) := Lib.hid (okT_false hst (by omega))
          clear hst hd
          go_wp2_with (go_at_call 30; refine (hin _).mono ?_; rintro e w' ⟨rfl, hw⟩; rw [hw]; clear hw w')
          go_ret
          exact ⟨bool_eq (by rw [HD.out, HF.out]), rfl⟩
        · have HF : Hid (okT P (k + 1) = true) := Lib.hid hst
          clear hst hd
          go_wp2_with (go_at_call 30; refine (hin _).mono ?_; rintro e w' ⟨rfl, hw⟩; rw [hw]; clear hw w')
          go_roundw
          case rel => exact ⟨k + 1, by omega, by go_num, by rw [HPN.out], HF, by first | rfl | trivial⟩
          case measure => simp [intOf]; omega
      · obtain rfl : k = n := by omega
        have HF : Hid (okT P k = true) := hok
        go_wp2_with fail
        go_ret
        exact ⟨bool_eq (by rw [HD.out, HF.out]), rfl⟩
  · have i40 : (40 : Int) < n := by omega
    have HD : Hid ((decide (n ≤ 40) && okT P n) = false) := Lib.hid (by rw [decide_eq_false h40]; rfl)
    clear h40
    go_enter Try.func65, Try.ntmps65
    go_wp2_with fail
    go_ret
    exact ⟨bool_eq HD.out.symm, rfl⟩
end Go.Proofs.Ytglimhkpndfjgaa
/- ReadWells, in the reference: the walk. -/
namespace Go.Proofs.Ytglimhkpndfjgaa
open Go.ChangeShapes Go.WideShapes Go.ChangeAt Go.RowKit
set_option linter.unusedVariables false
set_option linter.unusedSimpArgs false
attribute [local irreducible] Calls

theorem l03Place_any (n : Int) (w : World) :
    Calls Try.prog 57 #[.int .i64 n] w fun e w' => e = .returned (.bool (in100 n)) ∧ w' = w := by
  unfold in100
  go_enter Try.func57, Try.ntmps57
  go_wp2_with (go_at_call 30; refine (l00In_any _ _ _ _).mono ?_; rintro e w' ⟨rfl, rfl⟩)
  go_ret
  exact ⟨rfl, rfl⟩
set_option maxRecDepth 100000 in
set_option maxHeartbeats 400000 in
theorem l03Plain_any (b : Nat) (w : World) :
    Calls Try.prog 71 #[.float .f32 b] w fun e w' => e = .returned (.bool (plain b)) ∧ w' = w := by
  have h1 := fge_eq b 3380609024
  have h2 := fle_eq b 1233125376
  unfold plain
  cases hd : fge b 3380609024 <;> rw [hd] at h1
  · go_enter Try.func71, Try.ntmps71
    go_wp2_with fail
    go_ret
    exact ⟨rfl, rfl⟩
  · go_enter Try.func71, Try.ntmps71
    go_wp2_with fail
    go_ret
    exact ⟨rfl, rfl⟩
set_option maxRecDepth 100000 in
set_option maxHeartbeats 400000 in
theorem l03Ok_any (x y : Int) (r : Nat) (hx : -100 ≤ x ∧ x ≤ 100) (hy : -100 ≤ y ∧ y ≤ 100) (w : World) :
    Calls Try.prog 56 #[.agg #[.int .i8 x, .int .i8 y, .float .f32 r]] w fun e w' => e = .returned (.bool (plain r)) ∧ Below w.heap.size w w' := by
  have p1 := fun w' => l03Place_any x w'
  have p2 := fun w' => l03Place_any y w'
  have p3 := fun w' => l03Plain_any r w'
  have i1 : in100 x = true := by unfold in100; simp; omega
  have i2 : in100 y = true := by unfold in100; simp; omega
  rw [i1] at p1
  rw [i2] at p2
  clear i1 i2
  generalize plain r = b at *
  go_enter Try.func56, Try.ntmps56
  go_wp2_with (first | (go_at_call 57; first | (refine (p1 _).mono ?_; rintro e w' ⟨rfl, hw⟩; rw [hw]; clear hw w' p1) | (refine (p2 _).mono ?_; rintro e w' ⟨rfl, hw⟩; rw [hw]; clear hw w' p2)) | (go_at_call 71; refine (p3 _).mono ?_; rintro e w' ⟨rfl, hw⟩; rw [hw]; clear hw w'))
  go_ret
  exact ⟨rfl, below1 _ _⟩
theorem wrap8s (n : Int) (h : -128 ≤ n ∧ n ≤ 127) : IntKind.i8.wrap n = n := by
  simp [IntKind.wrap, IntKind.bits, IntKind.signed]
  omega
end Go.Proofs.Ytglimhkpndfjgaa
/- The text of permits, in the program and in the reference: the walks, continued. -/
namespace Go.Proofs.Ytglimhkpndfjgaa
open Go.ChangeShapes Go.WideShapes Go.ChangeAt Go.RowKit
set_option linter.unusedVariables false
set_option linter.unusedSimpArgs false
attribute [local irreducible] Calls
theorem str_nil : (⟨#[]⟩ : ByteArray) = ⟨([] : List UInt8).toArray⟩ := rfl
theorem tab_below {w w' : World} (h : Lib.TabIs Try.prog w "internal/strconv.uint64pow10" .u64 Lib.pow10Tab) (hb : Below w.heap.size w w') : Lib.TabIs Try.prog w' "internal/strconv.uint64pow10" .u64 Lib.pow10Tab :=
  Lib.tabBelow_of_tabIs h w' hb
end Go.Proofs.Ytglimhkpndfjgaa
/- ReadPermits, in the program: the walk. -/
namespace Go.Proofs.Ytglimhkpndfjgaa
open Go.ChangeShapes Go.WideShapes Go.ChangeAt Go.RowKit
set_option linter.unusedVariables false
set_option linter.unusedSimpArgs false
attribute [local irreducible] Calls

/-- The words of row j lie in memory. -/
def RowAt (B : Nat) (W : World) (g j : Nat) (ws : List (List UInt8)) : Prop :=
  ∃ b cap, W.cell? ⟨g, j, none⟩ = some (.slice (some ⟨b, 0, none⟩) 3 cap) ∧ 3 ≤ cap ∧ b < W.heap.size ∧ W.cell? ⟨b, 0, none⟩ = some (.string ⟨(ws.getD 0 []).toArray⟩) ∧ W.cell? ⟨b, 1, none⟩ = some (.string ⟨(ws.getD 1 []).toArray⟩) ∧ W.cell? ⟨b, 2, none⟩ = some (.string ⟨(ws.getD 2 []).toArray⟩)
theorem lineWs_le (l : List UInt8) (j i : Nat) : ((lineWs ((linesL l).getD j [])).getD i []).length ≤ l.length := by
  have h1 := splitL_get_le 32 (Lib.trimSuffix ((linesL l).getD j []) [10]) i
  have h2 : (Lib.trimSuffix ((linesL l).getD j []) [10]).length ≤ ((linesL l).getD j []).length := by
    unfold Lib.trimSuffix; split
    · simp
    · exact Nat.le_refl _
  have h3 : ((linesL l).getD j []).length ≤ l.length := by
    rw [List.getD_eq_getElem?_getD]
    by_cases hj : j < (linesL l).length
    · rw [List.getElem?_eq_getElem hj]
      have h := (leftL_step hj).1
      have hlen := leftL_len l j
      rw [h] at hlen; simp at hlen
      show (linesL l)[j].length ≤ _
      omega
    · rw [List.getElem?_eq_none (by omega)]; simp
  exact Nat.le_trans h1 (Nat.le_trans h2 h3)
end Go.Proofs.Ytglimhkpndfjgaa
