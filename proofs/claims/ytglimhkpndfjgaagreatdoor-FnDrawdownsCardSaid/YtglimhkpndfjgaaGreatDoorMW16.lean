import Derived.Test.YtglimhkpndfjgaaGreatDoorMW01
import Derived.Shelf.Strings.Builder1
import Derived.Shelf.Strings.Builder2
import Derived.Shelf.Small.Bits
import Derived.Shelf.Small.Strs
import Derived.Shelf.Strings.BuilderF
import Derived.Shelf.Strings.BuilderK
import Derived.Shelf.Utf8.RuneCount
import Derived.Shelf.Strings.Builder2Cap
import Derived.Shelf.Strconv.Itoa0
import Derived.Shelf.Strconv.Itoa1
import Derived.Shelf.LaysM
import Derived.Shelf.Strconv.Itoa2
import Derived.Shelf.Strconv.Itoa3
import Derived.Shelf.Strconv.Itoa4
import Derived.Shelf.Strconv.ParseIntEmpty
import Derived.Shelf.Strconv.Clone
import Derived.Shelf.Strconv.SyntaxError
import Derived.Shelf.LaysC
import Derived.Shelf.Strconv.ToError
import Derived.Shelf.Strconv.Lower
import Derived.Shelf.Strconv.ParseUint10
import Derived.Shelf.Strconv.ParseUint10Empty
import Derived.Shelf.Strconv.ParseUint10Any
import Derived.Shelf.Strconv.ParseInt10
import Derived.Shelf.Strconv.RangeError
import Derived.Shelf.Strconv.ToErrorRange
import Derived.Shelf.Strconv.ParseUintEmpty
import Derived.Shelf.Strconv.ParseUint10b64
import Derived.Shelf.Strconv.ParseUint10b32
import Derived.Shelf.Strconv.ParseUint10b16
import Derived.Shelf.Strconv.ParseUint10b8
import Derived.Shelf.Strconv.ParseUint10At
import Derived.Shelf.Strconv.ParseInt10At64
import Derived.Shelf.Strconv.ParseInt10At32
import Derived.Shelf.Strconv.ParseInt10At16
import Derived.Shelf.Strconv.ParseInt10At8
import Derived.Shelf.Strconv.ParseInt10All
import Derived.Shelf.Strconv.ParseIntPublic10
import Derived.Shelf.Strconv.ErrVarParseInt
import Derived.Ground.MpProg
import Derived.Shelf.Pu.ParseUintPublic10
import Derived.Shelf.Pu.ErrVarParseUint
import Derived.Shelf.Strings.Search1
import Derived.Shelf.Strings.Search2
import Derived.Shelf.Strings.Search3
import Derived.Shelf.Strings.Count
import Derived.Shelf.Strings.Shaped
import Derived.Shelf.Strings.Prefix
import Derived.Shelf.Strings.Split
import Derived.Shelf.Strings.SplitShaped
import Derived.Shelf.Unicode.Decode
import Derived.Shelf.Strings.RuneCount
import Derived.Shelf.Strings.Explode
import Derived.Shelf.Bits.Mul64
import Derived.Shelf.Strings.Repeat
import Derived.Shelf.Unicode.DecodeSlow
import Derived.Shelf.Unicode.DecodeAny
import Derived.Shelf.Strings.BuilderCap
import Derived.Test.YtglimhkpndfjgaaGreatDoorMW03
import Derived.Test.YtglimhkpndfjgaaGreatDoorMW15
import Derived.Lib.ItoaLen
import Derived.Test.YtglimhkpndfjgaaGreatDoorMW14
import Derived.Test.YtglimhkpndfjgaaGreatDoorMW11
import Derived.IntWalk
/- Contracts of the library's functions, laid at this program by the shelf's tool (numbers of this seat alone). -/
namespace Go.Proofs.YtglimhkpndfjgaaGreatDoor
open Go.Shelf
def sh_lays169_ren : Go.Shelf.Ren := ⟨fun | 169 => 124 | n => n, fun | 70 => 145 | 9 => 9 | 0 => 0 | 72 => 147 | 37 => 22 | 127 => 166 | 3 => 3 | 5 => 5 | n => n, fun | n => n⟩
theorem sh_lays169 : Go.Proofs.Lays.n169 Tryz.prog sh_lays169_ren := {
  mixed := by kernel_rfl
  f169 := Tryz.func124.trans (congrArg some (by kernel_rfl))
  t0 := Tryz.underlying0
  a0 := Tryz.isAgg0
  z0 := Tryz.sizeOf0
  v0 := Tryz.zeroValue0
  t3 := Tryz.underlying3
  a3 := Tryz.isAgg3
  z3 := Tryz.sizeOf3
  v3 := Tryz.zeroValue3
  t9 := Tryz.underlying9
  a9 := Tryz.isAgg9
  z9 := Tryz.sizeOf9
  v9 := Tryz.zeroValue9
  t37 := Tryz.underlying22
  a37 := Tryz.isAgg22
  z37 := Tryz.sizeOf22
  v37 := Tryz.zeroValue22
  t70 := Tryz.underlying145
  a70 := Tryz.isAgg145
  z70 := Tryz.sizeOf145
  v70 := Tryz.zeroValue145
  t72 := Tryz.underlying147
  a72 := Tryz.isAgg147
  z72 := Tryz.sizeOf147
  v72 := Tryz.zeroValue147
  t127 := Tryz.underlying166
  a127 := Tryz.isAgg166
  z127 := Tryz.sizeOf166
  v127 := Tryz.zeroValue166 }
theorem sh_Builder_Extra_169 : Builder.Extra Tryz.prog sh_lays169_ren := {
  sizeBuilder := by kernel_rfl
  liesBuilder := by kernel_rfl
  t5 := Tryz.underlying5
  a5 := Tryz.isAgg5
  z5 := Tryz.sizeOf5
  v5 := Tryz.zeroValue5
  infoByte := by kernel_rfl
  cellsByte := by kernel_rfl
  sizeByte := by kernel_rfl
  neB5 := by decide }
open Go.RowKit in
/-- (*strings.Builder).String: "String returns the accumulated string.": WHATEVER THE BUILDER HOLDS. (LAID: no walk: one application.) -/
theorem sh_Builder_String_any (B b : Nat) (l : List UInt8) (w : World) (h : Lib.IsBuilder 147 5 B b (Lib.byteCells l) w) (hBw : B ≤ w.heap.size) :
    Calls Tryz.prog 124 #[.pointer (some ⟨b, 0, none⟩)] w fun e w' => e = .returned (.string ⟨l.toArray⟩) ∧ Below B w w' := Any.Builder_String_any sh_lays169 sh_Builder_Extra_169 B b l w h hBw
def sh_laysM173_ren : Go.Shelf.Ren := ⟨fun | 173 => 155 | 246 => 194 | 283 => 215 | 284 => 216 | 285 => 217 | 286 => 218 | 129 => 174 | 317 => 232 | 318 => 233 | 319 => 234 | 320 => 235 | 337 => 238 | 338 => 239 | n => n, fun | 2 => 2 | 3 => 3 | 9 => 9 | 4 => 4 | 171 => 217 | 0 => 0 | 53 => 126 | 37 => 22 | 5 => 5 | 173 => 219 | 212 => 233 | 51 => 140 | 20 => 20 | 213 => 234 | 46 => 157 | 232 => 242 | 233 => 243 | n => n, fun | 17 => 4 | 18 => 7 | 19 => 8 | n => n⟩
theorem sh_laysM173 : Go.Proofs.LaysM.n173 Tryz.prog sh_laysM173_ren := {
  mixed := by kernel_rfl
  f129 := Tryz.func174.trans (congrArg some (by kernel_rfl))
  f173 := Tryz.func155.trans (congrArg some (by kernel_rfl))
  f246 := Tryz.func194.trans (congrArg some (by kernel_rfl))
  f283 := Tryz.func215.trans (congrArg some (by kernel_rfl))
  f284 := Tryz.func216.trans (congrArg some (by kernel_rfl))
  f285 := Tryz.func217.trans (congrArg some (by kernel_rfl))
  f286 := Tryz.func218.trans (congrArg some (by kernel_rfl))
  f317 := Tryz.func232.trans (congrArg some (by kernel_rfl))
  f318 := Tryz.func233.trans (congrArg some (by kernel_rfl))
  f319 := Tryz.func234.trans (congrArg some (by kernel_rfl))
  f320 := Tryz.func235.trans (congrArg some (by kernel_rfl))
  f337 := Tryz.func238.trans (congrArg some (by kernel_rfl))
  f338 := Tryz.func239.trans (congrArg some (by kernel_rfl))
  t0 := Tryz.underlying0
  a0 := Tryz.isAgg0
  z0 := Tryz.sizeOf0
  v0 := Tryz.zeroValue0
  t2 := Tryz.underlying2
  a2 := Tryz.isAgg2
  z2 := Tryz.sizeOf2
  v2 := Tryz.zeroValue2
  t3 := Tryz.underlying3
  a3 := Tryz.isAgg3
  z3 := Tryz.sizeOf3
  v3 := Tryz.zeroValue3
  t4 := Tryz.underlying4
  a4 := Tryz.isAgg4
  z4 := Tryz.sizeOf4
  v4 := Tryz.zeroValue4
  t5 := Tryz.underlying5
  a5 := Tryz.isAgg5
  z5 := Tryz.sizeOf5
  v5 := Tryz.zeroValue5
  t9 := Tryz.underlying9
  a9 := Tryz.isAgg9
  z9 := Tryz.sizeOf9
  v9 := Tryz.zeroValue9
  t20 := Tryz.underlying20
  a20 := Tryz.isAgg20
  z20 := Tryz.sizeOf20
  v20 := Tryz.zeroValue20
  t37 := Tryz.underlying22
  a37 := Tryz.isAgg22
  z37 := Tryz.sizeOf22
  v37 := Tryz.zeroValue22
  t46 := Tryz.underlying157
  a46 := Tryz.isAgg157
  z46 := Tryz.sizeOf157
  v46 := Tryz.zeroValue157
  t51 := Tryz.underlying140
  a51 := Tryz.isAgg140
  z51 := Tryz.sizeOf140
  v51 := Tryz.zeroValue140
  t53 := Tryz.underlying126
  a53 := Tryz.isAgg126
  z53 := Tryz.sizeOf126
  v53 := Tryz.zeroValue126
  t171 := Tryz.underlying217
  a171 := Tryz.isAgg217
  z171 := Tryz.sizeOf217
  v171 := Tryz.zeroValue217
  t173 := Tryz.underlying219
  a173 := Tryz.isAgg219
  z173 := Tryz.sizeOf219
  v173 := Tryz.zeroValue219
  t212 := Tryz.underlying233
  a212 := Tryz.isAgg233
  z212 := Tryz.sizeOf233
  v212 := Tryz.zeroValue233
  t213 := Tryz.underlying234
  a213 := Tryz.isAgg234
  z213 := Tryz.sizeOf234
  t232 := Tryz.underlying242
  a232 := Tryz.isAgg242
  z232 := Tryz.sizeOf242
  v232 := Tryz.zeroValue242
  t233 := Tryz.underlying243
  a233 := Tryz.isAgg243
  z233 := Tryz.sizeOf243
  v233 := Tryz.zeroValue243
  g17 := by kernel_rfl
  g18 := by kernel_rfl
  g19 := by kernel_rfl
  i0 := by kernel_rfl
  i2 := by kernel_rfl
  i3 := by kernel_rfl
  i4 := by kernel_rfl
  i5 := by kernel_rfl
  i9 := by kernel_rfl
  i20 := by kernel_rfl
  i37 := by kernel_rfl
  i46 := by kernel_rfl
  i51 := by kernel_rfl
  i53 := by kernel_rfl
  i171 := by kernel_rfl
  i173 := by kernel_rfl
  i212 := by kernel_rfl
  i232 := by kernel_rfl
  i233 := by kernel_rfl
  m17 := by kernel_rfl
  m18 := by kernel_rfl
  m19 := by kernel_rfl }
open Go.RowKit Go.Sort Go.Lib in
/-- strconv.FormatInt: "FormatInt returns the string representation of i in the given base": AT BASE 10: i's decimal numeral, for every int64. (LAID: no walk: one application.) -/
theorem sh_strconv_FormatInt_10 (n : Int) (h0 : -9223372036854775808 ≤ n) (h1 : n ≤ 9223372036854775807) (w : World) (htab : Lib.TabIs Tryz.prog w "internal/strconv.uint64pow10" .u64 Lib.pow10Tab) :
    Calls Tryz.prog 155 #[.int .i64 n, .int .i64 10] w fun e w' => e = .returned (.string ⟨(Lib.itoa n).toArray⟩) ∧ ∃ k os, w' = grow (w.drewN k) os := Any.strconv_FormatInt_10 sh_laysM173 n h0 h1 w htab
end Go.Proofs.YtglimhkpndfjgaaGreatDoor
/- The text of permits, in the program and in the reference: the walks. -/
namespace Go.Proofs.YtglimhkpndfjgaaGreatDoor
open Go.ChangeShapes Go.WideShapes Go.ChangeAt Go.RowKit
set_option linter.unusedVariables false
set_option linter.unusedSimpArgs false
attribute [local irreducible] Calls

def badCell (p : Pm) : Bool := !decide (0 ≤ p.cel) || !decide (p.cel ≤ 63)
def badOC (p : Pm) : Bool := badOwner p || badCell p
def badAny (p : Pm) : Bool := badOwner p || badCell p || badRate p
/-- Have permits a text? -/
def plainPt (n : Nat) (P : Nat → Pm) : Bool := decide (n ≤ 6) && !anyTo badAny P n
theorem plainPt_eq (n : Nat) (P : Nat → Pm) : plainPt n P = (ratesAre n P && !anyTo badOC P n) := by
  unfold plainPt ratesAre
  cases h6 : decide (n ≤ 6)
  · rfl
  · simp only [Bool.true_and]
    cases h : anyTo badAny P n
    · have h1 := anyTo_false.1 h
      have h2 : anyTo badRate P n = false := anyTo_false.2 fun i hi => by
        have := h1 i hi; unfold badAny at this; simp only [Bool.or_eq_false_iff] at this; exact this.2
      have h3 : anyTo badOC P n = false := anyTo_false.2 fun i hi => by
        have := h1 i hi; unfold badAny at this; simp only [Bool.or_eq_false_iff] at this; unfold badOC; simp [this.1.1, this.1.2]
      rw [h2, h3]; rfl
    · cases h2 : anyTo badRate P n
      · cases h3 : anyTo badOC P n
        · have : anyTo badAny P n = false := anyTo_false.2 fun i hi => by
            have q2 := anyTo_false.1 h2 i hi
            have q3 := anyTo_false.1 h3 i hi
            unfold badOC at q3
            simp only [Bool.or_eq_false_iff] at q3
            unfold badAny
            simp [q2, q3.1, q3.2]
          rw [this] at h; cases h
        · rfl
      · rfl
theorem plainPt_parts {n : Nat} {P : Nat → Pm} (h : plainPt n P = true) : n ≤ 6 ∧ ∀ i, i < n → (0 ≤ (P i).own ∧ (P i).own ≤ 7) ∧ (0 ≤ (P i).cel ∧ (P i).cel ≤ 63) ∧ (0 ≤ (P i).rat ∧ (P i).rat ≤ 400) := by
  unfold plainPt at h
  simp only [Bool.and_eq_true, decide_eq_true_eq, Bool.not_eq_true'] at h
  refine ⟨h.1, fun i hi => ?_⟩
  have := anyTo_false.1 h.2 i hi
  unfold badAny badOwner badCell badRate at this
  simp only [Bool.or_eq_false_iff, Bool.not_eq_false', decide_eq_true_eq] at this
  omega
/-- A permit's row. -/
def rowPm (p : Pm) : List UInt8 := (((((Lib.decDigits p.own.toNat ++ ([32] : List UInt8)) ++ Lib.decDigits p.cel.toNat) ++ ([32] : List UInt8)) ++ Lib.decDigits p.rat.toNat) ++ ([10] : List UInt8))
def txtPm (P : Nat → Pm) : Nat → List UInt8
  | 0 => []
  | k + 1 => txtPm P k ++ rowPm (P k)
theorem dec_len {x : Int} (h : 0 ≤ x ∧ x ≤ 400) : (Lib.decDigits x.toNat).length ≤ 3 := decDigits_len_le 2 _ (by omega)
theorem rowPm_len {p : Pm} (h : (0 ≤ p.own ∧ p.own ≤ 7) ∧ (0 ≤ p.cel ∧ p.cel ≤ 63) ∧ (0 ≤ p.rat ∧ p.rat ≤ 400)) : (rowPm p).length ≤ 12 := by
  unfold rowPm
  have h1 := dec_len (x := p.own) (by omega)
  have h2 := dec_len (x := p.cel) (by omega)
  have h3 := dec_len (x := p.rat) (by omega)
  simp; omega
theorem txtPm_len {P : Nat → Pm} : ∀ {k : Nat}, (∀ i, i < k → (0 ≤ (P i).own ∧ (P i).own ≤ 7) ∧ (0 ≤ (P i).cel ∧ (P i).cel ≤ 63) ∧ (0 ≤ (P i).rat ∧ (P i).rat ≤ 400)) → (txtPm P k).length ≤ 12 * k
  | 0, _ => by simp [txtPm]
  | k + 1, h => by
    have ih := txtPm_len (P := P) (k := k) (fun i hi => h i (by omega))
    have := rowPm_len (h k (by omega))
    unfold txtPm; simp; omega
theorem below_grow (w : World) (k : Nat) (os : Array Obj) : Below w.heap.size w (Sort.grow (w.drewN k) os) :=
  ⟨rfl, rfl, rfl, by simp [Sort.grow], fun j hj => by simp [Sort.grow, Array.getElem?_append, hj]⟩
theorem decimalI_any (n : Int) (h0 : 0 ≤ n) (h1 : n ≤ 400) (w : World) (htab : Lib.TabIs Tryz.prog w "internal/strconv.uint64pow10" .u64 Lib.pow10Tab) :
    Calls Tryz.prog 123 #[.int .i64 n] w fun e w' => e = .returned (.string ⟨(Lib.decDigits n.toNat).toArray⟩) ∧ Below w.heap.size w w' := by
  have h := sh_strconv_FormatInt_10 n (by omega) (by omega) w htab
  have hn : Lib.itoa n = Lib.decDigits n.toNat := by unfold Lib.itoa; rw [if_neg (by omega)]
  rw [hn] at h
  generalize Lib.decDigits n.toNat = D at *
  clear hn
  go_enter Tryz.func123, Tryz.ntmps123
  go_wp2_with (go_at_call 155; refine h.mono ?_; rintro e w1 ⟨rfl, k, os, rfl⟩)
  go_ret
  exact ⟨rfl, below_grow w k os⟩
end Go.Proofs.YtglimhkpndfjgaaGreatDoor
/- Permits read from a text: plain laws; no statement is proved here. -/
namespace Go.Proofs.YtglimhkpndfjgaaGreatDoor
open Go.ChangeShapes Go.WideShapes Go.ChangeAt Go.RowKit
set_option linter.unusedVariables false

/-- A row's text without its end. -/
def rowL (p : Pm) : List UInt8 := glue 32 [Lib.decDigits p.own.toNat, Lib.decDigits p.cel.toNat, Lib.decDigits p.rat.toNat]
theorem rowPm_eq (p : Pm) : rowPm p = rowL p ++ [10] := by simp [rowPm, rowL, glue]
def rowsL (P : Nat → Pm) (n : Nat) : List (List UInt8) := (List.range n).map fun i => rowL (P i)
theorem txtPm_lined (P : Nat → Pm) : ∀ n, txtPm P n = lined 10 (rowsL P n)
  | 0 => rfl
  | n + 1 => by
    have ih := txtPm_lined P n
    unfold txtPm rowsL
    rw [List.range_succ, List.map_append]
    show _ = lined 10 (rowsL P n ++ [rowL (P n)])
    rw [lined_snoc, ih, rowPm_eq, List.append_assoc]
theorem rowL_words (p : Pm) : splitL 32 (rowL p) = [Lib.decDigits p.own.toNat, Lib.decDigits p.cel.toNat, Lib.decDigits p.rat.toNat] := by
  unfold rowL
  refine splitL_glue (by simp) fun a ha => ?_
  simp at ha
  rcases ha with rfl | rfl | rfl <;> exact decDigits_not _ _ (by decide)
theorem rowL_not (p : Pm) : (10 : UInt8) ∉ rowL p := by
  have h := fun u => decDigits_not u 10 (by decide)
  simp [rowL, glue, h]
theorem rowsL_not (P : Nat → Pm) (n : Nat) : ∀ a ∈ rowsL P n, (10 : UInt8) ∉ a := by
  intro a ha
  unfold rowsL at ha
  rw [List.mem_map] at ha
  obtain ⟨i, _, rfl⟩ := ha
  exact rowL_not _
theorem rowsL_len (P : Nat → Pm) (n : Nat) : (rowsL P n).length = n := by simp [rowsL]
theorem rowsL_get (P : Nat → Pm) (n i : Nat) (h : i < n) : (rowsL P n)[i]? = some (rowL (P i)) := by simp [rowsL, h]
theorem split_txtPm (P : Nat → Pm) (n : Nat) : splitL 10 (txtPm P n) = rowsL P n ++ [[]] := by
  rw [txtPm_lined]; exact splitL_lined (rowsL_not P n)
/-- How many rows has a text? -/
def rdN (l : List UInt8) : Nat := (splitL 10 l).length - 1
def wordsAt (l : List UInt8) (i : Nat) : List (List UInt8) := splitL 32 ((splitL 10 l).getD i [])
def pmW (ws : List (List UInt8)) : Pm := ⟨(((decN (ws.getD 0 [])).getD 0 : Nat) : Int), (((decN (ws.getD 1 [])).getD 0 : Nat) : Int), (((decN (ws.getD 2 [])).getD 0 : Nat) : Int)⟩
def rdP (l : List UInt8) (i : Nat) : Pm := pmW (wordsAt l i)
def okB (ws : List (List UInt8)) : Bool := (decN (ws.getD 0 [])).isSome && (decN (ws.getD 1 [])).isSome && (decN (ws.getD 2 [])).isSome && decide ((decN (ws.getD 0 [])).getD 0 ≤ 7) && decide ((decN (ws.getD 1 [])).getD 0 ≤ 63) && decide ((decN (ws.getD 2 [])).getD 0 ≤ 400)
def okW (ws : List (List UInt8)) : Prop := ws.length = 3 ∧ okB ws = true
/-- Is a text that of permits? -/
def goodPm (l : List UInt8) : Prop := ∃ n P, plainPt n P = true ∧ l = txtPm P n
theorem rd_txt {P : Nat → Pm} {n : Nat} (h : plainPt n P = true) : rdN (txtPm P n) = n ∧ ∀ i, i < n → wordsAt (txtPm P n) i = [Lib.decDigits (P i).own.toNat, Lib.decDigits (P i).cel.toNat, Lib.decDigits (P i).rat.toNat] ∧ rdP (txtPm P n) i = P i ∧ okW (wordsAt (txtPm P n) i) := by
  obtain ⟨h6, hb⟩ := plainPt_parts h
  refine ⟨by unfold rdN; rw [split_txtPm]; simp [rowsL_len], fun i hi => ?_⟩
  have hw : wordsAt (txtPm P n) i = [Lib.decDigits (P i).own.toNat, Lib.decDigits (P i).cel.toNat, Lib.decDigits (P i).rat.toNat] := by
    unfold wordsAt
    rw [split_txtPm, List.getD_eq_getElem?_getD, List.getElem?_append_left (by rw [rowsL_len]; exact hi), rowsL_get _ _ _ hi]
    exact rowL_words _
  obtain ⟨⟨a1, a2⟩, ⟨b1, b2⟩, c1, c2⟩ := hb i hi
  have d1 := decN_digits (u := (P i).own.toNat) (by omega)
  have d2 := decN_digits (u := (P i).cel.toNat) (by omega)
  have d3 := decN_digits (u := (P i).rat.toNat) (by omega)
  refine ⟨hw, ?_, ?_⟩
  · unfold rdP pmW
    rw [hw]
    have e1 : (((P i).own.toNat : Nat) : Int) = (P i).own := by omega
    have e2 : (((P i).cel.toNat : Nat) : Int) = (P i).cel := by omega
    have e3 : (((P i).rat.toNat : Nat) : Int) = (P i).rat := by omega
    simp only [List.getD_cons_zero, List.getD_cons_succ, d1, d2, d3, Option.getD_some, e1, e2, e3]
  · rw [hw]
    refine ⟨rfl, ?_⟩
    unfold okB
    simp only [List.getD_cons_zero, List.getD_cons_succ, d1, d2, d3, Option.getD_some, Option.isSome_some]
    simp; omega
theorem okW_row {l : List UInt8} (h : okW (splitL 32 l)) : rowL (pmW (splitL 32 l)) = l ∧ ((0 ≤ (pmW (splitL 32 l)).own ∧ (pmW (splitL 32 l)).own ≤ 7) ∧ (0 ≤ (pmW (splitL 32 l)).cel ∧ (pmW (splitL 32 l)).cel ≤ 63) ∧ (0 ≤ (pmW (splitL 32 l)).rat ∧ (pmW (splitL 32 l)).rat ≤ 400)) := by
  have hg := glue_split 32 l
  obtain ⟨h1, h2⟩ := h
  generalize splitL 32 l = ws at *
  obtain ⟨a, b, c, rfl⟩ : ∃ a b c, ws = [a, b, c] := by
    match ws, h1 with
    | [a, b, c], _ => exact ⟨a, b, c, rfl⟩
  unfold okB at h2
  simp only [List.getD_cons_zero, List.getD_cons_succ, Bool.and_eq_true, decide_eq_true_eq] at h2
  obtain ⟨⟨⟨⟨⟨s1, s2⟩, s3⟩, l1⟩, l2⟩, l3⟩ := h2
  obtain ⟨u1, e1⟩ := Option.isSome_iff_exists.1 s1
  obtain ⟨u2, e2⟩ := Option.isSome_iff_exists.1 s2
  obtain ⟨u3, e3⟩ := Option.isSome_iff_exists.1 s3
  rw [e1] at l1; rw [e2] at l2; rw [e3] at l3
  simp only [Option.getD_some] at l1 l2 l3
  have q1 := (decN_some e1).1
  have q2 := (decN_some e2).1
  have q3 := (decN_some e3).1
  unfold rowL pmW
  simp only [List.getD_cons_zero, List.getD_cons_succ, e1, e2, e3, Option.getD_some, Int.toNat_natCast, q1, q2, q3]
  exact ⟨hg, by omega⟩
theorem goodPm_iff (l : List UInt8) : goodPm l ↔ ((splitL 10 l).getD (rdN l) [0] = [] ∧ (∀ i, i < rdN l → okW (wordsAt l i)) ∧ rdN l ≤ 6) := by
  constructor
  · rintro ⟨n, P, h, rfl⟩
    obtain ⟨h1, h2⟩ := rd_txt h
    obtain ⟨h6, hb⟩ := plainPt_parts h
    rw [h1]
    refine ⟨?_, fun i hi => (h2 i hi).2.2, h6⟩
    rw [split_txtPm, List.getD_eq_getElem?_getD, List.getElem?_append_right (by rw [rowsL_len]; exact Nat.le_refl _), rowsL_len, Nat.sub_self]; rfl
  · rintro ⟨h1, h2, h3⟩
    have hpos := List.length_pos_iff.2 (splitL_ne 10 l)
    have hn : rdN l + 1 = (splitL 10 l).length := by unfold rdN; omega
    have hrow := fun i (hi : i < rdN l) => okW_row (l := (splitL 10 l).getD i []) (h2 i hi)
    refine ⟨rdN l, rdP l, ?_, ?_⟩
    · unfold plainPt
      simp only [Bool.and_eq_true, decide_eq_true_eq, Bool.not_eq_true']
      refine ⟨h3, anyTo_false.2 fun i hi => ?_⟩
      have : (0 ≤ (rdP l i).own ∧ (rdP l i).own ≤ 7) ∧ (0 ≤ (rdP l i).cel ∧ (rdP l i).cel ≤ 63) ∧ (0 ≤ (rdP l i).rat ∧ (rdP l i).rat ≤ 400) := (hrow i hi).2
      unfold badAny badOwner badCell badRate
      simp; omega
    · rw [txtPm_lined]
      have hs : splitL 10 l = rowsL (rdP l) (rdN l) ++ [[]] := by
        apply List.ext_getElem?
        intro i
        by_cases hi : i < rdN l
        · rw [List.getElem?_append_left (by rw [rowsL_len]; exact hi), rowsL_get _ _ _ hi]
          have := (hrow i hi).1
          unfold rdP wordsAt
          rw [this, List.getD_eq_getElem?_getD, List.getElem?_eq_getElem (by omega)]; rfl
        · by_cases he : i = rdN l
          · subst he
            rw [List.getElem?_append_right (by rw [rowsL_len]; omega), rowsL_len, Nat.sub_self]
            rw [List.getD_eq_getElem?_getD, List.getElem?_eq_getElem (by omega)] at h1
            rw [List.getElem?_eq_getElem (by omega)]
            exact congrArg some h1
          · rw [List.getElem?_eq_none (by omega), List.getElem?_eq_none (by simp [rowsL_len]; omega)]
      exact (lined_of hs).symm
theorem trim_end (a : List UInt8) : Lib.trimSuffix (a ++ [10]) [10] = a := by
  unfold Lib.trimSuffix Lib.hasSuffix
  simp
/-- A good text's lines, as the program finds them. -/
theorem lines_txt {P : Nat → Pm} {n : Nat} (h : plainPt n P = true) : (linesL (txtPm P n)).length = n ∧ goodTo (txtPm P n) 3 6 n ∧ ∀ j, j < n → lineWs ((linesL (txtPm P n)).getD j []) = [Lib.decDigits (P j).own.toNat, Lib.decDigits (P j).cel.toNat, Lib.decDigits (P j).rat.toNat] := by
  obtain ⟨h6, hb⟩ := plainPt_parts h
  have hl : linesL (txtPm P n) = (rowsL P n).map (· ++ [10]) := by rw [txtPm_lined]; exact linesL_lined _ (rowsL_not P n)
  have hw : ∀ j, j < n → lineWs ((linesL (txtPm P n)).getD j []) = [Lib.decDigits (P j).own.toNat, Lib.decDigits (P j).cel.toNat, Lib.decDigits (P j).rat.toNat] := fun j hj => by
    rw [hl, List.getD_eq_getElem?_getD, List.getElem?_map, rowsL_get _ _ _ hj]
    show lineWs (rowL (P j) ++ [10]) = _
    unfold lineWs
    rw [trim_end]
    exact rowL_words _
  exact ⟨by rw [hl]; simp [rowsL_len], ⟨h6, fun j hj => by rw [hw j hj]; rfl⟩, hw⟩
/-- The permits that the program reads off the lines' words. -/
def pmI (l : List UInt8) (j : Nat) : Pm := ⟨numZ 0 7 ((lineWs ((linesL l).getD j [])).getD 0 []), numZ 0 63 ((lineWs ((linesL l).getD j [])).getD 1 []), numZ 0 400 ((lineWs ((linesL l).getD j [])).getD 2 [])⟩
theorem pmI_in (l : List UInt8) (j : Nat) : (0 ≤ (pmI l j).own ∧ (pmI l j).own ≤ 7) ∧ (0 ≤ (pmI l j).cel ∧ (pmI l j).cel ≤ 63) ∧ (0 ≤ (pmI l j).rat ∧ (pmI l j).rat ≤ 400) :=
  ⟨numZ_in _ _ (by decide) _, numZ_in _ _ (by decide) _, numZ_in _ _ (by decide) _⟩
theorem pmI_plain (l : List UInt8) (n : Nat) : plainPt n (pmI l) = decide (n ≤ 6) := by
  unfold plainPt
  rw [anyTo_false.2 fun i hi => by
    have := pmI_in l i
    unfold badAny badOwner badCell badRate
    simp; omega]
  simp
theorem txtPm_congr {P P' : Nat → Pm} : ∀ {n : Nat}, (∀ i, i < n → P i = P' i) → txtPm P n = txtPm P' n
  | 0, _ => rfl
  | n + 1, h => by unfold txtPm; rw [txtPm_congr (fun i hi => h i (by omega)), h n (by omega)]
theorem pmI_txt {P : Nat → Pm} {n : Nat} (h : plainPt n P = true) : ∀ j, j < n → pmI (txtPm P n) j = P j := fun j hj => by
  obtain ⟨h6, hb⟩ := plainPt_parts h
  obtain ⟨⟨a1, a2⟩, ⟨b1, b2⟩, c1, c2⟩ := hb j hj
  unfold pmI
  rw [(lines_txt h).2.2 j hj]
  simp only [List.getD_cons_zero, List.getD_cons_succ]
  have e1 := numZ_digits (u := (P j).own.toNat) (hi := 7) (by omega) (by omega)
  have e2 := numZ_digits (u := (P j).cel.toNat) (hi := 63) (by omega) (by omega)
  have e3 := numZ_digits (u := (P j).rat.toNat) (hi := 400) (by omega) (by omega)
  have f1 : (((P j).own.toNat : Nat) : Int) = (P j).own := by omega
  have f2 : (((P j).cel.toNat : Nat) : Int) = (P j).cel := by omega
  have f3 : (((P j).rat.toNat : Nat) : Int) = (P j).rat := by omega
  rw [f1] at e1; rw [f2] at e2; rw [f3] at e3
  show (⟨numZ 0 ((7 : Nat) : Int) _, numZ 0 ((63 : Nat) : Int) _, numZ 0 ((400 : Nat) : Int) _⟩ : Pm) = _
  rw [e1, e2, e3]
/-- What the program finds is what the reference finds. -/
theorem goodPm_I (l : List UInt8) : goodPm l ↔ (goodTo l 3 6 (linesL l).length ∧ txtPm (pmI l) (linesL l).length = l) := by
  constructor
  · rintro ⟨n, P, h, rfl⟩
    obtain ⟨h1, h2, h3⟩ := lines_txt h
    rw [h1]
    exact ⟨h2, txtPm_congr (pmI_txt h)⟩
  · rintro ⟨h1, h2⟩
    exact ⟨(linesL l).length, pmI l, by rw [pmI_plain]; simpa using h1.1, h2.symm⟩
theorem goodPm_same {l : List UInt8} (h : goodPm l) : rdN l = (linesL l).length ∧ ∀ i, i < rdN l → rdP l i = pmI l i := by
  obtain ⟨n, P, h, rfl⟩ := h
  obtain ⟨h1, h2⟩ := rd_txt h
  obtain ⟨h3, h4, h5⟩ := lines_txt h
  exact ⟨by rw [h1, h3], fun i hi => by rw [h1] at hi; rw [(h2 i hi).2.1, pmI_txt h i hi]⟩
open Classical in
/-- The code that goes with a text. -/
noncomputable def rdC (l : List UInt8) : Int := if goodPm l then 0 else 5
open Classical in
noncomputable def rdM (l : List UInt8) : Nat := if goodPm l then rdN l else 0
theorem rd_good {l : List UInt8} (h : goodPm l) : rdC l = 0 ∧ rdM l = rdN l := ⟨by unfold rdC; rw [if_pos h], by unfold rdM; rw [if_pos h]⟩
theorem rd_bad {l : List UInt8} (h : ¬ goodPm l) : rdC l = 5 ∧ rdM l = 0 := ⟨by unfold rdC; rw [if_neg h], by unfold rdM; rw [if_neg h]⟩
theorem rdM_le (l : List UInt8) : rdM l ≤ 6 := by
  by_cases h : goodPm l
  · rw [(rd_good h).2]; exact ((goodPm_iff l).1 h).2.2
  · rw [(rd_bad h).2]; omega
end Go.Proofs.YtglimhkpndfjgaaGreatDoor
/- Readings in memory: lists of them, marks that a caller leaves in a list. Plain laws and the walks of the law's own functions. -/
namespace Go.Proofs.YtglimhkpndfjgaaGreatDoor
open Go.ChangeShapes Go.WideShapes Go.ChangeAt Go.RowKit
set_option linter.unusedVariables false

/-- A reading's numbers. -/
structure Rg where
  tim : Int
  lev : Int
@[irreducible] def Rg.cells (p : Rg) : Array Value := #[.int .i64 p.tim, .int .i16 p.lev]
theorem Rg.cells_eq (p : Rg) : p.cells = #[.int .i64 p.tim, .int .i16 p.lev] := by unfold Rg.cells; rfl
theorem Rg.cells_size (p : Rg) : p.cells.size = 2 := by rw [p.cells_eq]; rfl
theorem Rg.get0 (p : Rg) : p.cells[0]? = some (.int .i64 p.tim) := by rw [p.cells_eq]; rfl
theorem Rg.get1 (p : Rg) : p.cells[1]? = some (.int .i16 p.lev) := by rw [p.cells_eq]; rfl
theorem Rg.one (p : Rg) : ∀ v ∈ p.cells.toList, v.oneCell' = true := by
  intro v hv; rw [p.cells_eq] at hv; simp at hv; rcases hv with rfl | rfl <;> rfl
/-- n permits, one behind the other. -/
@[irreducible] def rgs (n : Nat) (P : Nat → Rg) : List Value := (List.range n).flatMap fun i => (P i).cells.toList
theorem rgs_zero (P : Nat → Rg) : rgs 0 P = [] := by simp [rgs]
theorem rgs_succ (n : Nat) (P : Nat → Rg) : rgs (n + 1) P = rgs n P ++ (P n).cells.toList := by simp [rgs, List.range_succ, List.flatMap_append]
theorem rgs_length (n : Nat) (P : Nat → Rg) : (rgs n P).length = n * 2 := by
  induction n with
  | zero => simp [rgs_zero]
  | succ n ih => rw [rgs_succ, List.length_append, ih]; simp [Rg.cells_size]; omega
theorem rgs_congr {P P' : Nat → Rg} : ∀ {n : Nat}, (∀ i, i < n → P i = P' i) → rgs n P = rgs n P'
  | 0, _ => by rw [rgs_zero, rgs_zero]
  | n + 1, h => by rw [rgs_succ, rgs_succ, rgs_congr (fun i hi => h i (by omega)), h n (by omega)]
theorem rgs_get (n : Nat) (P : Nat → Rg) (i c : Nat) (h : i < n) (hc : c < 2) : (rgs n P)[i * 2 + c]? = (P i).cells[c]? := by
  induction n with
  | zero => omega
  | succ n ih =>
    rw [rgs_succ, List.getElem?_append, rgs_length]
    by_cases hi : i < n
    · rw [if_pos (by omega), ih hi]
    · obtain rfl : i = n := by omega
      rw [if_neg (by omega), show i * 2 + c - i * 2 = c by omega]; simp
theorem rgs_one (n : Nat) (P : Nat → Rg) : ∀ v ∈ rgs n P, v.oneCell' = true := by
  intro v hv; unfold rgs at hv; simp only [List.mem_flatMap] at hv; obtain ⟨i, _, hi⟩ := hv; exact (P i).one v hi
theorem rgs_drop (n : Nat) (P : Nat → Rg) (k : Nat) (h : k < n) : ((rgs n P).drop (k * 2)).take 2 = (P k).cells.toList := by
  apply List.ext_getElem?
  intro c
  rw [List.getElem?_take]
  by_cases hc : c < 2
  · rw [if_pos hc, List.getElem?_drop, rgs_get n P k c h hc]; simp
  · rw [if_neg hc, List.getElem?_eq_none]; simp [Rg.cells_size]; omega

/-- The slice v holds n permits, P. -/
def RSl (w : World) (v : Value) (n : Nat) (P : Nat → Rg) : Prop :=
  ∃ a cap, v = .slice a n cap ∧ n ≤ cap ∧ cap ≤ maxLen ∧ (n = 0 ∨ ∃ b o, a = some ⟨b, o, none⟩ ∧ b < w.heap.size ∧ ∀ i c, i < n → c < 2 → w.cell? ⟨b, o + i * 2 + c, none⟩ = (P i).cells[c]?)
theorem RSl.below {w w' : World} {v : Value} {n : Nat} {P : Nat → Rg} (h : RSl w v n P) (hb : Below w.heap.size w w') : RSl w' v n P := by
  obtain ⟨a, cap, rfl, h1, h2, h3⟩ := h
  refine ⟨a, cap, rfl, h1, h2, ?_⟩
  rcases h3 with h3 | ⟨b, o, rfl, hlt, hc⟩
  · exact .inl h3
  · exact .inr ⟨b, o, rfl, Nat.lt_of_lt_of_le hlt hb.size, fun i c hi h3 => (hb.cell (p := ⟨b, _, none⟩) hlt).trans (hc i c hi h3)⟩
theorem Own.rsl {w : World} {g : Nat} {e : TypeId} {v : Value} {n : Nat} {P : Nat → Rg} (h : Own w g e 2 v n (rgs n P)) : RSl w v n P := by
  obtain ⟨cap, rfl, h1, h2⟩ := h.form
  exact ⟨_, cap, rfl, h1, h2, .inr ⟨g, 0, rfl, h.lt, fun i c hi hc => by rw [Nat.zero_add, h.cell _ (by omega), rgs_get n P i c hi hc]⟩⟩

theorem rowRg : RowTy Tryz.prog 63 2 := ⟨_, Tryz.underlying63, rfl, by kernel_rfl⟩
theorem sizeRg : (Tryz.prog.info? 63).map (·.size) = some 2 := by kernel_rfl
theorem elRg : ElemTy Tryz.prog 69 63 2 16 := elem_of (z := .agg (Rg.cells ⟨0, 0⟩)) Tryz.underlying69 (by unfold Rg.cells; kernel_rfl) (Rg.cells_size _)
/-- P with another permit at i. -/
def updR (P : Nat → Rg) (i : Nat) (p : Rg) : Nat → Rg := fun j => if j = i then p else P j
theorem updR_same (P : Nat → Rg) (i : Nat) (p : Rg) : updR P i p i = p := by simp [updR]
theorem updR_other (P : Nat → Rg) (i : Nat) (p : Rg) (j : Nat) (h : j ≠ i) : updR P i p j = P j := by simp [updR, h]
theorem rgs_set (n : Nat) (P : Nat → Rg) (i c : Nat) (u : Value) (p : Rg) (hi : i < n) (hc : c < 2) (hp : (P i).cells.toList.set c u = p.cells.toList) : (rgs n P).set (i * 2 + c) u = rgs n (updR P i p) := by
  apply List.ext_getElem?
  intro j
  by_cases hj : j < n * 2
  · obtain ⟨k, d, hd, rfl⟩ : ∃ k d, d < 2 ∧ j = k * 2 + d := ⟨j / 2, j % 2, Nat.mod_lt _ (by decide), by omega⟩
    have hk : k < n := by omega
    rw [rgs_get n _ k d hk hd, List.getElem?_set, rgs_length]
    by_cases hki : k = i
    · subst hki
      rw [updR_same]
      have := congrArg (fun l : List Value => l[d]?) hp
      simp only [List.getElem?_set, Array.getElem?_toList, Array.length_toList, Rg.cells_size] at this
      rw [← this]
      by_cases hcd : c = d
      · subst hcd; simp [hc, hj]
      · rw [if_neg (by omega), if_neg hcd, rgs_get n P k d hk hd]
    · rw [updR_other P i p k hki, if_neg (by omega), rgs_get n P k d hk hd]
  · rw [List.getElem?_eq_none (by simp [rgs_length]; omega), List.getElem?_eq_none (by simp [rgs_length]; omega)]

/-- A list of permits that a call has made, or none. -/
def ResR (w : World) (g : Nat) (v : Value) (n : Nat) (P : Nat → Rg) : Prop := (n = 0 ∧ ∃ a cap, v = .slice a 0 cap ∧ cap ≤ maxLen) ∨ Own w g 63 2 v n (rgs n P)
theorem ResR.rsl {w : World} {g : Nat} {v : Value} {n : Nat} {P : Nat → Rg} (h : ResR w g v n P) : RSl w v n P := by
  rcases h with ⟨rfl, a, cap, rfl, h⟩ | h
  · exact ⟨a, cap, rfl, Nat.zero_le _, h, .inl rfl⟩
  · exact h.rsl
theorem ResR.below {w w' : World} {g : Nat} {v : Value} {n : Nat} {P : Nat → Rg} (h : ResR w g v n P) (hb : Below w.heap.size w w') : ResR w' g v n P := by
  rcases h with h | h
  · exact .inl h
  · exact .inr (h.below hb h.lt)
theorem ResR.only {w w' : World} {g k : Nat} {v : Value} {n : Nat} {P : Nat → Rg} (h : ResR w g v n P) (hb : Only k w w') (hk : n = 0 ∨ g ≠ k) : ResR w' g v n P := by
  rcases h with h | h
  · exact .inl h
  · rcases hk with rfl | hk
    · obtain ⟨cap, rfl, _, hc⟩ := h.form
      exact .inl ⟨rfl, _, cap, rfl, hc⟩
    · exact .inr (h.move (hb.block g hk))
theorem ResR.ne {w : World} {g : Nat} {v : Value} {n : Nat} {P : Nat → Rg} (h : ResR w g v n P) {k : Nat} (hk : w.heap.size ≤ k) : n = 0 ∨ g ≠ k := by
  rcases h with h | h
  · exact .inl h.1
  · have := h.lt; exact .inr (by omega)

def markR (m : Int) (i : Nat) : Rg := ⟨m + 2 * i, IntKind.i16.wrap (m + 2 * i + 1)⟩
/-- .. after k rounds. -/
def markedR (m : Int) (P : Nat → Rg) (k : Nat) : Nat → Rg := fun i => if i < k then markR m i else P i

end Go.Proofs.YtglimhkpndfjgaaGreatDoor
