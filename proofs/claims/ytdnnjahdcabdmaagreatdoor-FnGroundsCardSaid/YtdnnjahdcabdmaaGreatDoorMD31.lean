import Derived.Test.YtdnnjahdcabdmaaGreatDoorMD29
import Derived.Test.YtdnnjahdcabdmaaGreatDoorMD28
import Derived.Test.YtdnnjahdcabdmaaGreatDoorMD02
import Derived.Test.YtdnnjahdcabdmaaGreatDoorMD04
import Derived.Shelf.Strconv.ParseIntPublic10
import Derived.Lib.ParseIntBCases
import Derived.RegionTactic
import Derived.IntWalk
import Derived.Laws.IdiomStrings
import Derived.Test.YtdnnjahdcabdmaaGreatDoorMD07
import Derived.Lib.Builder
import Derived.Laws.Concat
import Derived.Test.YtdnnjahdcabdmaaGreatDoorMD01
import Derived.Shelf.Strings.Builder1
import Derived.Shelf.Strings.Builder2
import Derived.Shelf.Strings.OnBuilder
import Derived.Shelf.Small.Strs
import Derived.Shelf.Strings.BuilderF
import Derived.Shelf.Strings.BuilderK
import Derived.Shelf.Utf8.RuneCount
import Derived.Shelf.Strings.Builder2Cap
import Derived.Shelf.Strconv.Itoa0
import Derived.Shelf.Strconv.Itoa1
import Derived.Shelf.LaysM
import Derived.Shelf.Strconv.Itoa2
import Derived.Shelf.Strconv.Itoa3
import Derived.Shelf.Strconv.Itoa4
import Derived.Shelf.Strconv.ParseIntEmpty
import Derived.Shelf.Strconv.Clone
import Derived.Shelf.Strconv.SyntaxError
import Derived.Shelf.LaysC
import Derived.Shelf.Strconv.ToError
import Derived.Shelf.Strconv.Lower
import Derived.Shelf.Strconv.ParseUint10
import Derived.Shelf.Strconv.ParseUint10Empty
import Derived.Shelf.Strconv.ParseUint10Any
import Derived.Shelf.Strconv.ParseInt10
import Derived.Shelf.Strconv.RangeError
import Derived.Shelf.Strconv.ToErrorRange
import Derived.Shelf.Strconv.ParseUintEmpty
import Derived.Shelf.Strconv.ParseUint10b64
import Derived.Shelf.Strconv.ParseUint10b32
import Derived.Shelf.Strconv.ParseUint10b16
import Derived.Shelf.Strconv.ParseUint10b8
import Derived.Shelf.Strconv.ParseUint10At
import Derived.Shelf.Strconv.ParseInt10At64
import Derived.Shelf.Strconv.ParseInt10At32
import Derived.Shelf.Strconv.ParseInt10At16
import Derived.Shelf.Strconv.ParseInt10At8
import Derived.Shelf.Strconv.ParseInt10All
import Derived.Shelf.Strconv.ErrVarParseInt
import Derived.Ground.MpProg
import Derived.Shelf.Pu.ParseUintPublic10
import Derived.Shelf.Pu.ErrVarParseUint
import Derived.Shelf.Strings.Search1
import Derived.Shelf.Strings.Search2
import Derived.Shelf.Strings.Search3
import Derived.Shelf.Strings.Cut
import Derived.Shelf.Strings.Count
import Derived.Shelf.Strings.Shaped
import Derived.Shelf.Strings.Prefix
import Derived.Shelf.Strings.Split
import Derived.Shelf.Strings.SplitShaped
import Derived.Shelf.Unicode.Decode
import Derived.Shelf.Strings.RuneCount
import Derived.Shelf.Strings.Explode
import Derived.Shelf.Bits.Mul64
import Derived.Shelf.Strings.Repeat
import Derived.Shelf.Unicode.DecodeSlow
import Derived.Shelf.Unicode.DecodeAny
import Derived.Shelf.Strings.BuilderCap
/- numberOf: a word's whole number in a range, in the program; l01Number in the reference: the walks. -/
namespace Go.Proofs.YtdnnjahdcabdmaaGreatDoor
open Go.ChangeShapes Go.WideShapes Go.ChangeAt Go.RowKit
set_option linter.unusedVariables false
set_option linter.unusedSimpArgs false
attribute [local irreducible] Calls

/-- The library's two errors lie where they were laid. -/
def ParseVars (w : World) : Prop := (∃ te pe, w.cell? ⟨2, 0, none⟩ = some (.iface te pe)) ∧ (∃ te pe, w.cell? ⟨3, 0, none⟩ = some (.iface te pe))
theorem ParseVars.below {w w' : World} (h : ParseVars w) (hb : Below w.heap.size w w') : ParseVars w' := by
  obtain ⟨⟨a, b, h1⟩, ⟨c, d, h2⟩⟩ := h
  exact ⟨⟨a, b, (hb.cell (p := ⟨2, 0, none⟩) (Lib.lt_of_cell h1)).trans h1⟩, ⟨c, d, (hb.cell (p := ⟨3, 0, none⟩) (Lib.lt_of_cell h2)).trans h2⟩⟩
/-- The number that ParseInt reads. -/
def intV (l : List UInt8) : Option Int := match Lib.parseIntB 64 l with | .ok v => some v | _ => none
theorem parse64_any (s : ByteArray) (hs : s.size ≤ 1048576) (w : World) (hV : ParseVars w) :
    Calls Tryz.prog 104 #[.string s, .int .i64 10, .int .i64 64] w fun e w' => ((∃ v, intV s.data.toList = some v ∧ e = .returned (.tuple #[.int .i64 v, .nilIface])) ∨ (intV s.data.toList = none ∧ ∃ v t p, e = .returned (.tuple #[.int .i64 v, .iface t p]))) ∧ Below w.heap.size w w' := by
  obtain ⟨⟨a, b, h1⟩, ⟨c, d, h2⟩⟩ := hV
  unfold intV
  rcases hp : Lib.parseIntB 64 s.data.toList with v | _ | _
  · refine (Any.strconv_ParseInt_10_at64_ok sh_laysC174 s (by omega) v hp w).mono ?_
    rintro e w' ⟨rfl, rfl | ⟨t, rfl⟩⟩
    · exact ⟨.inl ⟨v, rfl, rfl⟩, Below.refl _ _⟩
    · exact ⟨.inl ⟨v, rfl, rfl⟩, rfl, rfl, rfl, by rw [Lib.bytesWorld_size]; omega, fun k hk => Lib.bytesWorld_at_old _ _ _ k (by omega)⟩
  · refine (Any.strconv_ParseInt_10_at64_syntax sh_laysC174 s (by omega) hp _ w h1 (.inr ⟨a, b, rfl⟩)).mono ?_
    rintro e w' ⟨N, rfl, _, _, hb⟩
    exact ⟨.inr ⟨rfl, _, _, _, rfl⟩, hb⟩
  · refine (Any.strconv_ParseInt_10_at64_range sh_laysC174 s (by omega) hp _ w h2 (.inr ⟨c, d, rfl⟩)).mono ?_
    rintro e w' ⟨N, rfl, _, _, hb⟩
    exact ⟨.inr ⟨rfl, _, _, _, rfl⟩, hb⟩
/-- A word's number, 0 where it has none in the range. -/
def numZ (lo hi : Int) (l : List UInt8) : Int := match intV l with | some v => if decide (lo ≤ v) && decide (v ≤ hi) then v else 0 | none => 0
set_option maxRecDepth 100000 in
set_option maxHeartbeats 400000 in
theorem numberOf_any (s : ByteArray) (hs : s.size ≤ 1048576) (lo hi : Int) (w : World) (hV : ParseVars w) :
    Calls Tryz.prog 47 #[.string s, .int .i64 lo, .int .i64 hi] w fun e w' => e = .returned (.int .i64 (numZ lo hi s.data.toList)) ∧ Below w.heap.size w w' := by
  have hp := parse64_any s hs w hV
  clear hV
  go_enter Tryz.func47, Tryz.ntmps47
  go_upto_region 1 with fail
  go_wp2_with (go_at_call 104; refine hp.mono ?_; rintro e w1 ⟨⟨v, hv, rfl⟩ | ⟨hv, v, t, p, rfl⟩, hb⟩)
  · have hin := fun w' => in_any v lo hi w'
    cases hd : (decide (lo ≤ v) && decide (v ≤ hi)) <;> rw [hd] at hin
    · have HN : Hid (numZ lo hi s.data.toList = 0) := Lib.hid (by unfold numZ; rw [hv]; simp only [hd]; rfl)
      clear hv hd
      go_wp2_with (go_at_call 88; refine (hin _).mono ?_; rintro e w' ⟨rfl, hw⟩; rw [hw]; clear hw w')
      go_ret
      exact ⟨congrArg (fun x => Ending.returned (.int .i64 x)) HN.out.symm, hb⟩
    · have HN : Hid (numZ lo hi s.data.toList = v) := Lib.hid (by unfold numZ; rw [hv]; simp only [hd]; rfl)
      clear hv hd
      go_wp2_with (go_at_call 88; refine (hin _).mono ?_; rintro e w' ⟨rfl, hw⟩; rw [hw]; clear hw w')
      go_ret
      exact ⟨congrArg (fun x => Ending.returned (.int .i64 x)) HN.out.symm, hb⟩
  · have HN : Hid (numZ lo hi s.data.toList = 0) := Lib.hid (by unfold numZ; rw [hv])
    clear hv
    go_wp2_with fail
    go_ret
    exact ⟨congrArg (fun x => Ending.returned (.int .i64 x)) HN.out.symm, hb⟩
theorem numZ_in (lo hi : Int) (h : lo ≤ 0 ∧ 0 ≤ hi) (l : List UInt8) : lo ≤ numZ lo hi l ∧ numZ lo hi l ≤ hi := by
  unfold numZ
  split
  · split
    · rename_i h; simpa using h
    · exact h
  · exact h
theorem parseM_digits : ∀ (l : List UInt8) (a u : Nat), decV a l = some u → u < 1000000000 → Lib.parseUintM (2 ^ 64 - 1) a l = .ok u
  | [], a, u, h, _ => by injection h with h; subst h; rfl
  | c :: l, a, u, h, hu => by
    have hle := (decV_le _ _ _ h).1
    have h : (if 48 ≤ c.toNat ∧ c.toNat ≤ 57 then decV (a * 10 + (c.toNat - 48)) l else none) = some u := h
    split at h
    · rename_i hc
      have hle2 := (decV_le _ _ _ h).1
      have hp : 1 ≤ 10 ^ l.length := Nat.pow_pos (by decide)
      have : a * 10 + (c.toNat - 48) ≤ u := Nat.le_trans (Nat.le_mul_of_pos_right _ hp) hle2
      rw [Lib.parseUintM, if_pos hc, if_neg (by omega), if_neg (by omega)]
      exact parseM_digits l _ u h hu
    · cases h
theorem intV_digits {u : Nat} (h : u < 1000000000) : intV (Lib.decDigits u) = some (u : Int) := by
  have hv := decV_decDigits u u (Nat.le_refl _)
  have hd := decDigits_digits u u (Nat.le_refl _)
  have hp := decDigits_pos u
  generalize Lib.decDigits u = l at *
  cases l with
  | nil => simp at hp
  | cons c r =>
    have hc := hd c (by simp)
    have hm := parseM_digits _ _ _ hv h
    unfold intV Lib.parseIntB Lib.parseUintB
    have e : (if c.toNat = 43 ∨ c.toNat = 45 then r else c :: r) = c :: r := by rw [if_neg (by omega)]
    simp only [e]
    rw [if_neg (by simp), hm]
    have h1 : ¬ (¬ c.toNat = 45 ∧ 2 ^ (64 - 1) ≤ u) := by omega
    have h2 : ¬ (c.toNat = 45 ∧ 2 ^ (64 - 1) < u) := by omega
    have h3 : ¬ c.toNat = 45 := by omega
    simp only [if_neg h1, if_neg h2, if_neg h3]
theorem numZ_digits {u : Nat} {hi : Nat} (h : u ≤ hi) (hhi : hi ≤ 1000) : numZ 0 hi (Lib.decDigits u) = u := by
  unfold numZ
  rw [intV_digits (by omega)]
  simp; omega
theorem decV_step {n : Nat} {c : UInt8} {l : List UInt8} (h : 48 ≤ c.toNat ∧ c.toNat ≤ 57) : decV n (c :: l) = decV (n * 10 + (c.toNat - 48)) l := by
  show (if _ then _ else _) = _
  rw [if_pos h]
theorem decV_stop {n : Nat} {c : UInt8} {l : List UInt8} (h : ¬ (48 ≤ c.toNat ∧ c.toNat ≤ 57)) : decV n (c :: l) = none := by
  show (if _ then _ else _) = _
  rw [if_neg h]
end Go.Proofs.YtdnnjahdcabdmaaGreatDoor
/- Decimal, in the reference: the walk. -/
namespace Go.Proofs.YtdnnjahdcabdmaaGreatDoor
open Go.ChangeShapes Go.WideShapes Go.ChangeAt Go.RowKit
set_option linter.unusedVariables false
set_option linter.unusedSimpArgs false
attribute [local irreducible] Calls
theorem conv1 {w : World} {r : Nat} {T : TypeId} {c : UInt8} (h : Blk w r #[.int .u8 (c.toNat : Int)] T) : (convert 22 9 (.slice (some ⟨r, 0, none⟩) 1 1)).run Tryz.prog w = .ok (.string ⟨#[c]⟩) w :=
  run_convert_bytes_back (P := Tryz.prog) w 22 9 5 ⟨r, 0, none⟩ 1 [c] Tryz.underlying22 Tryz.underlying5 Tryz.underlying9 (fun j hj => by
    have hj : j = 0 := by simpa using hj
    subst hj
    exact h.cell 0)
end Go.Proofs.YtdnnjahdcabdmaaGreatDoor
/- Texts that are put together, and the library's builder of texts between two writes: plain laws; no statement is proved here. -/
namespace Go.Proofs.YtdnnjahdcabdmaaGreatDoor
open Go.ChangeShapes Go.WideShapes Go.ChangeAt Go.RowKit
set_option linter.unusedVariables false

theorem run_addS {P : Program} (t : TypeId) (A B : List UInt8) (h : A.length + B.length ≤ 9223372036854775807) (w : World) : (binOp .add t (.string ⟨A.toArray⟩) (.string ⟨B.toArray⟩)).run P w = .ok (.string ⟨(A ++ B).toArray⟩) w := by
  rw [binOp_string_add, run_string_add_sum w _ _ (by simpa [ByteArray.size] using h), ByteArray.mk_append_mk]
theorem runV_addS {P : Program} (t : TypeId) (A B : List UInt8) (h : A.length + B.length ≤ 9223372036854775807) (w : World) : ((binOp .add t (.string ⟨A.toArray⟩) (.string ⟨B.toArray⟩)).run P w).andThen (fun a w' => Result.ok (Next.value a) w') = .ok (.value (.string ⟨(A ++ B).toArray⟩)) w := by
  rw [run_addS t A B h w]; rfl
theorem exec_addS {P : Program} {ev : Operand → Value} {o : Oper} {t t' : TypeId} {x y : Operand} {A B : List UInt8} (ho : o.op = .binOp .add t x y t') (hx : ev x = .string ⟨A.toArray⟩) (hy : ev y = .string ⟨B.toArray⟩) (h : A.length + B.length ≤ 9223372036854775807) (w : World) : (execOp ev o).run P w = .ok (.value (.string ⟨(A ++ B).toArray⟩)) w := by
  unfold execOp
  have he : (eqGuard .add t x y (.string ⟨A.toArray⟩) (.string ⟨B.toArray⟩)).run P w = .ok () w := rfl
  simp only [ho, hx, hy, Sem.run_bind, he, run_addS t A B h w, Result.andThen_ok, Sem.run_pure]
theorem ownsRow_below {w w' : World} {B : Nat} {e : TypeId} {s : Nat} {v : Value} {n : Nat} {xs : List Value} (h : w.ownsRow B e s v n xs) (hb : Below w.heap.size w w') : w'.ownsRow B e s v n xs := by
  obtain ⟨h1, h2 | ⟨g, cap, cur, h3, h4, h5, h6⟩⟩ := h
  · exact ⟨h1, .inl h2⟩
  · exact ⟨h1, .inr ⟨g, cap, cur, h3, h4, (hb.block g (lt_of_block h5)).trans h5, h6⟩⟩
theorem builderAt_below {T e : TypeId} {B b : Nat} {p : Value} {bs : List Value} {w w' : World} (h : Lib.BuilderAt T e B b p bs w) (hb : Below w.heap.size w w') : Lib.BuilderAt T e B b p bs w' := by
  obtain ⟨h1, v, h2, h3, h4⟩ := h
  exact ⟨h1, v, (hb.block b (lt_of_block h2)).trans h2, ownsRow_below h3 hb, h4⟩
theorem isBuilder_below {T e : TypeId} {B b : Nat} {bs : List Value} {w w' : World} (h : Lib.IsBuilder T e B b bs w) (hb : Below w.heap.size w w') : Lib.IsBuilder T e B b bs w' :=
  h.imp (fun h => builderAt_below h hb) (fun h => builderAt_below h hb)
theorem isBuilder_lt {T e : TypeId} {B b : Nat} {bs : List Value} {w : World} (h : Lib.IsBuilder T e B b bs w) : b < w.heap.size := by
  rcases h with h | h <;> exact h.lt
theorem strCells_eq (l : List UInt8) : Lib.strCells ⟨l.toArray⟩ = Lib.byteCells l := by simp [Lib.strCells, Lib.byteCells]
theorem byteCells_app (l m : List UInt8) : Lib.byteCells l ++ Lib.byteCells m = Lib.byteCells (l ++ m) := by simp [Lib.byteCells]
theorem byteCells_len (l : List UInt8) : (Lib.byteCells l).length = l.length := by simp [Lib.byteCells]
end Go.Proofs.YtdnnjahdcabdmaaGreatDoor
/- The library's contract of a Builder's WriteString, laid at this program. -/
namespace Go.Proofs.YtdnnjahdcabdmaaGreatDoor
open Go.Shelf
def sh_wr_ren : Go.Shelf.Ren := ⟨fun | 166 => 49 | 240 => 106 | 276 => 143 | n => n, fun | 0 => 0 | 3 => 3 | 4 => 4 | 5 => 5 | 9 => 9 | 20 => 20 | 37 => 22 | 70 => 92 | 72 => 94 | 75 => 96 | 80 => 100 | 164 => 186 | n => n, fun | n => n⟩
theorem sh_wr : Go.Proofs.Lays.n166 Tryz.prog sh_wr_ren := {
  mixed := by kernel_rfl
  f166 := Tryz.func49.trans (congrArg some (by kernel_rfl))
  f240 := Tryz.func106.trans (congrArg some (by kernel_rfl))
  f276 := Tryz.func143.trans (congrArg some (by kernel_rfl))
  t0 := Tryz.underlying0
  a0 := Tryz.isAgg0
  z0 := Tryz.sizeOf0
  v0 := Tryz.zeroValue0
  t3 := Tryz.underlying3
  a3 := Tryz.isAgg3
  z3 := Tryz.sizeOf3
  v3 := Tryz.zeroValue3
  t4 := Tryz.underlying4
  a4 := Tryz.isAgg4
  z4 := Tryz.sizeOf4
  v4 := Tryz.zeroValue4
  t9 := Tryz.underlying9
  a9 := Tryz.isAgg9
  z9 := Tryz.sizeOf9
  v9 := Tryz.zeroValue9
  t20 := Tryz.underlying20
  a20 := Tryz.isAgg20
  z20 := Tryz.sizeOf20
  v20 := Tryz.zeroValue20
  t37 := Tryz.underlying22
  a37 := Tryz.isAgg22
  z37 := Tryz.sizeOf22
  v37 := Tryz.zeroValue22
  t70 := Tryz.underlying92
  a70 := Tryz.isAgg92
  z70 := Tryz.sizeOf92
  v70 := Tryz.zeroValue92
  t72 := Tryz.underlying94
  a72 := Tryz.isAgg94
  z72 := Tryz.sizeOf94
  v72 := Tryz.zeroValue94
  t75 := Tryz.underlying96
  a75 := Tryz.isAgg96
  z75 := Tryz.sizeOf96
  v75 := Tryz.zeroValue96
  t164 := Tryz.underlying186
  a164 := Tryz.isAgg186
  z164 := Tryz.sizeOf186
  v164 := Tryz.zeroValue186 }
theorem sh_wr_extra : Builder.Extra Tryz.prog sh_wr_ren := {
  sizeBuilder := by kernel_rfl
  liesBuilder := by kernel_rfl
  t5 := Tryz.underlying5
  a5 := Tryz.isAgg5
  z5 := Tryz.sizeOf5
  v5 := Tryz.zeroValue5
  infoByte := by kernel_rfl
  cellsByte := by kernel_rfl
  sizeByte := by kernel_rfl
  neB5 := by decide }
theorem writeString_any (B b : Nat) (bs : List Value) (s : ByteArray) (w : World) (h : Lib.IsBuilder 94 5 B b bs w) (hlen : bs.length + s.size ≤ 140737488355328) (hBw : B ≤ w.heap.size) :
    Calls Tryz.prog 49 #[.pointer (some ⟨b, 0, none⟩), .string s] w fun e w' => e = .returned (.tuple #[.int .i64 s.size, .nilIface]) ∧ (Lib.BuilderAt 94 5 B b (.pointer (some ⟨b, 0, none⟩)) (bs ++ Lib.strCells s) w' ∧ RowKit.Below B w w') := Any.Builder_WriteString sh_wr sh_wr_extra B b bs s w h hlen hBw
end Go.Proofs.YtdnnjahdcabdmaaGreatDoor
/- Contracts of the library's functions, laid at this program by the shelf's tool (numbers of this seat alone). -/
namespace Go.Proofs.YtdnnjahdcabdmaaGreatDoor
open Go.Shelf
def sh_lays169_ren : Go.Shelf.Ren := ⟨fun | 169 => 51 | n => n, fun | 70 => 92 | 9 => 9 | 0 => 0 | 72 => 94 | 37 => 22 | 127 => 158 | 3 => 3 | 5 => 5 | n => n, fun | n => n⟩
theorem sh_lays169 : Go.Proofs.Lays.n169 Tryz.prog sh_lays169_ren := {
  mixed := by kernel_rfl
  f169 := Tryz.func51.trans (congrArg some (by kernel_rfl))
  t0 := Tryz.underlying0
  a0 := Tryz.isAgg0
  z0 := Tryz.sizeOf0
  v0 := Tryz.zeroValue0
  t3 := Tryz.underlying3
  a3 := Tryz.isAgg3
  z3 := Tryz.sizeOf3
  v3 := Tryz.zeroValue3
  t9 := Tryz.underlying9
  a9 := Tryz.isAgg9
  z9 := Tryz.sizeOf9
  v9 := Tryz.zeroValue9
  t37 := Tryz.underlying22
  a37 := Tryz.isAgg22
  z37 := Tryz.sizeOf22
  v37 := Tryz.zeroValue22
  t70 := Tryz.underlying92
  a70 := Tryz.isAgg92
  z70 := Tryz.sizeOf92
  v70 := Tryz.zeroValue92
  t72 := Tryz.underlying94
  a72 := Tryz.isAgg94
  z72 := Tryz.sizeOf94
  v72 := Tryz.zeroValue94
  t127 := Tryz.underlying158
  a127 := Tryz.isAgg158
  z127 := Tryz.sizeOf158
  v127 := Tryz.zeroValue158 }
theorem sh_Builder_Extra_169 : Builder.Extra Tryz.prog sh_lays169_ren := {
  sizeBuilder := by kernel_rfl
  liesBuilder := by kernel_rfl
  t5 := Tryz.underlying5
  a5 := Tryz.isAgg5
  z5 := Tryz.sizeOf5
  v5 := Tryz.zeroValue5
  infoByte := by kernel_rfl
  cellsByte := by kernel_rfl
  sizeByte := by kernel_rfl
  neB5 := by decide }
open Go.RowKit in
/-- (*strings.Builder).String: "String returns the accumulated string.": WHATEVER THE BUILDER HOLDS. (LAID: no walk: one application.) -/
theorem sh_Builder_String_any (B b : Nat) (l : List UInt8) (w : World) (h : Lib.IsBuilder 94 5 B b (Lib.byteCells l) w) (hBw : B ≤ w.heap.size) :
    Calls Tryz.prog 51 #[.pointer (some ⟨b, 0, none⟩)] w fun e w' => e = .returned (.string ⟨l.toArray⟩) ∧ Below B w w' := Any.Builder_String_any sh_lays169 sh_Builder_Extra_169 B b l w h hBw
def sh_laysM173_ren : Go.Shelf.Ren := ⟨fun | 173 => 107 | 246 => 144 | 283 => 160 | 284 => 161 | 285 => 162 | 286 => 163 | 129 => 186 | 317 => 185 | 318 => 187 | 319 => 188 | 320 => 189 | 337 => 197 | 338 => 198 | n => n, fun | 2 => 2 | 3 => 3 | 9 => 9 | 4 => 4 | 171 => 201 | 0 => 0 | 53 => 28 | 37 => 22 | 5 => 5 | 173 => 204 | 212 => 223 | 51 => 134 | 20 => 20 | 213 => 224 | 46 => 129 | 232 => 238 | 233 => 239 | n => n, fun | 17 => 4 | 18 => 7 | 19 => 8 | n => n⟩
theorem sh_laysM173 : Go.Proofs.LaysM.n173 Tryz.prog sh_laysM173_ren := {
  mixed := by kernel_rfl
  f129 := Tryz.func186.trans (congrArg some (by kernel_rfl))
  f173 := Tryz.func107.trans (congrArg some (by kernel_rfl))
  f246 := Tryz.func144.trans (congrArg some (by kernel_rfl))
  f283 := Tryz.func160.trans (congrArg some (by kernel_rfl))
  f284 := Tryz.func161.trans (congrArg some (by kernel_rfl))
  f285 := Tryz.func162.trans (congrArg some (by kernel_rfl))
  f286 := Tryz.func163.trans (congrArg some (by kernel_rfl))
  f317 := Tryz.func185.trans (congrArg some (by kernel_rfl))
  f318 := Tryz.func187.trans (congrArg some (by kernel_rfl))
  f319 := Tryz.func188.trans (congrArg some (by kernel_rfl))
  f320 := Tryz.func189.trans (congrArg some (by kernel_rfl))
  f337 := Tryz.func197.trans (congrArg some (by kernel_rfl))
  f338 := Tryz.func198.trans (congrArg some (by kernel_rfl))
  t0 := Tryz.underlying0
  a0 := Tryz.isAgg0
  z0 := Tryz.sizeOf0
  v0 := Tryz.zeroValue0
  t2 := Tryz.underlying2
  a2 := Tryz.isAgg2
  z2 := Tryz.sizeOf2
  v2 := Tryz.zeroValue2
  t3 := Tryz.underlying3
  a3 := Tryz.isAgg3
  z3 := Tryz.sizeOf3
  v3 := Tryz.zeroValue3
  t4 := Tryz.underlying4
  a4 := Tryz.isAgg4
  z4 := Tryz.sizeOf4
  v4 := Tryz.zeroValue4
  t5 := Tryz.underlying5
  a5 := Tryz.isAgg5
  z5 := Tryz.sizeOf5
  v5 := Tryz.zeroValue5
  t9 := Tryz.underlying9
  a9 := Tryz.isAgg9
  z9 := Tryz.sizeOf9
  v9 := Tryz.zeroValue9
  t20 := Tryz.underlying20
  a20 := Tryz.isAgg20
  z20 := Tryz.sizeOf20
  v20 := Tryz.zeroValue20
  t37 := Tryz.underlying22
  a37 := Tryz.isAgg22
  z37 := Tryz.sizeOf22
  v37 := Tryz.zeroValue22
  t46 := Tryz.underlying129
  a46 := Tryz.isAgg129
  z46 := Tryz.sizeOf129
  v46 := Tryz.zeroValue129
  t51 := Tryz.underlying134
  a51 := Tryz.isAgg134
  z51 := Tryz.sizeOf134
  v51 := Tryz.zeroValue134
  t53 := Tryz.underlying28
  a53 := Tryz.isAgg28
  z53 := Tryz.sizeOf28
  v53 := Tryz.zeroValue28
  t171 := Tryz.underlying201
  a171 := Tryz.isAgg201
  z171 := Tryz.sizeOf201
  v171 := Tryz.zeroValue201
  t173 := Tryz.underlying204
  a173 := Tryz.isAgg204
  z173 := Tryz.sizeOf204
  v173 := Tryz.zeroValue204
  t212 := Tryz.underlying223
  a212 := Tryz.isAgg223
  z212 := Tryz.sizeOf223
  v212 := Tryz.zeroValue223
  t213 := Tryz.underlying224
  a213 := Tryz.isAgg224
  z213 := Tryz.sizeOf224
  t232 := Tryz.underlying238
  a232 := Tryz.isAgg238
  z232 := Tryz.sizeOf238
  v232 := Tryz.zeroValue238
  t233 := Tryz.underlying239
  a233 := Tryz.isAgg239
  z233 := Tryz.sizeOf239
  v233 := Tryz.zeroValue239
  g17 := by kernel_rfl
  g18 := by kernel_rfl
  g19 := by kernel_rfl
  i0 := by kernel_rfl
  i2 := by kernel_rfl
  i3 := by kernel_rfl
  i4 := by kernel_rfl
  i5 := by kernel_rfl
  i9 := by kernel_rfl
  i20 := by kernel_rfl
  i37 := by kernel_rfl
  i46 := by kernel_rfl
  i51 := by kernel_rfl
  i53 := by kernel_rfl
  i171 := by kernel_rfl
  i173 := by kernel_rfl
  i212 := by kernel_rfl
  i232 := by kernel_rfl
  i233 := by kernel_rfl
  m17 := by kernel_rfl
  m18 := by kernel_rfl
  m19 := by kernel_rfl }
open Go.RowKit Go.Sort Go.Lib in
/-- strconv.FormatInt: "FormatInt returns the string representation of i in the given base": AT BASE 10: i's decimal numeral, for every int64. (LAID: no walk: one application.) -/
theorem sh_strconv_FormatInt_10 (n : Int) (h0 : -9223372036854775808 ≤ n) (h1 : n ≤ 9223372036854775807) (w : World) (htab : Lib.TabIs Tryz.prog w "internal/strconv.uint64pow10" .u64 Lib.pow10Tab) :
    Calls Tryz.prog 107 #[.int .i64 n, .int .i64 10] w fun e w' => e = .returned (.string ⟨(Lib.itoa n).toArray⟩) ∧ ∃ k os, w' = grow (w.drewN k) os := Any.strconv_FormatInt_10 sh_laysM173 n h0 h1 w htab
end Go.Proofs.YtdnnjahdcabdmaaGreatDoor
