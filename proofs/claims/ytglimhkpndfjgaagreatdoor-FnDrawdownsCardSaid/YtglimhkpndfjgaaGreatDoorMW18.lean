import Derived.Test.YtglimhkpndfjgaaGreatDoorMW01
import Derived.Shelf.Strings.Builder1
import Derived.Shelf.Strings.Builder2
import Derived.Shelf.Small.Bits
import Derived.Shelf.Small.Strs
import Derived.Shelf.Strings.BuilderF
import Derived.Shelf.Strings.BuilderK
import Derived.Shelf.Utf8.RuneCount
import Derived.Shelf.Strings.Builder2Cap
import Derived.Shelf.Strconv.Itoa0
import Derived.Shelf.Strconv.Itoa1
import Derived.Shelf.LaysM
import Derived.Shelf.Strconv.Itoa2
import Derived.Shelf.Strconv.Itoa3
import Derived.Shelf.Strconv.Itoa4
import Derived.Shelf.Strconv.ParseIntEmpty
import Derived.Shelf.Strconv.Clone
import Derived.Shelf.Strconv.SyntaxError
import Derived.Shelf.LaysC
import Derived.Shelf.Strconv.ToError
import Derived.Shelf.Strconv.Lower
import Derived.Shelf.Strconv.ParseUint10
import Derived.Shelf.Strconv.ParseUint10Empty
import Derived.Shelf.Strconv.ParseUint10Any
import Derived.Shelf.Strconv.ParseInt10
import Derived.Shelf.Strconv.RangeError
import Derived.Shelf.Strconv.ToErrorRange
import Derived.Shelf.Strconv.ParseUintEmpty
import Derived.Shelf.Strconv.ParseUint10b64
import Derived.Shelf.Strconv.ParseUint10b32
import Derived.Shelf.Strconv.ParseUint10b16
import Derived.Shelf.Strconv.ParseUint10b8
import Derived.Shelf.Strconv.ParseUint10At
import Derived.Shelf.Strconv.ParseInt10At64
import Derived.Shelf.Strconv.ParseInt10At32
import Derived.Shelf.Strconv.ParseInt10At16
import Derived.Shelf.Strconv.ParseInt10At8
import Derived.Shelf.Strconv.ParseInt10All
import Derived.Shelf.Strconv.ParseIntPublic10
import Derived.Shelf.Strconv.ErrVarParseInt
import Derived.Ground.MpProg
import Derived.Shelf.Pu.ParseUintPublic10
import Derived.Shelf.Pu.ErrVarParseUint
import Derived.Shelf.Strings.Search1
import Derived.Shelf.Strings.Search2
import Derived.Shelf.Strings.Search3
import Derived.Shelf.Strings.Count
import Derived.Shelf.Strings.Shaped
import Derived.Shelf.Strings.Prefix
import Derived.Shelf.Strings.Split
import Derived.Shelf.Strings.SplitShaped
import Derived.Shelf.Unicode.Decode
import Derived.Shelf.Strings.RuneCount
import Derived.Shelf.Strings.Explode
import Derived.Shelf.Bits.Mul64
import Derived.Shelf.Strings.Repeat
import Derived.Shelf.Unicode.DecodeSlow
import Derived.Shelf.Unicode.DecodeAny
import Derived.Shelf.Strings.BuilderCap
import Derived.Test.YtglimhkpndfjgaaGreatDoorMW17
import Derived.Test.YtglimhkpndfjgaaGreatDoorMW11
/- Contracts of the library's functions, laid at this program by the shelf's tool (numbers of this seat alone). -/
namespace Go.Proofs.YtglimhkpndfjgaaGreatDoor
open Go.Shelf
def sh_laysC245_ren : Go.Shelf.Ren := ⟨fun | 245 => 150 | 279 => 184 | 280 => 185 | 281 => 186 | 282 => 187 | 316 => 212 | 171 => 214 | 205 => 213 | 243 => 231 | 246 => 194 | 283 => 215 | 284 => 216 | 285 => 217 | 286 => 218 | 129 => 174 | 317 => 232 | 318 => 233 | 319 => 234 | 320 => 235 | 337 => 238 | 338 => 239 | n => n, fun | 9 => 9 | 3 => 3 | 75 => 136 | 167 => 188 | 4 => 4 | 168 => 190 | 210 => 214 | 37 => 22 | 0 => 0 | 127 => 166 | 145 => 231 | 143 => 229 | 2 => 2 | 171 => 217 | 53 => 126 | 5 => 5 | 173 => 219 | 212 => 233 | 51 => 140 | 20 => 20 | 213 => 234 | 46 => 157 | 232 => 242 | 233 => 243 | 80 => 151 | n => n, fun | 15 => 1 | 16 => 2 | 17 => 4 | 18 => 7 | 19 => 8 | n => n⟩
theorem sh_laysC245 : Go.Proofs.LaysC.n245 Tryz.prog sh_laysC245_ren := {
  mixed := by kernel_rfl
  f129 := Tryz.func174.trans (congrArg some (by kernel_rfl))
  f171 := Tryz.func214.trans (congrArg some (by kernel_rfl))
  f205 := Tryz.func213.trans (congrArg some (by kernel_rfl))
  f243 := Tryz.func231.trans (congrArg some (by kernel_rfl))
  f245 := Tryz.func150.trans (congrArg some (by kernel_rfl))
  f246 := Tryz.func194.trans (congrArg some (by kernel_rfl))
  f279 := Tryz.func184.trans (congrArg some (by kernel_rfl))
  f280 := Tryz.func185.trans (congrArg some (by kernel_rfl))
  f281 := Tryz.func186.trans (congrArg some (by kernel_rfl))
  f282 := Tryz.func187.trans (congrArg some (by kernel_rfl))
  f283 := Tryz.func215.trans (congrArg some (by kernel_rfl))
  f284 := Tryz.func216.trans (congrArg some (by kernel_rfl))
  f285 := Tryz.func217.trans (congrArg some (by kernel_rfl))
  f286 := Tryz.func218.trans (congrArg some (by kernel_rfl))
  f316 := Tryz.func212.trans (congrArg some (by kernel_rfl))
  f317 := Tryz.func232.trans (congrArg some (by kernel_rfl))
  f318 := Tryz.func233.trans (congrArg some (by kernel_rfl))
  f319 := Tryz.func234.trans (congrArg some (by kernel_rfl))
  f320 := Tryz.func235.trans (congrArg some (by kernel_rfl))
  f337 := Tryz.func238.trans (congrArg some (by kernel_rfl))
  f338 := Tryz.func239.trans (congrArg some (by kernel_rfl))
  t0 := Tryz.underlying0
  a0 := Tryz.isAgg0
  z0 := Tryz.sizeOf0
  v0 := Tryz.zeroValue0
  t2 := Tryz.underlying2
  a2 := Tryz.isAgg2
  z2 := Tryz.sizeOf2
  v2 := Tryz.zeroValue2
  t3 := Tryz.underlying3
  a3 := Tryz.isAgg3
  z3 := Tryz.sizeOf3
  v3 := Tryz.zeroValue3
  t4 := Tryz.underlying4
  a4 := Tryz.isAgg4
  z4 := Tryz.sizeOf4
  v4 := Tryz.zeroValue4
  t5 := Tryz.underlying5
  a5 := Tryz.isAgg5
  z5 := Tryz.sizeOf5
  v5 := Tryz.zeroValue5
  t9 := Tryz.underlying9
  a9 := Tryz.isAgg9
  z9 := Tryz.sizeOf9
  v9 := Tryz.zeroValue9
  t20 := Tryz.underlying20
  a20 := Tryz.isAgg20
  z20 := Tryz.sizeOf20
  v20 := Tryz.zeroValue20
  t37 := Tryz.underlying22
  a37 := Tryz.isAgg22
  z37 := Tryz.sizeOf22
  v37 := Tryz.zeroValue22
  t46 := Tryz.underlying157
  a46 := Tryz.isAgg157
  z46 := Tryz.sizeOf157
  v46 := Tryz.zeroValue157
  t51 := Tryz.underlying140
  a51 := Tryz.isAgg140
  z51 := Tryz.sizeOf140
  v51 := Tryz.zeroValue140
  t53 := Tryz.underlying126
  a53 := Tryz.isAgg126
  z53 := Tryz.sizeOf126
  v53 := Tryz.zeroValue126
  t75 := Tryz.underlying136
  a75 := Tryz.isAgg136
  z75 := Tryz.sizeOf136
  v75 := Tryz.zeroValue136
  t127 := Tryz.underlying166
  a127 := Tryz.isAgg166
  z127 := Tryz.sizeOf166
  v127 := Tryz.zeroValue166
  t143 := Tryz.underlying229
  a143 := Tryz.isAgg229
  z143 := Tryz.sizeOf229
  v143 := Tryz.zeroValue229
  t145 := Tryz.underlying231
  a145 := Tryz.isAgg231
  z145 := Tryz.sizeOf231
  v145 := Tryz.zeroValue231
  t167 := Tryz.underlying188
  a167 := Tryz.isAgg188
  z167 := Tryz.sizeOf188
  v167 := Tryz.zeroValue188
  t168 := Tryz.underlying190
  a168 := Tryz.isAgg190
  z168 := Tryz.sizeOf190
  v168 := Tryz.zeroValue190
  t171 := Tryz.underlying217
  a171 := Tryz.isAgg217
  z171 := Tryz.sizeOf217
  v171 := Tryz.zeroValue217
  t173 := Tryz.underlying219
  a173 := Tryz.isAgg219
  z173 := Tryz.sizeOf219
  v173 := Tryz.zeroValue219
  t210 := Tryz.underlying214
  a210 := Tryz.isAgg214
  z210 := Tryz.sizeOf214
  v210 := Tryz.zeroValue214
  t212 := Tryz.underlying233
  a212 := Tryz.isAgg233
  z212 := Tryz.sizeOf233
  v212 := Tryz.zeroValue233
  t213 := Tryz.underlying234
  a213 := Tryz.isAgg234
  z213 := Tryz.sizeOf234
  t232 := Tryz.underlying242
  a232 := Tryz.isAgg242
  z232 := Tryz.sizeOf242
  v232 := Tryz.zeroValue242
  t233 := Tryz.underlying243
  a233 := Tryz.isAgg243
  z233 := Tryz.sizeOf243
  v233 := Tryz.zeroValue243
  g15 := by kernel_rfl
  g16 := by kernel_rfl
  g17 := by kernel_rfl
  g18 := by kernel_rfl
  g19 := by kernel_rfl
  t80 := Tryz.underlying151
  a80 := Tryz.isAgg151
  z80 := Tryz.sizeOf151
  v80 := Tryz.zeroValue151
  i0 := by kernel_rfl
  i2 := by kernel_rfl
  i3 := by kernel_rfl
  i4 := by kernel_rfl
  i5 := by kernel_rfl
  i9 := by kernel_rfl
  i20 := by kernel_rfl
  i37 := by kernel_rfl
  i46 := by kernel_rfl
  i51 := by kernel_rfl
  i53 := by kernel_rfl
  i75 := by kernel_rfl
  i80 := by kernel_rfl
  i127 := by kernel_rfl
  i143 := by kernel_rfl
  i145 := by kernel_rfl
  i167 := by kernel_rfl
  i168 := by kernel_rfl
  i171 := by kernel_rfl
  i173 := by kernel_rfl
  i210 := by kernel_rfl
  i212 := by kernel_rfl
  i232 := by kernel_rfl
  i233 := by kernel_rfl
  m15 := by kernel_rfl
  m16 := by kernel_rfl
  m17 := by kernel_rfl
  m18 := by kernel_rfl
  m19 := by kernel_rfl
  c0 := by kernel_rfl
  c2 := by kernel_rfl
  c3 := by kernel_rfl
  c4 := by kernel_rfl
  c5 := by kernel_rfl
  c9 := by kernel_rfl
  c20 := by kernel_rfl
  c37 := by kernel_rfl
  c46 := by kernel_rfl
  c51 := by kernel_rfl
  c53 := by kernel_rfl
  c75 := by kernel_rfl
  c80 := by kernel_rfl
  c127 := by kernel_rfl
  c143 := by kernel_rfl
  c145 := by kernel_rfl
  c167 := by kernel_rfl
  c168 := by kernel_rfl
  c171 := by kernel_rfl
  c173 := by kernel_rfl
  c210 := by kernel_rfl
  c212 := by kernel_rfl
  c213 := by kernel_rfl
  c232 := by kernel_rfl
  c233 := by kernel_rfl }
open Go.RowKit in
/-- strconv.toError, at the inner package's ErrSyntax: 'syntaxError(fn, s)' as an error: A *NumError IN A NEW BLOCK. (LAID: no walk: one application.) -/
theorem sh_strconv_toError_syntax (fn s : ByteArray) (base bits : Int) (ev : Value) (w : World) (hlim : s.size ≤ 281474976710656) (hv : w.cell? ⟨1, 0, none⟩ = some ev) (hev : ev = .nilIface ∨ ∃ te pe, ev = .iface te pe) :
    Calls Tryz.prog 150 #[.string fn, .string s, .int .i64 base, .int .i64 bits, .iface 188 (.int .i64 2)] w fun e w' => ∃ N, e = .returned (.iface 190 (.pointer (some ⟨N, 0, none⟩))) ∧ w.heap.size ≤ N ∧ w'.heap[N]? = some (.cells #[.string fn, .string s, ev] 214 (0, 0)) ∧ Below w.heap.size w w' := Any.strconv_toError_syntax sh_laysC245 fn s base bits ev w hlim hv hev
open Go.RowKit in
/-- strconv.toError, at the inner package's ErrRange: 'rangeError(fn, s)' as an error: A *NumError IN A NEW BLOCK. (LAID: no walk: one application.) -/
theorem sh_strconv_toError_range (fn s : ByteArray) (base bits : Int) (ev : Value) (w : World) (hlim : s.size ≤ 281474976710656) (hv : w.cell? ⟨2, 0, none⟩ = some ev) (hev : ev = .nilIface ∨ ∃ te pe, ev = .iface te pe) :
    Calls Tryz.prog 150 #[.string fn, .string s, .int .i64 base, .int .i64 bits, .iface 188 (.int .i64 1)] w fun e w' => ∃ N, e = .returned (.iface 190 (.pointer (some ⟨N, 0, none⟩))) ∧ w.heap.size ≤ N ∧ w'.heap[N]? = some (.cells #[.string fn, .string s, ev] 214 (0, 0)) ∧ Below w.heap.size w w' := Any.strconv_toError_range sh_laysC245 fn s base bits ev w hlim hv hev
def sh_lays105_ren : Go.Shelf.Ren := ⟨fun | 105 => 152 | 212 => 189 | 99 => 190 | 165 => 191 | 166 => 122 | 170 => 192 | 169 => 124 | 263 => 219 | 264 => 220 | 206 => 221 | 240 => 154 | 241 => 222 | 276 => 193 | 277 => 236 | n => n, fun | 9 => 9 | 3 => 3 | 4 => 4 | 20 => 20 | 0 => 0 | 46 => 157 | 109 => 193 | 5 => 5 | 72 => 147 | 76 => 148 | 51 => 140 | 146 => 221 | 53 => 126 | 148 => 223 | 70 => 145 | 37 => 22 | 75 => 136 | 127 => 166 | 164 => 197 | 80 => 151 | n => n, fun | n => n⟩
theorem sh_lays105 : Go.Proofs.Lays.n105 Tryz.prog sh_lays105_ren := {
  mixed := by kernel_rfl
  f99 := Tryz.func190.trans (congrArg some (by kernel_rfl))
  f105 := Tryz.func152.trans (congrArg some (by kernel_rfl))
  f165 := Tryz.func191.trans (congrArg some (by kernel_rfl))
  f166 := Tryz.func122.trans (congrArg some (by kernel_rfl))
  f169 := Tryz.func124.trans (congrArg some (by kernel_rfl))
  f170 := Tryz.func192.trans (congrArg some (by kernel_rfl))
  f206 := Tryz.func221.trans (congrArg some (by kernel_rfl))
  f212 := Tryz.func189.trans (congrArg some (by kernel_rfl))
  f240 := Tryz.func154.trans (congrArg some (by kernel_rfl))
  f241 := Tryz.func222.trans (congrArg some (by kernel_rfl))
  f263 := Tryz.func219.trans (congrArg some (by kernel_rfl))
  f264 := Tryz.func220.trans (congrArg some (by kernel_rfl))
  f276 := Tryz.func193.trans (congrArg some (by kernel_rfl))
  f277 := Tryz.func236.trans (congrArg some (by kernel_rfl))
  t0 := Tryz.underlying0
  a0 := Tryz.isAgg0
  z0 := Tryz.sizeOf0
  v0 := Tryz.zeroValue0
  t3 := Tryz.underlying3
  a3 := Tryz.isAgg3
  z3 := Tryz.sizeOf3
  v3 := Tryz.zeroValue3
  t4 := Tryz.underlying4
  a4 := Tryz.isAgg4
  z4 := Tryz.sizeOf4
  v4 := Tryz.zeroValue4
  t5 := Tryz.underlying5
  a5 := Tryz.isAgg5
  z5 := Tryz.sizeOf5
  v5 := Tryz.zeroValue5
  t9 := Tryz.underlying9
  a9 := Tryz.isAgg9
  z9 := Tryz.sizeOf9
  v9 := Tryz.zeroValue9
  t20 := Tryz.underlying20
  a20 := Tryz.isAgg20
  z20 := Tryz.sizeOf20
  v20 := Tryz.zeroValue20
  t37 := Tryz.underlying22
  a37 := Tryz.isAgg22
  z37 := Tryz.sizeOf22
  v37 := Tryz.zeroValue22
  t46 := Tryz.underlying157
  a46 := Tryz.isAgg157
  z46 := Tryz.sizeOf157
  v46 := Tryz.zeroValue157
  t51 := Tryz.underlying140
  a51 := Tryz.isAgg140
  z51 := Tryz.sizeOf140
  v51 := Tryz.zeroValue140
  t53 := Tryz.underlying126
  a53 := Tryz.isAgg126
  z53 := Tryz.sizeOf126
  v53 := Tryz.zeroValue126
  t70 := Tryz.underlying145
  a70 := Tryz.isAgg145
  z70 := Tryz.sizeOf145
  v70 := Tryz.zeroValue145
  t72 := Tryz.underlying147
  a72 := Tryz.isAgg147
  z72 := Tryz.sizeOf147
  v72 := Tryz.zeroValue147
  t75 := Tryz.underlying136
  a75 := Tryz.isAgg136
  z75 := Tryz.sizeOf136
  v75 := Tryz.zeroValue136
  t76 := Tryz.underlying148
  a76 := Tryz.isAgg148
  z76 := Tryz.sizeOf148
  v76 := Tryz.zeroValue148
  t109 := Tryz.underlying193
  a109 := Tryz.isAgg193
  z109 := Tryz.sizeOf193
  v109 := Tryz.zeroValue193
  t127 := Tryz.underlying166
  a127 := Tryz.isAgg166
  z127 := Tryz.sizeOf166
  v127 := Tryz.zeroValue166
  t146 := Tryz.underlying221
  a146 := Tryz.isAgg221
  z146 := Tryz.sizeOf221
  v146 := Tryz.zeroValue221
  t148 := Tryz.underlying223
  a148 := Tryz.isAgg223
  z148 := Tryz.sizeOf223
  v148 := Tryz.zeroValue223
  t164 := Tryz.underlying197
  a164 := Tryz.isAgg197
  z164 := Tryz.sizeOf197
  v164 := Tryz.zeroValue197 }
theorem sh_Builder_Extra_105 : Builder.Extra Tryz.prog sh_lays105_ren := {
  sizeBuilder := by kernel_rfl
  liesBuilder := by kernel_rfl
  t5 := Tryz.underlying5
  a5 := Tryz.isAgg5
  z5 := Tryz.sizeOf5
  v5 := Tryz.zeroValue5
  infoByte := by kernel_rfl
  cellsByte := by kernel_rfl
  sizeByte := by kernel_rfl
  neB5 := by decide }
open Go.RowKit Go.Lib in
/-- **strings.Repeat: count ≥ 0, the result within one allocation: count copies of s.** (LAID: no walk: one application.) -/
theorem sh_strings_Repeat (s : ByteArray) (c : Nat) (w : World) (hc : c ≤ 9223372036854775807) (hlen : s.size * c ≤ 140737488355328) :
    Calls Tryz.prog 152 #[.string s, .int .i64 c] w fun e w' => e = .returned (.string ⟨(Lib.repeatL s.data.toList c).toArray⟩) ∧ Below w.heap.size w w' := Any.strings_Repeat sh_lays105 sh_Builder_Extra_105 s c w hc hlen
end Go.Proofs.YtglimhkpndfjgaaGreatDoor
/- NumberText and ReadNumber, in the program and in the reference: the walks. -/
namespace Go.Proofs.YtglimhkpndfjgaaGreatDoor
open Go.ChangeShapes Go.WideShapes Go.ChangeAt Go.RowKit
set_option linter.unusedVariables false
set_option linter.unusedSimpArgs false
attribute [local irreducible] Calls

/-- What the variables hold that the texts of numbers reach. -/
def NumVars (w : World) : Prop := (∃ te pe, w.cell? ⟨1, 0, none⟩ = some (.iface te pe)) ∧ (∃ te pe, w.cell? ⟨2, 0, none⟩ = some (.iface te pe)) ∧ w.cell? ⟨8, 15, none⟩ = some (.int .u8 4)
theorem NumVars.below {w w' : World} (h : NumVars w) (hb : Below w.heap.size w w') : NumVars w' := by
  obtain ⟨⟨a, b, h1⟩, ⟨c, d, h2⟩, h3⟩ := h
  exact ⟨⟨a, b, (hb.cell (p := ⟨1, 0, none⟩) (Lib.lt_of_cell h1)).trans h1⟩, ⟨c, d, (hb.cell (p := ⟨2, 0, none⟩) (Lib.lt_of_cell h2)).trans h2⟩, (hb.cell (p := ⟨8, 15, none⟩) (Lib.lt_of_cell h3)).trans h3⟩

theorem run_n32bits (b : Nat) (w : World) : (callFunc 132 #[.float .f32 b]).run Tryz.prog w = .ok (.value (.int .u32 b)) w := by
  kernel_rfl
theorem run_n32from (n : Int) (w : World) : (callFunc 117 #[.int .u32 n]).run Tryz.prog w = .ok (.value (.float .f32 n.toNat)) w := by
  kernel_rfl
theorem isNaN_any (b : Nat) (w : World) :
    Calls Tryz.prog 83 #[.float .f32 b] w fun e w' => e = .returned (.bool (isN .f32 b)) ∧ w' = w := by
  cases hn : isN .f32 b
  · have ho := order_self (k := .f32) hn
    go_enter Tryz.func83, Tryz.ntmps83
    go_wp2_with fail
    go_ret
    exact ⟨rfl, rfl⟩
  · have ho := order_nan_left (k := .f32) (x := b) (y := b) hn
    go_enter Tryz.func83, Tryz.ntmps83
    go_wp2_with fail
    go_ret
    exact ⟨rfl, rfl⟩
theorem repeat_zeros : ∀ k, Lib.repeatL [48] k = List.replicate k 48
  | 0 => rfl
  | k + 1 => by show [48] ++ Lib.repeatL [48] k = _; rw [repeat_zeros k]; rfl
theorem txt_nan {b : Nat} (h : isN .f32 b = true) : (⟨#[55, 102, 99, 48, 48, 48, 48, 48]⟩ : ByteArray) = ⟨(txt b).toArray⟩ := by
  unfold txt cn
  rw [cnk_of_nan h]
  decide
theorem txt_num {b : Nat} (h : isN .f32 b = false) (hb : b < 4294967296) : (⟨(List.replicate (8 - (hexL b).length) 48).toArray⟩ : ByteArray) ++ (⟨(hexL b).toArray⟩ : ByteArray) = ⟨(txt b).toArray⟩ := by
  unfold txt cn
  rw [cnk_of_not h, (hexL_length hb).2]
  show ByteArray.append _ _ = _
  rw [ByteArray.append_eq]
  apply congrArg ByteArray.mk
  simp
set_option maxHeartbeats 4000000 in
set_option maxRecDepth 100000 in
theorem numberText_any (b : Nat) (hb : b < 4294967296) (w : World) (hV : NumVars w) :
    Calls Tryz.prog 118 #[.float .f32 b] w fun e w' => e = .returned (.string ⟨(txt b).toArray⟩) ∧ Below w.heap.size w w' := by
  have h0 := fun w' => isNaN_any b w'
  cases hn : isN .f32 b <;> rw [hn] at h0
  · have h1 := fun w' => run_n32bits b w'
    have h2 := formatUint_any b hb w hV.2.2
    have h8 := (hexL_length hb).1
    have ht := txt_num hn hb
    have hs : (⟨(hexL b).toArray⟩ : ByteArray).size = (hexL b).length := by simp [ByteArray.size]
    have h3 := fun w' => sh_strings_Repeat ⟨#[48]⟩ (8 - (hexL b).length) w' (by omega) (by show 1 * _ ≤ _; omega)
    rw [show (⟨#[48]⟩ : ByteArray).data.toList = [48] from rfl, repeat_zeros] at h3
    have hk : ((8 - (hexL b).length : Nat) : Int) = 8 - ((hexL b).length : Int) := by omega
    rw [hk] at h3
    have hzs : (⟨(List.replicate (8 - (hexL b).length) 48).toArray⟩ : ByteArray).size ≤ 8 := by simp [ByteArray.size]
    have HT := Lib.hid ht
    clear ht hV hn hk
    generalize hexL b = L at *
    generalize (⟨(List.replicate (8 - L.length) 48).toArray⟩ : ByteArray) = Z at *
    go_enter Tryz.func118, Tryz.ntmps118
    go_wp2_with (first | (go_at_call 83; refine (h0 _).mono ?_; rintro e w' ⟨rfl, hw⟩; rw [hw]; clear hw w') | (go_at_call 151; refine h2.mono ?_; rintro e w1 ⟨rfl, hb1⟩) | (go_at_call 152; refine (h3 _).mono ?_; rintro e w2 ⟨rfl, hb2⟩))
    go_ret
    exact ⟨by rw [HT.out]; rfl, hb1.trans (hb2.mono hb1.size)⟩
  · have ht := txt_nan hn
    have HT := Lib.hid ht
    clear ht hn hV
    go_enter Tryz.func118, Tryz.ntmps118
    go_wp2_with (go_at_call 83; refine (h0 _).mono ?_; rintro e w' ⟨rfl, hw⟩; rw [hw]; clear hw w')
    go_ret
    exact ⟨by rw [HT.out]; rfl, Below.refl _ _⟩
set_option maxRecDepth 100000 in
theorem parseUint_empty (base bits : Int) (w : World) :
    Calls Tryz.prog 149 #[.string ⟨#[]⟩, .int .i64 base, .int .i64 bits] w fun e w' => e = .returned (.tuple #[.int .u64 0, .iface 188 (.int .i64 2)]) ∧ w' = w := by
  go_enter Tryz.func149, Tryz.ntmps149
  go_wp2_with fail
  go_ret2
  exact ⟨rfl, rfl⟩
set_option maxRecDepth 100000 in
set_option maxHeartbeats 4000000 in
/-- What strconv.ParseUint gives at base 16: the number, and whether there is no error. -/
theorem parseUintP_any (s : ByteArray) (hs : s.size ≤ 1048576) (w : World) (hV : NumVars w) :
    Calls Tryz.prog 116 #[.string s, .int .i64 16, .int .i64 32] w fun e w' => ((∃ n : Nat, n < 4294967296 ∧ e = .returned (.tuple #[.int .u64 n, .nilIface]) ∧ ((txt n = s.data.toList ∧ numL s.data.toList = some n) ∨ (txt n ≠ s.data.toList ∧ numL s.data.toList = none))) ∨ (∃ (n : Nat) (t : TypeId) (v : Value), n < 4294967296 ∧ e = .returned (.tuple #[.int .u64 n, .iface t v]) ∧ numL s.data.toList = none)) ∧ Below w.heap.size w w' := by
  obtain ⟨⟨t1, p1, h1⟩, ⟨t2, p2, h2⟩, _⟩ := hV
  have key : ∃ r : Sum Nat Bool, (∀ n, r = .inl n → n < 4294967296 ∧ ((txt n = s.data.toList ∧ numL s.data.toList = some n) ∨ (txt n ≠ s.data.toList ∧ numL s.data.toList = none))) ∧ ((∀ n, r ≠ .inl n) → numL s.data.toList = none) ∧ Calls Tryz.prog 149 #[.string s, .int .i64 16, .int .i64 32] w fun e w' => e = .returned (uTup r) ∧ Below w.heap.size w w' := by
    by_cases h0 : s.size = 0
    · have hsd : s.data.toList = [] := by
        have : s.data.toList.length = 0 := h0
        exact List.eq_nil_of_length_eq_zero this
      have he : s = ⟨#[]⟩ := by
        have : s.data = #[] := by simpa using hsd
        cases s; simp_all
      refine ⟨.inr false, (fun n h => by cases h), (fun _ => by rw [hsd]; rfl), ?_⟩
      subst he
      refine (parseUint_empty 16 32 w).mono ?_
      rintro e w' ⟨rfl, rfl⟩
      exact ⟨rfl, Below.refl _ _⟩
    · refine ⟨hexU 4294967295 0 s.data.toList, fun n h => numL_cases h, numL_none, ?_⟩
      refine (parseUint16_in s h0 hs w).mono ?_
      rintro e w' ⟨rfl, rfl⟩
      exact ⟨rfl, Lib.bytesWorld_below _ _ _⟩
  obtain ⟨r, hr1, hr2, hc⟩ := key
  have HR1 := Lib.hid hr1
  have HR2 := Lib.hid hr2
  have l1 := Lib.lt_of_cell h1
  have l2 := Lib.lt_of_cell h2
  have H1 := Lib.hid h1
  have H2 := Lib.hid h2
  clear hr1 hr2 h1 h2
  rcases r with n | b
  · skip
    have hc : Calls Tryz.prog 149 #[.string s, .int .i64 16, .int .i64 32] w fun e w' => e = .returned (.tuple #[.int .u64 n, .nilIface]) ∧ Below w.heap.size w w' := hc
    go_enter Tryz.func116, Tryz.ntmps116
    go_wp2_with (go_at_call 149; refine hc.mono ?_; rintro e w1 ⟨rfl, hb⟩)
    go_ret2
    exact ⟨.inl ⟨n, (HR1.out n rfl).1, rfl, (HR1.out n rfl).2⟩, hb⟩
  · cases b
    · skip
      have hc : Calls Tryz.prog 149 #[.string s, .int .i64 16, .int .i64 32] w fun e w' => e = .returned (.tuple #[.int .u64 0, .iface 188 (.int .i64 2)]) ∧ Below w.heap.size w w' := hc
      have hT := fun w1 (hb : Below w.heap.size w w1) => sh_strconv_toError_syntax ⟨#[80, 97, 114, 115, 101, 85, 105, 110, 116]⟩ s 16 32 (.iface t1 p1) w1 (by omega) ((hb.cell (p := ⟨1, 0, none⟩) l1).trans H1.out) (.inr ⟨_, _, rfl⟩)
      go_enter Tryz.func116, Tryz.ntmps116
      go_wp2_with (first | (go_at_call 149; refine hc.mono ?_; rintro e w1 ⟨rfl, hb⟩) | (go_at_call 150; refine (hT _ hb).mono ?_; rintro e w2 ⟨N, rfl, _, _, hb2⟩))
      go_ret2
      exact ⟨.inr ⟨0, _, _, by omega, rfl, HR2.out (fun n h => by cases h)⟩, hb.trans (hb2.mono hb.size)⟩
    · skip
      have hc : Calls Tryz.prog 149 #[.string s, .int .i64 16, .int .i64 32] w fun e w' => e = .returned (.tuple #[.int .u64 4294967295, .iface 188 (.int .i64 1)]) ∧ Below w.heap.size w w' := hc
      have hT := fun w1 (hb : Below w.heap.size w w1) => sh_strconv_toError_range ⟨#[80, 97, 114, 115, 101, 85, 105, 110, 116]⟩ s 16 32 (.iface t2 p2) w1 (by omega) ((hb.cell (p := ⟨2, 0, none⟩) l2).trans H2.out) (.inr ⟨_, _, rfl⟩)
      go_enter Tryz.func116, Tryz.ntmps116
      go_wp2_with (first | (go_at_call 149; refine hc.mono ?_; rintro e w1 ⟨rfl, hb⟩) | (go_at_call 150; refine (hT _ hb).mono ?_; rintro e w2 ⟨N, rfl, _, _, hb2⟩))
      go_ret2
      exact ⟨.inr ⟨4294967295, _, _, by omega, rfl, HR2.out (fun n h => by cases h)⟩, hb.trans (hb2.mono hb.size)⟩
end Go.Proofs.YtglimhkpndfjgaaGreatDoor
/- ReadNumber, in the program and in the reference: the walks. -/
namespace Go.Proofs.YtglimhkpndfjgaaGreatDoor
open Go.ChangeShapes Go.WideShapes Go.ChangeAt Go.RowKit
set_option linter.unusedVariables false
set_option linter.unusedSimpArgs false
attribute [local irreducible] Calls

theorem str_ne (a : List UInt8) (s : ByteArray) : (decide ((⟨a.toArray⟩ : ByteArray) = s)) = decide (a = s.data.toList) := by
  by_cases h : a = s.data.toList
  · subst h; simp
  · rw [decide_eq_false h]
    apply decide_eq_false
    intro he
    apply h
    rw [← he]
set_option maxRecDepth 100000 in
set_option maxHeartbeats 4000000 in
theorem readNumberI_any (s : ByteArray) (hs : s.size ≤ 1048576) (w : World) (hV : NumVars w) :
    Calls Tryz.prog 60 #[.string s] w fun e w' => e = .returned (.tuple #[.float .f32 (numB s.data.toList), .int .i64 (numC s.data.toList)]) ∧ Below w.heap.size w w' := by
  have hp := parseUintP_any s hs w hV
  have HV := Lib.hid hV
  have hfr := fun n w' => run_n32from n w'
  clear hV
  go_enter Tryz.func60, Tryz.ntmps60
  go_upto_region 1 with fail
  go_wp2_with (go_at_call 116; refine hp.mono ?_; rintro e w1 ⟨⟨n, hn, rfl, hc⟩ | ⟨n, t, v, hn, rfl, hc⟩, hb⟩)
  · have ht := numberText_any n hn w1 (HV.out.below hb)
    have hB : numB s.data.toList = (numL s.data.toList).getD 0 := rfl
    rcases hc with ⟨hc1, hc2⟩ | ⟨hc1, hc2⟩
    · have he : (⟨(txt n).toArray⟩ : ByteArray) = s := by rw [hc1]
      have HB : Hid (numB s.data.toList = n ∧ numC s.data.toList = 0) := Lib.hid (by unfold numB numC; rw [hc2]; exact ⟨rfl, rfl⟩)
      rw [he] at ht
      clear hc1 hc2 he hB
      refine ht.mono ?_
      rintro e w2 ⟨rfl, hb2⟩
      go_wp2_with fail
      go_ret2
      exact ⟨by rw [HB.out.1, HB.out.2]; rfl, hb.trans (hb2.mono hb.size)⟩
    · have he : ((⟨(txt n).toArray⟩ : ByteArray).toList == s.toList) = false := by
        rw [ByteArray.toList_mk, ByteArray.toList_eq]
        simpa using hc1
      have HB : Hid (numB s.data.toList = 0 ∧ numC s.data.toList = 5) := Lib.hid (by unfold numB numC; rw [hc2]; exact ⟨rfl, rfl⟩)
      clear hc1 hc2 hB
      generalize (⟨(txt n).toArray⟩ : ByteArray) = T at *
      refine ht.mono ?_
      rintro e w2 ⟨rfl, hb2⟩
      go_wp2_with fail
      go_ret2
      exact ⟨by rw [HB.out.1, HB.out.2]; rfl, hb.trans (hb2.mono hb.size)⟩
  · have HB : Hid (numB s.data.toList = 0 ∧ numC s.data.toList = 5) := Lib.hid (by unfold numB numC; rw [hc]; exact ⟨rfl, rfl⟩)
    go_ret2
    exact ⟨by rw [HB.out.1, HB.out.2]; rfl, hb⟩

theorem hexV_small {c : UInt8} {a d : Nat} (h : hexD c = some d) (k : Nat) (ha : a < 16 ^ k) : a * 16 + d < 16 ^ (k + 1) := by
  have := hexD_lt h
  rw [Nat.pow_succ]
  omega
theorem hexV_cons (a : Nat) (c : UInt8) (l : List UInt8) {d : Nat} (h : hexD c = some d) : hexV a (c :: l) = hexV (a * 16 + d) l := by
  rw [hexV, h]
theorem hexV_bad (a : Nat) (c : UInt8) (l : List UInt8) (h : hexD c = none) : hexV a (c :: l) = none := by
  rw [hexV, h]
end Go.Proofs.YtglimhkpndfjgaaGreatDoor
/- Wells read from a text: plain laws; no statement is proved here. -/
namespace Go.Proofs.YtglimhkpndfjgaaGreatDoor
open Go.ChangeShapes Go.WideShapes Go.ChangeAt Go.RowKit
set_option linter.unusedVariables false

def okWl (p : Wl) : Prop := (-100 ≤ p.px ∧ p.px ≤ 100) ∧ (-100 ≤ p.py ∧ p.py ≤ 100) ∧ plain p.rt = true ∧ p.rt < 4294967296
/-- Are wells valid? -/
def validL (n : Nat) (P : Nat → Wl) : Prop := n ≤ 12 ∧ ∀ i, i < n → okWl (P i)
theorem numL_plain {b : Nat} (h : plain b = true) (hb : b < 4294967296) : numL (txt b) = some b := by
  rw [numL_txt hb]
  unfold cn cnk
  rw [plain_numW h]
  rfl
theorem numB_txt {b : Nat} (h : plain b = true) (hb : b < 4294967296) : numB (txt b) = b ∧ numC (txt b) = 0 := by
  unfold numB numC; rw [numL_plain h hb]; exact ⟨rfl, rfl⟩
theorem numC_txt {l : List UInt8} (h : numC l = 0) : txt (numB l) = l ∧ numB l < 4294967296 := by
  unfold numC at h
  unfold numB
  cases hl : numL l with
  | none => rw [hl] at h; simp at h
  | some b =>
    have := numL_some hl
    exact ⟨this.2.2.2.2.symm, this.2.2.2.1⟩
theorem numB_lt (l : List UInt8) : numB l < 4294967296 := by
  unfold numB
  cases hl : numL l with
  | none => decide
  | some b => exact (numL_some hl).2.2.2.1
/-- A row's text without its end. -/
def rowV (p : Wl) : List UInt8 := glue 32 [Lib.itoa p.px, Lib.itoa p.py, txt p.rt]
def rowsV (P : Nat → Wl) (n : Nat) : List (List UInt8) := (List.range n).map fun i => rowV (P i)
def txtWl (P : Nat → Wl) : Nat → List UInt8
  | 0 => []
  | k + 1 => txtWl P k ++ (rowV (P k) ++ [10])
theorem txtWl_lined (P : Nat → Wl) : ∀ n, txtWl P n = lined 10 (rowsV P n)
  | 0 => rfl
  | n + 1 => by
    have ih := txtWl_lined P n
    unfold txtWl rowsV
    rw [List.range_succ, List.map_append]
    show _ = lined 10 (rowsV P n ++ [rowV (P n)])
    rw [lined_snoc, ih, List.append_assoc]
theorem txtWl_congr {P P' : Nat → Wl} : ∀ {n : Nat}, (∀ i, i < n → P i = P' i) → txtWl P n = txtWl P' n
  | 0, _ => rfl
  | n + 1, h => by unfold txtWl; rw [txtWl_congr (fun i hi => h i (by omega)), h n (by omega)]
theorem rowV_words {p : Wl} (h : p.rt < 4294967296) : splitL 32 (rowV p) = [Lib.itoa p.px, Lib.itoa p.py, txt p.rt] := by
  unfold rowV
  refine splitL_glue (by simp) fun a ha => ?_
  simp at ha
  rcases ha with rfl | rfl | rfl
  · exact itoa_not _ _ (by decide)
  · exact itoa_not _ _ (by decide)
  · exact txt_not _ h _ (by decide)
theorem rowV_not {p : Wl} (h : p.rt < 4294967296) : (10 : UInt8) ∉ rowV p := by
  have h1 := fun u => itoa_not u 10 (by decide)
  have h2 := txt_not p.rt h 10 (by decide)
  simp [rowV, glue, h1, h2]
theorem rowsV_not {P : Nat → Wl} {n : Nat} (h : ∀ i, i < n → (P i).rt < 4294967296) : ∀ a ∈ rowsV P n, (10 : UInt8) ∉ a := by
  intro a ha
  unfold rowsV at ha
  rw [List.mem_map] at ha
  obtain ⟨i, hi, rfl⟩ := ha
  exact rowV_not (h i (List.mem_range.1 hi))
theorem rowsV_len (P : Nat → Wl) (n : Nat) : (rowsV P n).length = n := by simp [rowsV]
theorem rowsV_get (P : Nat → Wl) (n i : Nat) (h : i < n) : (rowsV P n)[i]? = some (rowV (P i)) := by simp [rowsV, h]
theorem split_txtWl {P : Nat → Wl} {n : Nat} (h : ∀ i, i < n → (P i).rt < 4294967296) : splitL 10 (txtWl P n) = rowsV P n ++ [[]] := by
  rw [txtWl_lined]; exact splitL_lined (rowsV_not h)
def wlW (ws : List (List UInt8)) : Wl := ⟨sgV (ws.getD 0 []), sgV (ws.getD 1 []), numB (ws.getD 2 [])⟩
def rdL (l : List UInt8) (i : Nat) : Wl := wlW (wordsAt l i)
def in100 (z : Int) : Bool := decide (-100 ≤ z) && decide (z ≤ 100)
def okL (ws : List (List UInt8)) : Bool := sgB (ws.getD 0 []) && sgB (ws.getD 1 []) && in100 (sgV (ws.getD 0 [])) && in100 (sgV (ws.getD 1 [])) && decide (numC (ws.getD 2 []) = 0) && plain (numB (ws.getD 2 []))
def okLW (ws : List (List UInt8)) : Prop := ws.length = 3 ∧ okL ws = true
/-- Is a text that of wells? -/
def goodWl (l : List UInt8) : Prop := ∃ n P, validL n P ∧ l = txtWl P n
theorem wl_txt {P : Nat → Wl} {n : Nat} (h : validL n P) : rdN (txtWl P n) = n ∧ ∀ i, i < n → rdL (txtWl P n) i = P i ∧ okLW (wordsAt (txtWl P n) i) := by
  obtain ⟨h12, hp⟩ := h
  have hlt := fun i hi => (hp i hi).2.2.2
  refine ⟨by unfold rdN; rw [split_txtWl hlt]; simp [rowsV_len], fun i hi => ?_⟩
  have hw : wordsAt (txtWl P n) i = [Lib.itoa (P i).px, Lib.itoa (P i).py, txt (P i).rt] := by
    unfold wordsAt
    rw [split_txtWl hlt, List.getD_eq_getElem?_getD, List.getElem?_append_left (by rw [rowsV_len]; exact hi), rowsV_get _ _ _ hi]
    exact rowV_words (hlt i hi)
  obtain ⟨hx, hy, hpl, hlt'⟩ := hp i hi
  have s1 := sg_itoa (z := (P i).px) (by omega)
  have s2 := sg_itoa (z := (P i).py) (by omega)
  have s3 := numB_txt hpl hlt'
  refine ⟨?_, ?_⟩
  · unfold rdL wlW
    rw [hw]
    simp only [List.getD_cons_zero, List.getD_cons_succ, s1.1, s2.1, s3.1]
  · rw [hw]
    refine ⟨rfl, ?_⟩
    unfold okL in100
    simp only [List.getD_cons_zero, List.getD_cons_succ, s1.1, s1.2, s2.1, s2.2, s3.1, s3.2, hpl]
    simp; omega
theorem okLW_row {l : List UInt8} (h : okLW (splitL 32 l)) : rowV (wlW (splitL 32 l)) = l ∧ okWl (wlW (splitL 32 l)) := by
  have hg := glue_split 32 l
  obtain ⟨h1, h2⟩ := h
  generalize splitL 32 l = ws at *
  obtain ⟨a, b, c, rfl⟩ : ∃ a b c, ws = [a, b, c] := by
    match ws, h1 with
    | [a, b, c], _ => exact ⟨a, b, c, rfl⟩
  unfold okL in100 at h2
  simp only [List.getD_cons_zero, List.getD_cons_succ, Bool.and_eq_true, decide_eq_true_eq] at h2
  obtain ⟨⟨⟨⟨⟨s1, s2⟩, l1⟩, l2⟩, c3⟩, p3⟩ := h2
  have q1 := sg_some s1
  have q2 := sg_some s2
  have q3 := numC_txt c3
  unfold rowV wlW okWl
  simp only [List.getD_cons_zero, List.getD_cons_succ, q1, q2, q3.1]
  exact ⟨hg, l1, l2, p3, q3.2⟩
theorem goodWl_iff (l : List UInt8) : goodWl l ↔ ((splitL 10 l).getD (rdN l) [0] = [] ∧ (∀ i, i < rdN l → okLW (wordsAt l i)) ∧ rdN l ≤ 12) := by
  constructor
  · rintro ⟨n, P, h, rfl⟩
    obtain ⟨h1, h2⟩ := wl_txt h
    rw [h1]
    refine ⟨?_, fun i hi => (h2 i hi).2, h.1⟩
    rw [split_txtWl (fun i hi => (h.2 i hi).2.2.2), List.getD_eq_getElem?_getD, List.getElem?_append_right (by rw [rowsV_len]; exact Nat.le_refl _), rowsV_len, Nat.sub_self]; rfl
  · rintro ⟨h1, h2, h3⟩
    have hpos := List.length_pos_iff.2 (splitL_ne 10 l)
    have hn : rdN l + 1 = (splitL 10 l).length := by unfold rdN; omega
    have hrow := fun i (hi : i < rdN l) => okLW_row (l := (splitL 10 l).getD i []) (h2 i hi)
    refine ⟨rdN l, rdL l, ⟨h3, fun i hi => (hrow i hi).2⟩, ?_⟩
    rw [txtWl_lined]
    have hs : splitL 10 l = rowsV (rdL l) (rdN l) ++ [[]] := by
      apply List.ext_getElem?
      intro i
      by_cases hi : i < rdN l
      · rw [List.getElem?_append_left (by rw [rowsV_len]; exact hi), rowsV_get _ _ _ hi]
        have := (hrow i hi).1
        unfold rdL wordsAt
        rw [this, List.getD_eq_getElem?_getD, List.getElem?_eq_getElem (by omega)]; rfl
      · by_cases he : i = rdN l
        · subst he
          rw [List.getElem?_append_right (by rw [rowsV_len]; omega), rowsV_len, Nat.sub_self]
          rw [List.getD_eq_getElem?_getD, List.getElem?_eq_getElem (by omega)] at h1
          rw [List.getElem?_eq_getElem (by omega)]
          exact congrArg some h1
        · rw [List.getElem?_eq_none (by omega), List.getElem?_eq_none (by simp [rowsV_len]; omega)]
    exact (lined_of hs).symm
/-- A good text's lines, as the program finds them. -/
theorem lines_txtW {P : Nat → Wl} {n : Nat} (h : validL n P) : (linesL (txtWl P n)).length = n ∧ goodTo (txtWl P n) 3 12 n ∧ ∀ j, j < n → lineWs ((linesL (txtWl P n)).getD j []) = [Lib.itoa (P j).px, Lib.itoa (P j).py, txt (P j).rt] := by
  have hlt := fun i hi => (h.2 i hi).2.2.2
  have hl : linesL (txtWl P n) = (rowsV P n).map (· ++ [10]) := by rw [txtWl_lined]; exact linesL_lined _ (rowsV_not hlt)
  have hw : ∀ j, j < n → lineWs ((linesL (txtWl P n)).getD j []) = [Lib.itoa (P j).px, Lib.itoa (P j).py, txt (P j).rt] := fun j hj => by
    rw [hl, List.getD_eq_getElem?_getD, List.getElem?_map, rowsV_get _ _ _ hj]
    show lineWs (rowV (P j) ++ [10]) = _
    unfold lineWs
    rw [trim_end]
    exact rowV_words (hlt j hj)
  exact ⟨by rw [hl]; simp [rowsV_len], ⟨h.1, fun j hj => by rw [hw j hj]; rfl⟩, hw⟩
/-- The wells that the program reads off the lines' words. -/
def wlI (l : List UInt8) (j : Nat) : Wl := ⟨numZ (-100) 100 ((lineWs ((linesL l).getD j [])).getD 0 []), numZ (-100) 100 ((lineWs ((linesL l).getD j [])).getD 1 []), numB ((lineWs ((linesL l).getD j [])).getD 2 [])⟩
theorem wlI_in (l : List UInt8) (j : Nat) : (-100 ≤ (wlI l j).px ∧ (wlI l j).px ≤ 100) ∧ (-100 ≤ (wlI l j).py ∧ (wlI l j).py ≤ 100) ∧ (wlI l j).rt < 4294967296 :=
  ⟨numZ_in _ _ (by decide) _, numZ_in _ _ (by decide) _, numB_lt _⟩
theorem wlI_txt {P : Nat → Wl} {n : Nat} (h : validL n P) : ∀ j, j < n → wlI (txtWl P n) j = P j := fun j hj => by
  obtain ⟨hx, hy, hpl, hlt⟩ := h.2 j hj
  unfold wlI
  rw [(lines_txtW h).2.2 j hj]
  simp only [List.getD_cons_zero, List.getD_cons_succ]
  rw [numZ_itoa (z := (P j).px) (by omega) (by omega), numZ_itoa (z := (P j).py) (by omega) (by omega), (numB_txt hpl hlt).1]
/-- Is some well none? -/
def badL (p : Wl) : Bool := !plain p.rt
/-- What the program finds is what the reference finds. -/
theorem goodWl_I (l : List UInt8) : goodWl l ↔ (goodTo l 3 12 (linesL l).length ∧ anyTo badL (wlI l) (linesL l).length = false ∧ txtWl (wlI l) (linesL l).length = l) := by
  constructor
  · rintro ⟨n, P, h, rfl⟩
    obtain ⟨h1, h2, h3⟩ := lines_txtW h
    rw [h1]
    exact ⟨h2, anyTo_false.2 fun i hi => by rw [wlI_txt h i hi]; unfold badL; rw [(h.2 i hi).2.2.1]; rfl, txtWl_congr (wlI_txt h)⟩
  · rintro ⟨h1, h2, h3⟩
    refine ⟨(linesL l).length, wlI l, ⟨h1.1, fun i hi => ?_⟩, h3.symm⟩
    have h4 := anyTo_false.1 h2 i hi
    obtain ⟨a, b, c⟩ := wlI_in l i
    exact ⟨a, b, by unfold badL at h4; simpa using h4, c⟩
theorem goodWl_same {l : List UInt8} (h : goodWl l) : rdN l = (linesL l).length ∧ ∀ i, i < rdN l → rdL l i = wlI l i := by
  obtain ⟨n, P, h, rfl⟩ := h
  obtain ⟨h1, h2⟩ := wl_txt h
  obtain ⟨h3, h4, h5⟩ := lines_txtW h
  exact ⟨by rw [h1, h3], fun i hi => by rw [h1] at hi; rw [(h2 i hi).1, wlI_txt h i hi]⟩
open Classical in
/-- The code that goes with a text. -/
noncomputable def wlC (l : List UInt8) : Int := if goodWl l then 0 else 5
open Classical in
noncomputable def wlM (l : List UInt8) : Nat := if goodWl l then rdN l else 0
theorem wl_good {l : List UInt8} (h : goodWl l) : wlC l = 0 ∧ wlM l = rdN l := ⟨by unfold wlC; rw [if_pos h], by unfold wlM; rw [if_pos h]⟩
theorem wl_bad {l : List UInt8} (h : ¬ goodWl l) : wlC l = 5 ∧ wlM l = 0 := ⟨by unfold wlC; rw [if_neg h], by unfold wlM; rw [if_neg h]⟩
theorem wlM_le (l : List UInt8) : wlM l ≤ 12 ∧ ∀ i, i < wlM l → isN .f32 (rdL l i).rt = false := by
  by_cases h : goodWl l
  · rw [(wl_good h).2]
    have hi := (goodWl_iff l).1 h
    exact ⟨hi.2.2, fun i hi2 => plain_numW (okLW_row (l := (splitL 10 l).getD i []) (hi.2.1 i hi2)).2.2.2.1⟩
  · rw [(wl_bad h).2]; exact ⟨by omega, fun i hi => absurd hi (by omega)⟩
end Go.Proofs.YtglimhkpndfjgaaGreatDoor
