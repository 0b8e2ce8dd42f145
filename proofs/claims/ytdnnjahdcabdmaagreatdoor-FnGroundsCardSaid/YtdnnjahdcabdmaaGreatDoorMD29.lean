import Derived.Test.YtdnnjahdcabdmaaGreatDoorMD01
import Derived.Shelf.Strings.Builder1
import Derived.Shelf.Strings.Builder2
import Derived.Shelf.Strings.OnBuilder
import Derived.Shelf.Small.Strs
import Derived.Shelf.Strings.BuilderF
import Derived.Shelf.Strings.BuilderK
import Derived.Shelf.Utf8.RuneCount
import Derived.Shelf.Strings.Builder2Cap
import Derived.Shelf.Strconv.Itoa0
import Derived.Shelf.Strconv.Itoa1
import Derived.Shelf.LaysM
import Derived.Shelf.Strconv.Itoa2
import Derived.Shelf.Strconv.Itoa3
import Derived.Shelf.Strconv.Itoa4
import Derived.Shelf.Strconv.ParseIntEmpty
import Derived.Shelf.Strconv.Clone
import Derived.Shelf.Strconv.SyntaxError
import Derived.Shelf.LaysC
import Derived.Shelf.Strconv.ToError
import Derived.Shelf.Strconv.Lower
import Derived.Shelf.Strconv.ParseUint10
import Derived.Shelf.Strconv.ParseUint10Empty
import Derived.Shelf.Strconv.ParseUint10Any
import Derived.Shelf.Strconv.ParseInt10
import Derived.Shelf.Strconv.RangeError
import Derived.Shelf.Strconv.ToErrorRange
import Derived.Shelf.Strconv.ParseUintEmpty
import Derived.Shelf.Strconv.ParseUint10b64
import Derived.Shelf.Strconv.ParseUint10b32
import Derived.Shelf.Strconv.ParseUint10b16
import Derived.Shelf.Strconv.ParseUint10b8
import Derived.Shelf.Strconv.ParseUint10At
import Derived.Shelf.Strconv.ParseInt10At64
import Derived.Shelf.Strconv.ParseInt10At32
import Derived.Shelf.Strconv.ParseInt10At16
import Derived.Shelf.Strconv.ParseInt10At8
import Derived.Shelf.Strconv.ParseInt10All
import Derived.Shelf.Strconv.ParseIntPublic10
import Derived.Shelf.Strconv.ErrVarParseInt
import Derived.Ground.MpProg
import Derived.Shelf.Pu.ParseUintPublic10
import Derived.Shelf.Pu.ErrVarParseUint
import Derived.Shelf.Strings.Search1
import Derived.Shelf.Strings.Search2
import Derived.Shelf.Strings.Search3
import Derived.Shelf.Strings.Cut
import Derived.Shelf.Strings.Count
import Derived.Shelf.Strings.Shaped
import Derived.Shelf.Strings.Prefix
import Derived.Shelf.Strings.Split
import Derived.Shelf.Strings.SplitShaped
import Derived.Shelf.Unicode.Decode
import Derived.Shelf.Strings.RuneCount
import Derived.Shelf.Strings.Explode
import Derived.Shelf.Bits.Mul64
import Derived.Shelf.Strings.Repeat
import Derived.Shelf.Unicode.DecodeSlow
import Derived.Shelf.Unicode.DecodeAny
import Derived.Shelf.Strings.BuilderCap
import Derived.Test.YtdnnjahdcabdmaaGreatDoorMD28
import Derived.RangeFuncBound
import Derived.OwnWalkIn
import Derived.TacticsInMore
import Derived.LoopNIn
import Derived.LoopIn
import Derived.Shelf.RegionOpen
import Derived.WalkKit
/- Contracts of the library's functions, laid at this program by the shelf's tool (numbers of this seat alone). -/
namespace Go.Proofs.YtdnnjahdcabdmaaGreatDoor
open Go.Shelf
def sh_lays137_ren : Go.Shelf.Ren := ⟨fun | 137 => 140 | 217 => 169 | 266 => 190 | n => n, fun | 9 => 9 | 5 => 5 | 3 => 3 | n => n, fun | n => n⟩
theorem sh_lays137 : Go.Proofs.Lays.n137 Tryz.prog sh_lays137_ren := {
  mixed := by kernel_rfl
  f137 := Tryz.func140.trans (congrArg some (by kernel_rfl))
  f217 := Tryz.func169.trans (congrArg some (by kernel_rfl))
  f266 := Tryz.func190.trans (congrArg some (by kernel_rfl))
  t3 := Tryz.underlying3
  a3 := Tryz.isAgg3
  z3 := Tryz.sizeOf3
  v3 := Tryz.zeroValue3
  t5 := Tryz.underlying5
  a5 := Tryz.isAgg5
  z5 := Tryz.sizeOf5
  v5 := Tryz.zeroValue5
  t9 := Tryz.underlying9
  a9 := Tryz.isAgg9
  z9 := Tryz.sizeOf9
  v9 := Tryz.zeroValue9 }
open Go.RowKit in
/-- strings.IndexByte: "IndexByte returns the index of the first instance of c in s, or -1 if c is not present in s.": IT RETURNS 'Lib.indexByte s c'; the world is as it was. (LAID: no walk: one application.) -/
theorem sh_strings_IndexByte (s : ByteArray) (c : Int) (w : World) :
    Calls Tryz.prog 140 #[.string s, .int .u8 c] w fun e w' => e = .returned (.int .i64 (Lib.indexByte s.data.toList c.toNat.toUInt8)) ∧ w' = w := Any.strings_IndexByte sh_lays137 s c w
def sh_laysC174_ren : Go.Shelf.Ren := ⟨fun | 174 => 104 | 247 => 142 | 245 => 130 | 287 => 129 | 279 => 156 | 280 => 157 | 281 => 158 | 282 => 159 | 321 => 154 | 322 => 155 | 316 => 182 | 171 => 184 | 205 => 183 | 243 => 196 | 246 => 144 | 283 => 160 | 284 => 161 | 285 => 162 | 286 => 163 | 129 => 186 | 317 => 185 | 318 => 187 | 319 => 188 | 320 => 189 | 337 => 197 | 338 => 198 | n => n, fun | 9 => 9 | 3 => 3 | 2 => 2 | 75 => 96 | 85 => 155 | 4 => 4 | 167 => 195 | 5 => 5 | 53 => 28 | 175 => 131 | 46 => 129 | 168 => 197 | 37 => 22 | 0 => 0 | 210 => 220 | 21 => 21 | 127 => 158 | 145 => 230 | 143 => 228 | 171 => 201 | 173 => 204 | 212 => 223 | 51 => 134 | 20 => 20 | 213 => 224 | 232 => 238 | 233 => 239 | 80 => 100 | n => n, fun | 15 => 2 | 16 => 3 | 17 => 4 | 18 => 7 | 19 => 8 | n => n⟩
theorem sh_laysC174 : Go.Proofs.LaysC.n174 Tryz.prog sh_laysC174_ren := {
  mixed := by kernel_rfl
  f129 := Tryz.func186.trans (congrArg some (by kernel_rfl))
  f171 := Tryz.func184.trans (congrArg some (by kernel_rfl))
  f174 := Tryz.func104.trans (congrArg some (by kernel_rfl))
  f205 := Tryz.func183.trans (congrArg some (by kernel_rfl))
  f243 := Tryz.func196.trans (congrArg some (by kernel_rfl))
  f245 := Tryz.func130.trans (congrArg some (by kernel_rfl))
  f246 := Tryz.func144.trans (congrArg some (by kernel_rfl))
  f247 := Tryz.func142.trans (congrArg some (by kernel_rfl))
  f279 := Tryz.func156.trans (congrArg some (by kernel_rfl))
  f280 := Tryz.func157.trans (congrArg some (by kernel_rfl))
  f281 := Tryz.func158.trans (congrArg some (by kernel_rfl))
  f282 := Tryz.func159.trans (congrArg some (by kernel_rfl))
  f283 := Tryz.func160.trans (congrArg some (by kernel_rfl))
  f284 := Tryz.func161.trans (congrArg some (by kernel_rfl))
  f285 := Tryz.func162.trans (congrArg some (by kernel_rfl))
  f286 := Tryz.func163.trans (congrArg some (by kernel_rfl))
  f287 := Tryz.func129.trans (congrArg some (by kernel_rfl))
  f316 := Tryz.func182.trans (congrArg some (by kernel_rfl))
  f317 := Tryz.func185.trans (congrArg some (by kernel_rfl))
  f318 := Tryz.func187.trans (congrArg some (by kernel_rfl))
  f319 := Tryz.func188.trans (congrArg some (by kernel_rfl))
  f320 := Tryz.func189.trans (congrArg some (by kernel_rfl))
  f321 := Tryz.func154.trans (congrArg some (by kernel_rfl))
  f322 := Tryz.func155.trans (congrArg some (by kernel_rfl))
  f337 := Tryz.func197.trans (congrArg some (by kernel_rfl))
  f338 := Tryz.func198.trans (congrArg some (by kernel_rfl))
  t0 := Tryz.underlying0
  a0 := Tryz.isAgg0
  z0 := Tryz.sizeOf0
  v0 := Tryz.zeroValue0
  t2 := Tryz.underlying2
  a2 := Tryz.isAgg2
  z2 := Tryz.sizeOf2
  v2 := Tryz.zeroValue2
  t3 := Tryz.underlying3
  a3 := Tryz.isAgg3
  z3 := Tryz.sizeOf3
  v3 := Tryz.zeroValue3
  t4 := Tryz.underlying4
  a4 := Tryz.isAgg4
  z4 := Tryz.sizeOf4
  v4 := Tryz.zeroValue4
  t5 := Tryz.underlying5
  a5 := Tryz.isAgg5
  z5 := Tryz.sizeOf5
  v5 := Tryz.zeroValue5
  t9 := Tryz.underlying9
  a9 := Tryz.isAgg9
  z9 := Tryz.sizeOf9
  v9 := Tryz.zeroValue9
  t20 := Tryz.underlying20
  a20 := Tryz.isAgg20
  z20 := Tryz.sizeOf20
  v20 := Tryz.zeroValue20
  t21 := Tryz.underlying21
  a21 := Tryz.isAgg21
  z21 := Tryz.sizeOf21
  v21 := Tryz.zeroValue21
  t37 := Tryz.underlying22
  a37 := Tryz.isAgg22
  z37 := Tryz.sizeOf22
  v37 := Tryz.zeroValue22
  t46 := Tryz.underlying129
  a46 := Tryz.isAgg129
  z46 := Tryz.sizeOf129
  v46 := Tryz.zeroValue129
  t51 := Tryz.underlying134
  a51 := Tryz.isAgg134
  z51 := Tryz.sizeOf134
  v51 := Tryz.zeroValue134
  t53 := Tryz.underlying28
  a53 := Tryz.isAgg28
  z53 := Tryz.sizeOf28
  v53 := Tryz.zeroValue28
  t75 := Tryz.underlying96
  a75 := Tryz.isAgg96
  z75 := Tryz.sizeOf96
  v75 := Tryz.zeroValue96
  t85 := Tryz.underlying155
  a85 := Tryz.isAgg155
  z85 := Tryz.sizeOf155
  v85 := Tryz.zeroValue155
  t127 := Tryz.underlying158
  a127 := Tryz.isAgg158
  z127 := Tryz.sizeOf158
  v127 := Tryz.zeroValue158
  t143 := Tryz.underlying228
  a143 := Tryz.isAgg228
  z143 := Tryz.sizeOf228
  v143 := Tryz.zeroValue228
  t145 := Tryz.underlying230
  a145 := Tryz.isAgg230
  z145 := Tryz.sizeOf230
  v145 := Tryz.zeroValue230
  t167 := Tryz.underlying195
  a167 := Tryz.isAgg195
  z167 := Tryz.sizeOf195
  v167 := Tryz.zeroValue195
  t168 := Tryz.underlying197
  a168 := Tryz.isAgg197
  z168 := Tryz.sizeOf197
  v168 := Tryz.zeroValue197
  t171 := Tryz.underlying201
  a171 := Tryz.isAgg201
  z171 := Tryz.sizeOf201
  v171 := Tryz.zeroValue201
  t173 := Tryz.underlying204
  a173 := Tryz.isAgg204
  z173 := Tryz.sizeOf204
  v173 := Tryz.zeroValue204
  t175 := Tryz.underlying131
  a175 := Tryz.isAgg131
  z175 := Tryz.sizeOf131
  v175 := Tryz.zeroValue131
  t210 := Tryz.underlying220
  a210 := Tryz.isAgg220
  z210 := Tryz.sizeOf220
  v210 := Tryz.zeroValue220
  t212 := Tryz.underlying223
  a212 := Tryz.isAgg223
  z212 := Tryz.sizeOf223
  v212 := Tryz.zeroValue223
  t213 := Tryz.underlying224
  a213 := Tryz.isAgg224
  z213 := Tryz.sizeOf224
  t232 := Tryz.underlying238
  a232 := Tryz.isAgg238
  z232 := Tryz.sizeOf238
  v232 := Tryz.zeroValue238
  t233 := Tryz.underlying239
  a233 := Tryz.isAgg239
  z233 := Tryz.sizeOf239
  v233 := Tryz.zeroValue239
  g15 := by kernel_rfl
  g16 := by kernel_rfl
  g17 := by kernel_rfl
  g18 := by kernel_rfl
  g19 := by kernel_rfl
  t80 := Tryz.underlying100
  a80 := Tryz.isAgg100
  z80 := Tryz.sizeOf100
  v80 := Tryz.zeroValue100
  i0 := by kernel_rfl
  i2 := by kernel_rfl
  i3 := by kernel_rfl
  i4 := by kernel_rfl
  i5 := by kernel_rfl
  i9 := by kernel_rfl
  i20 := by kernel_rfl
  i21 := by kernel_rfl
  i37 := by kernel_rfl
  i46 := by kernel_rfl
  i51 := by kernel_rfl
  i53 := by kernel_rfl
  i75 := by kernel_rfl
  i80 := by kernel_rfl
  i85 := by kernel_rfl
  i127 := by kernel_rfl
  i143 := by kernel_rfl
  i145 := by kernel_rfl
  i167 := by kernel_rfl
  i168 := by kernel_rfl
  i171 := by kernel_rfl
  i173 := by kernel_rfl
  i175 := by kernel_rfl
  i210 := by kernel_rfl
  i212 := by kernel_rfl
  i232 := by kernel_rfl
  i233 := by kernel_rfl
  m15 := by kernel_rfl
  m16 := by kernel_rfl
  m17 := by kernel_rfl
  m18 := by kernel_rfl
  m19 := by kernel_rfl
  c0 := by kernel_rfl
  c2 := by kernel_rfl
  c3 := by kernel_rfl
  c4 := by kernel_rfl
  c5 := by kernel_rfl
  c9 := by kernel_rfl
  c20 := by kernel_rfl
  c21 := by kernel_rfl
  c37 := by kernel_rfl
  c46 := by kernel_rfl
  c51 := by kernel_rfl
  c53 := by kernel_rfl
  c75 := by kernel_rfl
  c80 := by kernel_rfl
  c85 := by kernel_rfl
  c127 := by kernel_rfl
  c143 := by kernel_rfl
  c145 := by kernel_rfl
  c167 := by kernel_rfl
  c168 := by kernel_rfl
  c171 := by kernel_rfl
  c173 := by kernel_rfl
  c175 := by kernel_rfl
  c210 := by kernel_rfl
  c212 := by kernel_rfl
  c213 := by kernel_rfl
  c232 := by kernel_rfl
  c233 := by kernel_rfl }
def sh_lays102_ren : Go.Shelf.Ren := ⟨fun | 102 => 103 | 209 => 141 | 207 => 170 | n => n, fun | 9 => 9 | 4 => 4 | 3 => 3 | n => n, fun | n => n⟩
theorem sh_lays102 : Go.Proofs.Lays.n102 Tryz.prog sh_lays102_ren := {
  mixed := by kernel_rfl
  f102 := Tryz.func103.trans (congrArg some (by kernel_rfl))
  f207 := Tryz.func170.trans (congrArg some (by kernel_rfl))
  f209 := Tryz.func141.trans (congrArg some (by kernel_rfl))
  t3 := Tryz.underlying3
  a3 := Tryz.isAgg3
  z3 := Tryz.sizeOf3
  v3 := Tryz.zeroValue3
  t4 := Tryz.underlying4
  a4 := Tryz.isAgg4
  z4 := Tryz.sizeOf4
  v4 := Tryz.zeroValue4
  t9 := Tryz.underlying9
  a9 := Tryz.isAgg9
  z9 := Tryz.sizeOf9
  v9 := Tryz.zeroValue9 }
open Go.RowKit Go.Lib in
/-- strings.TrimSuffix: "TrimSuffix returns s without the provided trailing suffix string. If s doesn't end with suffix, s is returned unchanged.": IT RETURNS 'Lib.trimSuffix s suffix'; the world is as it was. (LAID: no walk: one application.) -/
theorem sh_strings_TrimSuffix (s p : ByteArray) (w : World) (hs : s.size ≤ 9223372036854775807) :
    Calls Tryz.prog 103 #[.string s, .string p] w fun e w' => e = .returned (.string ⟨(Lib.trimSuffix s.data.toList p.data.toList).toArray⟩) ∧ w' = w := Any.strings_TrimSuffix sh_lays102 s p w hs
def sh_lays147_ren : Go.Shelf.Ren := ⟨fun | 147 => 74 | 221 => 119 | 268 => 147 | 138 => 148 | 143 => 149 | 195 => 175 | 197 => 176 | 218 => 177 | 219 => 150 | 260 => 194 | 217 => 169 | 225 => 178 | 224 => 179 | 267 => 180 | 266 => 190 | 314 => 195 | n => n, fun | 9 => 9 | 3 => 3 | 31 => 89 | 4 => 4 | 0 => 0 | 105 => 214 | 21 => 21 | 5 => 5 | 46 => 129 | 119 => 234 | 139 => 237 | 138 => 236 | 146 => 206 | 51 => 134 | n => n, fun | 1 => 1 | 3 => 5 | 4 => 6 | n => n⟩
theorem sh_lays147 : Go.Proofs.Lays.n147 Tryz.prog sh_lays147_ren := {
  mixed := by kernel_rfl
  f138 := Tryz.func148.trans (congrArg some (by kernel_rfl))
  f143 := Tryz.func149.trans (congrArg some (by kernel_rfl))
  f147 := Tryz.func74.trans (congrArg some (by kernel_rfl))
  f195 := Tryz.func175.trans (congrArg some (by kernel_rfl))
  f197 := Tryz.func176.trans (congrArg some (by kernel_rfl))
  f217 := Tryz.func169.trans (congrArg some (by kernel_rfl))
  f218 := Tryz.func177.trans (congrArg some (by kernel_rfl))
  f219 := Tryz.func150.trans (congrArg some (by kernel_rfl))
  f221 := Tryz.func119.trans (congrArg some (by kernel_rfl))
  f224 := Tryz.func179.trans (congrArg some (by kernel_rfl))
  f225 := Tryz.func178.trans (congrArg some (by kernel_rfl))
  f260 := Tryz.func194.trans (congrArg some (by kernel_rfl))
  f266 := Tryz.func190.trans (congrArg some (by kernel_rfl))
  f267 := Tryz.func180.trans (congrArg some (by kernel_rfl))
  f268 := Tryz.func147.trans (congrArg some (by kernel_rfl))
  f314 := Tryz.func195.trans (congrArg some (by kernel_rfl))
  t0 := Tryz.underlying0
  a0 := Tryz.isAgg0
  z0 := Tryz.sizeOf0
  v0 := Tryz.zeroValue0
  t3 := Tryz.underlying3
  a3 := Tryz.isAgg3
  z3 := Tryz.sizeOf3
  v3 := Tryz.zeroValue3
  t4 := Tryz.underlying4
  a4 := Tryz.isAgg4
  z4 := Tryz.sizeOf4
  v4 := Tryz.zeroValue4
  t5 := Tryz.underlying5
  a5 := Tryz.isAgg5
  z5 := Tryz.sizeOf5
  v5 := Tryz.zeroValue5
  t9 := Tryz.underlying9
  a9 := Tryz.isAgg9
  z9 := Tryz.sizeOf9
  v9 := Tryz.zeroValue9
  t21 := Tryz.underlying21
  a21 := Tryz.isAgg21
  z21 := Tryz.sizeOf21
  v21 := Tryz.zeroValue21
  t31 := Tryz.underlying89
  a31 := Tryz.isAgg89
  z31 := Tryz.sizeOf89
  v31 := Tryz.zeroValue89
  t46 := Tryz.underlying129
  a46 := Tryz.isAgg129
  z46 := Tryz.sizeOf129
  v46 := Tryz.zeroValue129
  t51 := Tryz.underlying134
  a51 := Tryz.isAgg134
  z51 := Tryz.sizeOf134
  v51 := Tryz.zeroValue134
  t105 := Tryz.underlying214
  a105 := Tryz.isAgg214
  z105 := Tryz.sizeOf214
  v105 := Tryz.zeroValue214
  t119 := Tryz.underlying234
  a119 := Tryz.isAgg234
  z119 := Tryz.sizeOf234
  t138 := Tryz.underlying236
  a138 := Tryz.isAgg236
  z138 := Tryz.sizeOf236
  v138 := Tryz.zeroValue236
  t139 := Tryz.underlying237
  a139 := Tryz.isAgg237
  z139 := Tryz.sizeOf237
  v139 := Tryz.zeroValue237
  t146 := Tryz.underlying206
  a146 := Tryz.isAgg206
  z146 := Tryz.sizeOf206
  v146 := Tryz.zeroValue206
  g1 := by kernel_rfl
  g3 := by kernel_rfl
  g4 := by kernel_rfl }
open Go.RowKit Go.Lib in
/-- strings.SplitN, n > 0. (LAID: no walk: one application.) -/
theorem sh_strings_SplitN (s sep : ByteArray) (n : Nat) (m : Int) (w : World) (hs : s.size < 4294967281) (hm : w.cell? ⟨1, 0, none⟩ = some (.int .i64 m)) (h1 : 1 ≤ sep.size) (hn : 1 ≤ n) (hn63 : n ≤ 9223372036854775807) :
    Calls Tryz.prog 74 #[.string s, .string sep, .int .i64 n] w fun e w' =>
      e = .returned (.slice (some ⟨w.heap.size, 0, none⟩) (Lib.splitB sep 0 (min n (s.size + 1) - 1) s).length (min n (s.size + 1))) ∧ w' = w.alloc (.cells (Lib.cellsOf (Lib.splitB sep 0 (min n (s.size + 1) - 1) s) (min n (s.size + 1))) 9) := Any.strings_SplitN sh_lays147 (by kernel_rfl) s sep n m w hs hm h1 hn hn63
end Go.Proofs.YtdnnjahdcabdmaaGreatDoor
/- strings.Lines: the walk of the library's iterator. -/
namespace Go.Proofs.YtdnnjahdcabdmaaGreatDoor
open Go.ChangeShapes Go.WideShapes Go.ChangeAt Go.RowKit
set_option linter.unusedVariables false
set_option linter.unusedSimpArgs false
attribute [local go_sem] Oper.semAt_some

/-- How many bytes are left to come. -/
def leftOf (c : Nat) (W : World) : Nat := match W.cell? ⟨c, 0, none⟩ with | some (.string s) => s.size | _ => 0
theorem leftOf_eq {c : Nat} {l : List UInt8} {W : World} (h : LeftAt c (.string ⟨l.toArray⟩) W) : leftOf c W = l.length := by
  unfold leftOf; rw [h.1]; simp [ByteArray.size]
def argL (l : List UInt8) (k : Nat) : Value := .string ⟨((linesL l).getD k []).toArray⟩
def leftV (l : List UInt8) (k : Nat) : Value := .string ⟨(leftL l k).toArray⟩
theorem linesL_bounds {a b m : List UInt8} {n : Nat} (h : m = a ++ b) (hl : m.length ≤ n) : a.length ≤ n ∧ b.length ≤ n := by
  rw [h] at hl; simp at hl; omega
set_option maxRecDepth 100000 in
set_option maxHeartbeats 4000000 in
theorem lines_it (l : List UInt8) (hl : l.length ≤ 1048576) (n c : Nat) (hn : 1 ≤ n) : ItOk Fence.wide n Tryz.prog 139 #[.pointer (some ⟨c, 0, none⟩)] c (linesL l).length (argL l) (leftV l) := by
  intro L J Jx W hJs hY hJ0 hl0
  refine callsIn_of_wp Tryz.func139 rfl trivial ?_ rfl
  simp only [Tryz.ntmps139, List.size_toArray, List.length_cons, List.length_nil, Nat.reduceAdd, Nat.reduceSub, Array.replicate_succ, Array.replicate_zero, List.push_toArray, List.append_toArray, List.nil_append, List.cons_append]
  have HY := Lib.hid hY
  have HS := Lib.hid hJs
  clear hY hJs
  gi_wp2
  gi_loopw [3] (fun _ wr => ∃ k, k ≤ (linesL l).length ∧ J k wr ∧ LeftAt c (leftV l k) wr) (fun _ wr => leftOf c wr)
  case atStart => exact ⟨0, by omega, hJ0, hl0⟩
  case round =>
    obtain ⟨k, hk, hJ, hL⟩ := hrel
    have hsz := leftOf_eq hL
    have hlen := leftL_len l k
    obtain ⟨c0, f0⟩ := hL
    unfold leftV at c0
    by_cases hlt : k < (linesL l).length
    · obtain ⟨hst, hcase⟩ := leftL_step hlt
      have hlb := linesL_bounds hst hlen
      rcases hcase with ⟨p, hp, hnp⟩ | ⟨hnp, hne, hre⟩
      · have hrest := leftL_len l (k + 1)
        have hS : (⟨(leftL l k).toArray⟩ : ByteArray).size = p.length + 1 + (leftL l (k + 1)).length := by
          rw [hst, hp]; simp [ByteArray.size]; omega
        have hix := fun w' => sh_strings_IndexByte ⟨(leftL l k).toArray⟩ 10 w'
        have e10 : (10 : Int).toNat.toUInt8 = 10 := rfl
        have ed : (⟨(leftL l k).toArray⟩ : ByteArray).data.toList = p ++ 10 :: leftL l (k + 1) := by
          show (leftL l k).toArray.toList = _
          rw [hst, hp]; simp
        rw [ed, e10, indexByte_hit p _ 10 hnp] at hix
        have hx1 : (⟨(leftL l k).toArray⟩ : ByteArray).extract 0 (p.length + 1) = ⟨(p ++ [10]).toArray⟩ := by
          rw [extract_eq, ed]; simp [List.take_append, List.take_of_length_le]
        have hx2 : (⟨(leftL l k).toArray⟩ : ByteArray).extract (p.length + 1) (p.length + 1 + (leftL l (k + 1)).length) = ⟨(leftL l (k + 1)).toArray⟩ := by
          rw [extract_eq, ed]; simp [List.drop_append, List.take_append]
        have hpl : p.length ≤ 1048576 := by rw [hst, hp] at hlen; simp at hlen; omega
        have hgt : leftOf c wr = p.length + 1 + (leftL l (k + 1)).length := by rw [hsz, hst, hp]; simp; omega
        clear ed hlen hsz hst
        generalize (⟨(leftL l k).toArray⟩ : ByteArray) = S at *
        have hS0 : (0 : Int) < S.size := by omega
        gi_wp2_with (refine ⟨trivial, ?_⟩; gi_at_call 140; refine (callsIn_wide.2 (hix _)).mono ?_; rintro e w' ⟨rfl, hw⟩; rw [hw]; clear hw w')
        have hmx : Tryz.prog.follows .mixedOrders = true := by kernel_rfl
        gi_region_o
        have ha : argL l k = .string ⟨(p ++ [10]).toArray⟩ := by
          unfold argL; rw [List.getD_eq_getElem?_getD, List.getElem?_eq_getElem hlt]; simp [hp]
        have hstep : ItStep c wr (wr.setCell ⟨c, 0, none⟩ (.string ⟨(leftL l (k + 1)).toArray⟩)).drew := ⟨1, .inr ⟨_, rfl⟩⟩
        have hleft : LeftAt c (leftV l (k + 1)) (wr.setCell ⟨c, 0, none⟩ (.string ⟨(leftL l (k + 1)).toArray⟩)).drew := ⟨World.cell?_setCell_same' _ _ _ (by rw [c0]; rfl), by show (wr.setCell _ _).frozen? _ = false; rw [World.frozen?_setCell]; exact f0⟩
        obtain ⟨fn, tmps, assign, body, hy, hR⟩ := HY.out k _ hlt (HS.out k _ _ hJ hstep) hleft
        rw [ha] at hy
        clear hleft hstep ha
        generalize (wr.setCell ⟨c, 0, none⟩ (.string ⟨(leftL l (k + 1)).toArray⟩)).drew = W1 at *
        gi_wp2
        refine hR.mono ?_
        rintro e W' (⟨rfl, hJ', hL'⟩ | ⟨rfl, hx⟩)
        · gi_wp2
          go_roundw
          case rel => exact ⟨k + 1, by omega, hJ', hL'⟩
          case measure => rw [leftOf_eq hL']; rw [hgt]; omega
        · gi_wp2
          refine bodyPost_ret (results_none rfl _ _ _) rfl ?_
          exact ⟨⟨_, rfl⟩, .inr hx⟩
      · have hS : (⟨(leftL l k).toArray⟩ : ByteArray).size = (leftL l k).length := by simp [ByteArray.size]
        have hix := fun w' => sh_strings_IndexByte ⟨(leftL l k).toArray⟩ 10 w'
        have e10 : (10 : Int).toNat.toUInt8 = 10 := rfl
        have ed : (⟨(leftL l k).toArray⟩ : ByteArray).data.toList = leftL l k := by simp
        have hk0 : leftL l k = (linesL l)[k] := by rw [hst, hre]; simp
        rw [ed, e10, hk0, indexByte_miss _ 10 hnp] at hix
        have hpos : 0 < ((linesL l)[k]).length := List.length_pos_iff.2 hne
        rw [hk0] at hS hsz c0
        clear ed hlen hst hk0
        have hxx : linesL l ≠ [] := fun q => by rw [q] at hlt; simp at hlt
        generalize hG : (linesL l)[k] = G at *
        generalize hSe : (⟨G.toArray⟩ : ByteArray) = S at *
        have hS0 : (0 : Int) < S.size := by omega
        have ha : argL l k = .string S := by
          unfold argL; rw [List.getD_eq_getElem?_getD, List.getElem?_eq_getElem hlt, hG, ← hSe]; rfl
        have hr0 : leftV l (k + 1) = .string ⟨#[]⟩ := by unfold leftV; rw [hre]
        have hstep : ItStep c wr (wr.setCell ⟨c, 0, none⟩ (.string ⟨#[]⟩)) := ⟨0, .inr ⟨_, (World.drewN_zero _).symm⟩⟩
        have hleft : LeftAt c (leftV l (k + 1)) (wr.setCell ⟨c, 0, none⟩ (.string ⟨#[]⟩)) := by
          rw [hr0]
          exact ⟨World.cell?_setCell_same' _ _ _ (by rw [c0]; rfl), by rw [World.frozen?_setCell]; exact f0⟩
        obtain ⟨fn, tmps, assign, body, hy, hR⟩ := HY.out k _ hlt (HS.out k _ _ hJ hstep) hleft
        rw [ha] at hy
        have hsz2 : 0 < leftOf c wr := by rw [hsz]; exact hpos
        clear hleft hstep ha hSe hG hsz
        gi_wp2_with (refine ⟨trivial, ?_⟩; gi_at_call 140; refine (callsIn_wide.2 (hix _)).mono ?_; rintro e w' ⟨rfl, hw⟩; rw [hw]; clear hw w')
        refine hR.mono ?_
        rintro e W' (⟨rfl, hJ', hL'⟩ | ⟨rfl, hx⟩)
        · have hz : leftOf c W' = 0 := by rw [leftOf_eq hL', hre]; rfl
          gi_wp2
          go_roundw
          case rel => exact ⟨k + 1, by omega, hJ', hL'⟩
          case measure => rw [hz]; exact hsz2
        · gi_wp2
          refine bodyPost_ret (results_none rfl _ _ _) rfl ?_
          exact ⟨⟨_, rfl⟩, .inr hx⟩
    · obtain rfl : k = (linesL l).length := by omega
      rw [leftL_end] at c0
      gi_wp2
      go_end0
      exact ⟨⟨_, rfl⟩, .inl hJ⟩
end Go.Proofs.YtdnnjahdcabdmaaGreatDoor
