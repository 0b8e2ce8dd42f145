import Derived.Test.YtcojgmgoiopboaaGreatDoorMR02
import Derived.Test.YtcojgmgoiopboaaGreatDoorMR03
import Derived.Lib.Hide
import Derived.Laws.IdiomStrings
import Derived.Lib.AtoiErrMem
import Derived.WalkKit
import Derived.BigCall
import Derived.BigGuard
import Derived.Test.YtcojgmgoiopboaaGreatDoorMR01
import Derived.Shelf.Strings.Builder1
import Derived.Shelf.Strings.Builder2
import Derived.Shelf.Strings.OnBuilder
import Derived.Shelf.Small.Strs
import Derived.Shelf.Strings.BuilderF
import Derived.Shelf.Strings.BuilderK
import Derived.Shelf.Utf8.RuneCount
import Derived.Shelf.Strings.Builder2Cap
import Derived.Shelf.Strconv.Itoa0
import Derived.Shelf.Strconv.Itoa1
import Derived.Shelf.LaysM
import Derived.Shelf.Strconv.Itoa2
import Derived.Shelf.Strconv.Itoa3
import Derived.Shelf.Strconv.Itoa4
import Derived.Shelf.Strconv.ParseIntEmpty
import Derived.Shelf.Strconv.Clone
import Derived.Shelf.Strconv.SyntaxError
import Derived.Shelf.LaysC
import Derived.Shelf.Strconv.ToError
import Derived.Shelf.Strconv.Lower
import Derived.Shelf.Strconv.ParseUint10
import Derived.Shelf.Strconv.ParseUint10Empty
import Derived.Shelf.Strconv.ParseUint10Any
import Derived.Shelf.Strconv.ParseInt10
import Derived.Shelf.Strconv.RangeError
import Derived.Shelf.Strconv.ToErrorRange
import Derived.Shelf.Strconv.ParseUintEmpty
import Derived.Shelf.Strconv.ParseUint10b64
import Derived.Shelf.Strconv.ParseUint10b32
import Derived.Shelf.Strconv.ParseUint10b16
import Derived.Shelf.Strconv.ParseUint10b8
import Derived.Shelf.Strconv.ParseUint10At
import Derived.Shelf.Strconv.ParseInt10At64
import Derived.Shelf.Strconv.ParseInt10At32
import Derived.Shelf.Strconv.ParseInt10At16
import Derived.Shelf.Strconv.ParseInt10At8
import Derived.Shelf.Strconv.ParseInt10All
import Derived.Shelf.Strconv.ParseIntPublic10
import Derived.Shelf.Strconv.ErrVarParseInt
import Derived.Ground.MpProg
import Derived.Shelf.Pu.ParseUintPublic10
import Derived.Shelf.Pu.ErrVarParseUint
import Derived.Shelf.Strings.Search1
import Derived.Shelf.Strings.Search2
import Derived.Shelf.Strings.Search3
import Derived.Shelf.Strings.Cut
import Derived.Shelf.Strings.Count
import Derived.Shelf.Strings.Shaped
import Derived.Shelf.Strings.Prefix
import Derived.Shelf.Strings.Split
import Derived.Shelf.Strings.SplitShaped
import Derived.Shelf.Unicode.Decode
import Derived.Shelf.Strings.RuneCount
import Derived.Shelf.Strings.Explode
import Derived.Shelf.Bits.Mul64
import Derived.Shelf.Strings.Repeat
import Derived.Shelf.Unicode.DecodeSlow
import Derived.Shelf.Unicode.DecodeAny
/- strconv.FormatUint at base 16: the walk of the library's text. -/
namespace Go.Proofs.YtcojgmgoiopboaaGreatDoor
open Go.ChangeShapes Go.WideShapes Go.ChangeAt Go.RowKit
set_option linter.unusedVariables false
set_option linter.unusedSimpArgs false
attribute [local irreducible] Calls

/-- The cells of some bytes. -/
def u8s (l : List UInt8) : List Value := l.map fun c => .int .u8 c.toNat

theorem isPow_any (w : World) :
    Calls Tryz.prog 126 #[.int .i64 16] w fun e w' => e = .returned (.bool true) ∧ w' = w := by
  go_enter Tryz.func126, Tryz.ntmps126
  go_wp2
  go_ret
  exact ⟨rfl, rfl⟩
theorem tz64_16 (w : World) (hT : w.cell? ⟨8, 15, none⟩ = some (.int .u8 4)) :
    Calls Tryz.prog 129 #[.int .u64 16] w fun e w' => e = .returned (.int .i64 4) ∧ w' = w := by
  have hk : IntKind.u64.wrap (bits BinOp.and IntKind.u64 16 (IntKind.u64.wrap (-16)) * 285870213051353865) / 288230376151711744 = 15 := by decide +kernel
  go_enter Tryz.func129, Tryz.ntmps129
  go_wp2
  go_ret
  exact ⟨rfl, rfl⟩
theorem tz16_any (w : World) (hT : w.cell? ⟨8, 15, none⟩ = some (.int .u8 4)) :
    Calls Tryz.prog 127 #[.int .u64 16] w fun e w' => e = .returned (.int .i64 4) ∧ w' = w := by
  have h := tz64_16 w hT
  go_enter Tryz.func127, Tryz.ntmps127
  go_wp2_with (go_at_call 129; refine h.mono ?_; rintro e w' ⟨rfl, hw⟩; rw [hw]; clear hw w')
  go_ret
  exact ⟨rfl, rfl⟩

theorem and15 (x : Nat) (h : x < 4294967296) : bits .and .u64 (x : Int) 15 = ((x % 16 : Nat) : Int) := by
  have h1 : (BitVec.ofInt 64 (x : Int)).toNat = x := by
    rw [BitVec.ofInt_natCast, BitVec.toNat_ofNat]; exact Nat.mod_eq_of_lt (by omega)
  have h2 : (BitVec.ofInt 64 (15 : Int)).toNat = 15 := by decide
  show IntKind.u64.wrap ((BitVec.ofInt 64 (x : Int) &&& BitVec.ofInt 64 (15 : Int)).toNat : Int) = _
  rw [BitVec.toNat_and, h1, h2, IntKind.wrap_u64]
  have h3 : x &&& 15 = x % 16 := Nat.and_two_pow_sub_one_eq_mod x 4
  rw [h3]
  omega
def digitsB : ByteArray := ⟨#[48, 49, 50, 51, 52, 53, 54, 55, 56, 57, 97, 98, 99, 100, 101, 102, 103, 104, 105, 106, 107, 108, 109, 110, 111, 112, 113, 114, 115, 116, 117, 118, 119, 120, 121, 122]⟩
theorem digits_at : ∀ n : Nat, n < 16 → ∀ h : n < digitsB.size, digitsB[n] = dig n := by decide
theorem idx_digits (n : Nat) (h : n < 16) (w : World) : (Instr.index 9 (.string ⟨#[48, 49, 50, 51, 52, 53, 54, 55, 56, 57, 97, 98, 99, 100, 101, 102, 103, 104, 105, 106, 107, 108, 109, 110, 111, 112, 113, 114, 115, 116, 117, 118, 119, 120, 121, 122]⟩) (.int .u64 (n : Int))).run Tryz.prog w = .ok (.int .u8 ((dig n).toNat : Int)) w := by
  have hs : n < digitsB.size := by show n < 36; omega
  have e := digits_at n h hs
  rw [run_index_string w 9 _ .u64 _ Tryz.underlying9, dif_pos ⟨by omega, by show (n : Int) < 36; omega⟩]
  have e2 : ((n : Int)).toNat = n := by omega
  simp only [e2]
  rw [← e]; rfl

/-- The digits of u, of which those of x are still to be written, behind the place i. -/
def FmtH (u x i : Nat) (C : Array Value) : Prop := ∃ L, hexL u = hexL x ++ L ∧ C.toList.drop i = u8s L ∧ L.length = 65 - i
theorem drop_set (C : Array Value) (i : Nat) (v : Value) (h : i < C.size) : (C.setIfInBounds i v).toList.drop i = v :: C.toList.drop (i + 1) := by
  have hl : i < (C.setIfInBounds i v).toList.length := by simpa using h
  rw [List.drop_eq_getElem_cons hl]
  congr 1
  · simp
  · simp [List.drop_set]
theorem FmtH.bound {u x i : Nat} {C : Array Value} (h : FmtH u x i C) (hu : u < 4294967296) (hi : i ≤ 65) : 58 ≤ i := by
  obtain ⟨L, h1, h2, h3⟩ := h
  have h4 := (hexL_length hu).1
  have h5 := hexL_pos x
  rw [h1, List.length_append] at h4
  omega
theorem FmtH.step {u x i : Nat} {C : Array Value} (h : FmtH u x (i + 1) C) (hx : ¬ x < 16) (hs : C.size = 65) (hi : i < 65) : FmtH u (x / 16) i (C.setIfInBounds i (.int .u8 ((dig (x % 16)).toNat : Int))) := by
  obtain ⟨L, h1, h2, h3⟩ := h
  refine ⟨dig (x % 16) :: L, ?_, ?_, by simp; omega⟩
  · rw [h1, hexL_ge hx]; simp
  · rw [drop_set _ _ _ (by omega), h2]; rfl
theorem FmtH.last {u x i : Nat} {C : Array Value} (h : FmtH u x (i + 1) C) (hx : x < 16) (hs : C.size = 65) (hi : i < 65) : (C.setIfInBounds i (.int .u8 ((dig x).toNat : Int))).toList.drop i = u8s (hexL u) ∧ (hexL u).length = 65 - i := by
  obtain ⟨L, h1, h2, h3⟩ := h
  have e : hexL u = dig x :: L := by rw [h1, hexL_lt hx]; rfl
  rw [e]
  refine ⟨?_, by simp; omega⟩
  rw [drop_set _ _ _ (by omega), h2]; rfl
theorem zero65 : ZeroTy Tryz.prog 157 (Array.replicate 65 (.int .u8 0)) := by unfold ZeroTy; kernel_rfl

set_option maxHeartbeats 8000000 in
set_option maxRecDepth 100000 in
theorem formatBits_any (u : Nat) (hu : u < 4294967296) (w : World) (hT : w.cell? ⟨8, 15, none⟩ = some (.int .u8 4)) :
    Calls Tryz.prog 115 #[.slice none 0 0, .int .u64 u, .int .i64 16, .bool false, .bool false] w fun e w' => e = .returned (.tuple #[.slice none 0 0, .string ⟨(hexL u).toArray⟩]) ∧ Below w.heap.size w w' := by
  have hT1 : ∀ w', Below w.heap.size w w' → Calls Tryz.prog 127 #[.int .u64 16] w' fun e w'' => e = .returned (.int .i64 4) ∧ w'' = w' := fun w' hb => tz16_any w' ((hb.cell (p := ⟨8, 15, none⟩) (Lib.lt_of_cell hT)).trans hT)
  have HT := Lib.hid hT1
  clear hT1 hT
  go_enter Tryz.func115, Tryz.ntmps115
  go_upto_region 5 with (refine wpList_alloc_as rfl rfl zero65 ?_)
  have hA := Blk.new w (Array.replicate 65 (.int .u8 0)) 157
  have hbel := below1 w (.cells (Array.replicate 65 (.int .u8 0)) 157)
  have hF : FmtH u u 65 (Array.replicate 65 (.int .u8 0)) := ⟨[], by simp, by simp [u8s], rfl⟩
  have hS : (Array.replicate 65 (Value.int .u8 0)).size = 65 := by simp
  generalize Array.replicate 65 (Value.int .u8 0) = C at *
  generalize w.alloc (.cells C 157) = W at *
  have hz := HT.out W hbel
  go_wp2_with (first | (go_at_call 126; refine (isPow_any _).mono ?_; rintro e w' ⟨rfl, hw⟩; rw [hw]; clear hw w') | (go_at_call 127; refine hz.mono ?_; rintro e w' ⟨rfl, hw⟩; rw [hw]; clear hw w'))
  clear hz HT
  go_loopw [1, 13] (fun vu vi wr => ∃ (x i : Nat) (D : Array Value), vu = .int .u64 x ∧ vi = .int .i64 ((i : Int) + 1) ∧ Hid (FmtH u x (i + 1) D) ∧ 57 ≤ i ∧ i ≤ 64 ∧ x < 4294967296 ∧ Hid (D.size = 65) ∧ Blk wr w.heap.size D 157 ∧ Below w.heap.size w wr) (fun vu _ _ => (intOf vu).toNat)
  case atStart => exact ⟨u, 64, C, rfl, rfl, Lib.hid hF, by omega, by omega, hu, Lib.hid hS, hA, hbel⟩
  case round =>
    clear hF hS hA hbel
    obtain ⟨x, i, D, rfl, rfl, hF, hi0, hi1, hx, hS, hA, hbel⟩ := hrel
    have hc : ∃ v, D[i]? = some v := ⟨_, Array.getElem?_eq_getElem (by rw [hS.out]; omega)⟩
    obtain ⟨v, hv⟩ := hc
    have hcell := (hA.cell i).trans hv
    have hfree := hA.free i
    have bi0 : (0 : Int) ≤ i := by omega
    have bi1 : (i : Int) < 65 := by omega
    have h13 : (i : Int) + 1 - 1 = i := by omega
    clear hv
    by_cases hge : x < 16
    · have hlt : (x : Int) < 16 := by omega
      have hix := fun w' => idx_digits x hge w'
      have hL := hF.out.last hge hS.out (by omega)
      have hsl : ∀ W, (Instr.sliceAt 157 (.pointer (some ⟨w.heap.size, 0, none⟩)) (some (.int .i64 i)) none none).run Tryz.prog W = .ok (.slice (some ⟨w.heap.size, i, none⟩) (hexL u).length (65 - i)) W := fun W => by
        have hal : Tryz.prog.arrayLen 157 = 65 := by simp [Program.arrayLen, Tryz.underlying157]
        rw [run_sliceAt_array_l W 157 ⟨w.heap.size, 0, none⟩ (by simp [Program.arrayLen, Program.elem, Tryz.underlying157]) .i64 i (by omega) (by rw [hal]; omega)]
        go_simp
        omega
      have hcv := run_convert_bytes_back (P := Tryz.prog) (wr.setCell ⟨w.heap.size, i, none⟩ (.int .u8 ((dig x).toNat : Int))) 90 9 5 ⟨w.heap.size, i, none⟩ (65 - i) (hexL u) Tryz.underlying90 Tryz.underlying5 Tryz.underlying9 (fun j hj => by
        have hadd : (⟨w.heap.size, i, none⟩ : Addr).add j = ⟨w.heap.size, i + j, none⟩ := by unfold Addr.add; split <;> simp_all
        rw [hadd, (hA.setCell i _).cell]
        have e := congrArg (fun l => l[j]?) hL.1
        simp only [List.getElem?_drop, u8s, List.getElem?_map, List.getElem?_eq_getElem hj, Option.map_some] at e
        rw [← e]; simp only [← Array.getElem?_toList])
      clear hL
      go_wp2_with fail
      go_ret2
      exact ⟨rfl, hbel.setCell (Nat.le_refl _) _⟩
    · have hlt : ¬ (x : Int) < 16 := by omega
      have hN := hF.out.step hge hS.out (by omega)
      have h58 := hN.bound hu (by omega)
      have hix : ∀ w', (Instr.index 9 (.string ⟨#[48, 49, 50, 51, 52, 53, 54, 55, 56, 57, 97, 98, 99, 100, 101, 102, 103, 104, 105, 106, 107, 108, 109, 110, 111, 112, 113, 114, 115, 116, 117, 118, 119, 120, 121, 122]⟩) (.int .u64 ((x : Int) % 16))).run Tryz.prog w' = .ok (.int .u8 ((dig (x % 16)).toNat : Int)) w' := fun w' => by
        have h := idx_digits (x % 16) (Nat.mod_lt _ (by decide)) w'
        rwa [show ((x % 16 : Nat) : Int) = (x : Int) % 16 by omega] at h
      have hand : bits .and .u64 (x : Int) 15 = (x : Int) % 16 := by
        have h := and15 x hx
        rwa [show ((x % 16 : Nat) : Int) = (x : Int) % 16 by omega] at h
      have HN := Lib.hid hN
      clear hN
      go_wp2_with fail
      go_roundw
      case rel =>
        refine ⟨x / 16, i - 1, _, by go_num, by first | go_num | (congr 1; omega), ?_, by omega, by omega, by omega, ?_, hA.setCell i _, ?_⟩
        · rw [show i - 1 + 1 = i by omega]; exact HN
        · exact Lib.hid (by simpa using hS.out)
        · exact hbel.setCell (Nat.le_refl _) _
      case measure => simp [intOf]; omega
set_option maxRecDepth 100000 in
theorem formatUintI_any (u : Nat) (hu : u < 4294967296) (w : World) (hT : w.cell? ⟨8, 15, none⟩ = some (.int .u8 4)) :
    Calls Tryz.prog 94 #[.int .u64 u, .int .i64 16] w fun e w' => e = .returned (.string ⟨(hexL u).toArray⟩) ∧ Below w.heap.size w w' := by
  have h := formatBits_any u hu w hT
  clear hT
  go_enter Tryz.func94, Tryz.ntmps94
  go_wp2_with (go_at_call 115; refine h.mono ?_; rintro e w1 ⟨rfl, hb⟩)
  go_ret
  exact ⟨rfl, hb⟩
set_option maxRecDepth 100000 in
theorem formatUint_any (u : Nat) (hu : u < 4294967296) (w : World) (hT : w.cell? ⟨8, 15, none⟩ = some (.int .u8 4)) :
    Calls Tryz.prog 68 #[.int .u64 u, .int .i64 16] w fun e w' => e = .returned (.string ⟨(hexL u).toArray⟩) ∧ Below w.heap.size w w' := by
  have h := formatUintI_any u hu w hT
  clear hT
  go_enter Tryz.func68, Tryz.ntmps68
  go_wp2_with (go_at_call 94; refine h.mono ?_; rintro e w1 ⟨rfl, hb⟩)
  go_ret
  exact ⟨rfl, hb⟩
end Go.Proofs.YtcojgmgoiopboaaGreatDoor
/- Contracts of the library's functions, laid at this program by the shelf's tool (numbers of this seat alone). -/
namespace Go.Proofs.YtcojgmgoiopboaaGreatDoor
open Go.Shelf
def sh_laysC245_ren : Go.Shelf.Ren := ⟨fun | 245 => 66 | 279 => 90 | 280 => 91 | 281 => 92 | 282 => 93 | 316 => 109 | 171 => 111 | 205 => 110 | 243 => 122 | 246 => 99 | 283 => 112 | 284 => 113 | 285 => 114 | 286 => 115 | 129 => 124 | 317 => 123 | 318 => 125 | 319 => 126 | 320 => 127 | 337 => 128 | 338 => 129 | n => n, fun | 9 => 9 | 3 => 3 | 75 => 80 | 167 => 121 | 4 => 4 | 168 => 123 | 210 => 138 | 37 => 90 | 0 => 0 | 127 => 113 | 145 => 154 | 143 => 152 | 2 => 2 | 171 => 141 | 53 => 32 | 5 => 5 | 173 => 144 | 212 => 156 | 51 => 84 | 20 => 20 | 213 => 157 | 46 => 61 | 232 => 164 | 233 => 165 | 80 => 96 | n => n, fun | 15 => 2 | 16 => 3 | 17 => 4 | 18 => 7 | 19 => 8 | n => n⟩
theorem sh_laysC245 : Go.Proofs.LaysC.n245 Tryz.prog sh_laysC245_ren := {
  mixed := by kernel_rfl
  f129 := Tryz.func124.trans (congrArg some (by kernel_rfl))
  f171 := Tryz.func111.trans (congrArg some (by kernel_rfl))
  f205 := Tryz.func110.trans (congrArg some (by kernel_rfl))
  f243 := Tryz.func122.trans (congrArg some (by kernel_rfl))
  f245 := Tryz.func66.trans (congrArg some (by kernel_rfl))
  f246 := Tryz.func99.trans (congrArg some (by kernel_rfl))
  f279 := Tryz.func90.trans (congrArg some (by kernel_rfl))
  f280 := Tryz.func91.trans (congrArg some (by kernel_rfl))
  f281 := Tryz.func92.trans (congrArg some (by kernel_rfl))
  f282 := Tryz.func93.trans (congrArg some (by kernel_rfl))
  f283 := Tryz.func112.trans (congrArg some (by kernel_rfl))
  f284 := Tryz.func113.trans (congrArg some (by kernel_rfl))
  f285 := Tryz.func114.trans (congrArg some (by kernel_rfl))
  f286 := Tryz.func115.trans (congrArg some (by kernel_rfl))
  f316 := Tryz.func109.trans (congrArg some (by kernel_rfl))
  f317 := Tryz.func123.trans (congrArg some (by kernel_rfl))
  f318 := Tryz.func125.trans (congrArg some (by kernel_rfl))
  f319 := Tryz.func126.trans (congrArg some (by kernel_rfl))
  f320 := Tryz.func127.trans (congrArg some (by kernel_rfl))
  f337 := Tryz.func128.trans (congrArg some (by kernel_rfl))
  f338 := Tryz.func129.trans (congrArg some (by kernel_rfl))
  t0 := Tryz.underlying0
  a0 := Tryz.isAgg0
  z0 := Tryz.sizeOf0
  v0 := Tryz.zeroValue0
  t2 := Tryz.underlying2
  a2 := Tryz.isAgg2
  z2 := Tryz.sizeOf2
  v2 := Tryz.zeroValue2
  t3 := Tryz.underlying3
  a3 := Tryz.isAgg3
  z3 := Tryz.sizeOf3
  v3 := Tryz.zeroValue3
  t4 := Tryz.underlying4
  a4 := Tryz.isAgg4
  z4 := Tryz.sizeOf4
  v4 := Tryz.zeroValue4
  t5 := Tryz.underlying5
  a5 := Tryz.isAgg5
  z5 := Tryz.sizeOf5
  v5 := Tryz.zeroValue5
  t9 := Tryz.underlying9
  a9 := Tryz.isAgg9
  z9 := Tryz.sizeOf9
  v9 := Tryz.zeroValue9
  t20 := Tryz.underlying20
  a20 := Tryz.isAgg20
  z20 := Tryz.sizeOf20
  v20 := Tryz.zeroValue20
  t37 := Tryz.underlying90
  a37 := Tryz.isAgg90
  z37 := Tryz.sizeOf90
  v37 := Tryz.zeroValue90
  t46 := Tryz.underlying61
  a46 := Tryz.isAgg61
  z46 := Tryz.sizeOf61
  v46 := Tryz.zeroValue61
  t51 := Tryz.underlying84
  a51 := Tryz.isAgg84
  z51 := Tryz.sizeOf84
  v51 := Tryz.zeroValue84
  t53 := Tryz.underlying32
  a53 := Tryz.isAgg32
  z53 := Tryz.sizeOf32
  v53 := Tryz.zeroValue32
  t75 := Tryz.underlying80
  a75 := Tryz.isAgg80
  z75 := Tryz.sizeOf80
  v75 := Tryz.zeroValue80
  t127 := Tryz.underlying113
  a127 := Tryz.isAgg113
  z127 := Tryz.sizeOf113
  v127 := Tryz.zeroValue113
  t143 := Tryz.underlying152
  a143 := Tryz.isAgg152
  z143 := Tryz.sizeOf152
  v143 := Tryz.zeroValue152
  t145 := Tryz.underlying154
  a145 := Tryz.isAgg154
  z145 := Tryz.sizeOf154
  v145 := Tryz.zeroValue154
  t167 := Tryz.underlying121
  a167 := Tryz.isAgg121
  z167 := Tryz.sizeOf121
  v167 := Tryz.zeroValue121
  t168 := Tryz.underlying123
  a168 := Tryz.isAgg123
  z168 := Tryz.sizeOf123
  v168 := Tryz.zeroValue123
  t171 := Tryz.underlying141
  a171 := Tryz.isAgg141
  z171 := Tryz.sizeOf141
  v171 := Tryz.zeroValue141
  t173 := Tryz.underlying144
  a173 := Tryz.isAgg144
  z173 := Tryz.sizeOf144
  v173 := Tryz.zeroValue144
  t210 := Tryz.underlying138
  a210 := Tryz.isAgg138
  z210 := Tryz.sizeOf138
  v210 := Tryz.zeroValue138
  t212 := Tryz.underlying156
  a212 := Tryz.isAgg156
  z212 := Tryz.sizeOf156
  v212 := Tryz.zeroValue156
  t213 := Tryz.underlying157
  a213 := Tryz.isAgg157
  z213 := Tryz.sizeOf157
  t232 := Tryz.underlying164
  a232 := Tryz.isAgg164
  z232 := Tryz.sizeOf164
  v232 := Tryz.zeroValue164
  t233 := Tryz.underlying165
  a233 := Tryz.isAgg165
  z233 := Tryz.sizeOf165
  v233 := Tryz.zeroValue165
  g15 := by kernel_rfl
  g16 := by kernel_rfl
  g17 := by kernel_rfl
  g18 := by kernel_rfl
  g19 := by kernel_rfl
  t80 := Tryz.underlying96
  a80 := Tryz.isAgg96
  z80 := Tryz.sizeOf96
  v80 := Tryz.zeroValue96
  i0 := by kernel_rfl
  i2 := by kernel_rfl
  i3 := by kernel_rfl
  i4 := by kernel_rfl
  i5 := by kernel_rfl
  i9 := by kernel_rfl
  i20 := by kernel_rfl
  i37 := by kernel_rfl
  i46 := by kernel_rfl
  i51 := by kernel_rfl
  i53 := by kernel_rfl
  i75 := by kernel_rfl
  i80 := by kernel_rfl
  i127 := by kernel_rfl
  i143 := by kernel_rfl
  i145 := by kernel_rfl
  i167 := by kernel_rfl
  i168 := by kernel_rfl
  i171 := by kernel_rfl
  i173 := by kernel_rfl
  i210 := by kernel_rfl
  i212 := by kernel_rfl
  i232 := by kernel_rfl
  i233 := by kernel_rfl
  m15 := by kernel_rfl
  m16 := by kernel_rfl
  m17 := by kernel_rfl
  m18 := by kernel_rfl
  m19 := by kernel_rfl
  c0 := by kernel_rfl
  c2 := by kernel_rfl
  c3 := by kernel_rfl
  c4 := by kernel_rfl
  c5 := by kernel_rfl
  c9 := by kernel_rfl
  c20 := by kernel_rfl
  c37 := by kernel_rfl
  c46 := by kernel_rfl
  c51 := by kernel_rfl
  c53 := by kernel_rfl
  c75 := by kernel_rfl
  c80 := by kernel_rfl
  c127 := by kernel_rfl
  c143 := by kernel_rfl
  c145 := by kernel_rfl
  c167 := by kernel_rfl
  c168 := by kernel_rfl
  c171 := by kernel_rfl
  c173 := by kernel_rfl
  c210 := by kernel_rfl
  c212 := by kernel_rfl
  c213 := by kernel_rfl
  c232 := by kernel_rfl
  c233 := by kernel_rfl }
open Go.RowKit in
/-- strconv.toError, at the inner package's ErrSyntax: 'syntaxError(fn, s)' as an error: A *NumError IN A NEW BLOCK. (LAID: no walk: one application.) -/
theorem sh_strconv_toError_syntax (fn s : ByteArray) (base bits : Int) (ev : Value) (w : World) (hlim : s.size ≤ 281474976710656) (hv : w.cell? ⟨2, 0, none⟩ = some ev) (hev : ev = .nilIface ∨ ∃ te pe, ev = .iface te pe) :
    Calls Tryz.prog 66 #[.string fn, .string s, .int .i64 base, .int .i64 bits, .iface 121 (.int .i64 2)] w fun e w' => ∃ N, e = .returned (.iface 123 (.pointer (some ⟨N, 0, none⟩))) ∧ w.heap.size ≤ N ∧ w'.heap[N]? = some (.cells #[.string fn, .string s, ev] 138 (0, 0)) ∧ Below w.heap.size w w' := Any.strconv_toError_syntax sh_laysC245 fn s base bits ev w hlim hv hev
open Go.RowKit in
/-- strconv.toError, at the inner package's ErrRange: 'rangeError(fn, s)' as an error: A *NumError IN A NEW BLOCK. (LAID: no walk: one application.) -/
theorem sh_strconv_toError_range (fn s : ByteArray) (base bits : Int) (ev : Value) (w : World) (hlim : s.size ≤ 281474976710656) (hv : w.cell? ⟨3, 0, none⟩ = some ev) (hev : ev = .nilIface ∨ ∃ te pe, ev = .iface te pe) :
    Calls Tryz.prog 66 #[.string fn, .string s, .int .i64 base, .int .i64 bits, .iface 121 (.int .i64 1)] w fun e w' => ∃ N, e = .returned (.iface 123 (.pointer (some ⟨N, 0, none⟩))) ∧ w.heap.size ≤ N ∧ w'.heap[N]? = some (.cells #[.string fn, .string s, ev] 138 (0, 0)) ∧ Below w.heap.size w w' := Any.strconv_toError_range sh_laysC245 fn s base bits ev w hlim hv hev
def sh_lays105_ren : Go.Shelf.Ren := ⟨fun | 105 => 70 | 212 => 95 | 99 => 96 | 165 => 85 | 166 => 47 | 170 => 97 | 169 => 49 | 263 => 116 | 264 => 117 | 206 => 118 | 240 => 74 | 241 => 107 | 276 => 98 | 277 => 121 | n => n, fun | 9 => 9 | 3 => 3 | 4 => 4 | 20 => 20 | 0 => 0 | 46 => 61 | 109 => 126 | 5 => 5 | 72 => 92 | 76 => 93 | 51 => 84 | 146 => 146 | 53 => 32 | 148 => 148 | 70 => 89 | 37 => 90 | 75 => 80 | 127 => 113 | 164 => 129 | 80 => 96 | n => n, fun | n => n⟩
theorem sh_lays105 : Go.Proofs.Lays.n105 Tryz.prog sh_lays105_ren := {
  mixed := by kernel_rfl
  f99 := Tryz.func96.trans (congrArg some (by kernel_rfl))
  f105 := Tryz.func70.trans (congrArg some (by kernel_rfl))
  f165 := Tryz.func85.trans (congrArg some (by kernel_rfl))
  f166 := Tryz.func47.trans (congrArg some (by kernel_rfl))
  f169 := Tryz.func49.trans (congrArg some (by kernel_rfl))
  f170 := Tryz.func97.trans (congrArg some (by kernel_rfl))
  f206 := Tryz.func118.trans (congrArg some (by kernel_rfl))
  f212 := Tryz.func95.trans (congrArg some (by kernel_rfl))
  f240 := Tryz.func74.trans (congrArg some (by kernel_rfl))
  f241 := Tryz.func107.trans (congrArg some (by kernel_rfl))
  f263 := Tryz.func116.trans (congrArg some (by kernel_rfl))
  f264 := Tryz.func117.trans (congrArg some (by kernel_rfl))
  f276 := Tryz.func98.trans (congrArg some (by kernel_rfl))
  f277 := Tryz.func121.trans (congrArg some (by kernel_rfl))
  t0 := Tryz.underlying0
  a0 := Tryz.isAgg0
  z0 := Tryz.sizeOf0
  v0 := Tryz.zeroValue0
  t3 := Tryz.underlying3
  a3 := Tryz.isAgg3
  z3 := Tryz.sizeOf3
  v3 := Tryz.zeroValue3
  t4 := Tryz.underlying4
  a4 := Tryz.isAgg4
  z4 := Tryz.sizeOf4
  v4 := Tryz.zeroValue4
  t5 := Tryz.underlying5
  a5 := Tryz.isAgg5
  z5 := Tryz.sizeOf5
  v5 := Tryz.zeroValue5
  t9 := Tryz.underlying9
  a9 := Tryz.isAgg9
  z9 := Tryz.sizeOf9
  v9 := Tryz.zeroValue9
  t20 := Tryz.underlying20
  a20 := Tryz.isAgg20
  z20 := Tryz.sizeOf20
  v20 := Tryz.zeroValue20
  t37 := Tryz.underlying90
  a37 := Tryz.isAgg90
  z37 := Tryz.sizeOf90
  v37 := Tryz.zeroValue90
  t46 := Tryz.underlying61
  a46 := Tryz.isAgg61
  z46 := Tryz.sizeOf61
  v46 := Tryz.zeroValue61
  t51 := Tryz.underlying84
  a51 := Tryz.isAgg84
  z51 := Tryz.sizeOf84
  v51 := Tryz.zeroValue84
  t53 := Tryz.underlying32
  a53 := Tryz.isAgg32
  z53 := Tryz.sizeOf32
  v53 := Tryz.zeroValue32
  t70 := Tryz.underlying89
  a70 := Tryz.isAgg89
  z70 := Tryz.sizeOf89
  v70 := Tryz.zeroValue89
  t72 := Tryz.underlying92
  a72 := Tryz.isAgg92
  z72 := Tryz.sizeOf92
  v72 := Tryz.zeroValue92
  t75 := Tryz.underlying80
  a75 := Tryz.isAgg80
  z75 := Tryz.sizeOf80
  v75 := Tryz.zeroValue80
  t76 := Tryz.underlying93
  a76 := Tryz.isAgg93
  z76 := Tryz.sizeOf93
  v76 := Tryz.zeroValue93
  t109 := Tryz.underlying126
  a109 := Tryz.isAgg126
  z109 := Tryz.sizeOf126
  v109 := Tryz.zeroValue126
  t127 := Tryz.underlying113
  a127 := Tryz.isAgg113
  z127 := Tryz.sizeOf113
  v127 := Tryz.zeroValue113
  t146 := Tryz.underlying146
  a146 := Tryz.isAgg146
  z146 := Tryz.sizeOf146
  v146 := Tryz.zeroValue146
  t148 := Tryz.underlying148
  a148 := Tryz.isAgg148
  z148 := Tryz.sizeOf148
  v148 := Tryz.zeroValue148
  t164 := Tryz.underlying129
  a164 := Tryz.isAgg129
  z164 := Tryz.sizeOf129
  v164 := Tryz.zeroValue129 }
theorem sh_Builder_Extra_105 : Builder.Extra Tryz.prog sh_lays105_ren := {
  sizeBuilder := by kernel_rfl
  liesBuilder := by kernel_rfl
  t5 := Tryz.underlying5
  a5 := Tryz.isAgg5
  z5 := Tryz.sizeOf5
  v5 := Tryz.zeroValue5
  infoByte := by kernel_rfl
  cellsByte := by kernel_rfl
  sizeByte := by kernel_rfl
  neB5 := by decide }
open Go.RowKit Go.Lib in
/-- **strings.Repeat: count ≥ 0, the result within one allocation: count copies of s.** (LAID: no walk: one application.) -/
theorem sh_strings_Repeat (s : ByteArray) (c : Nat) (w : World) (hc : c ≤ 9223372036854775807) (hlen : s.size * c ≤ 140737488355328) :
    Calls Tryz.prog 70 #[.string s, .int .i64 c] w fun e w' => e = .returned (.string ⟨(Lib.repeatL s.data.toList c).toArray⟩) ∧ Below w.heap.size w w' := Any.strings_Repeat sh_lays105 sh_Builder_Extra_105 s c w hc hlen
end Go.Proofs.YtcojgmgoiopboaaGreatDoor
