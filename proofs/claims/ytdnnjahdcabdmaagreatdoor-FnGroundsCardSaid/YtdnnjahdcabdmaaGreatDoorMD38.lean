import Derived.Test.YtdnnjahdcabdmaaGreatDoorMD36
import Derived.Test.YtdnnjahdcabdmaaGreatDoorMD37
import Derived.Test.YtdnnjahdcabdmaaGreatDoorMD08
import Derived.Test.YtdnnjahdcabdmaaGreatDoorMD25
import Derived.IntWalk
import Derived.Test.YtdnnjahdcabdmaaGreatDoorMD01
import Derived.Shelf.Strings.Builder1
import Derived.Shelf.Strings.Builder2
import Derived.Shelf.Strings.OnBuilder
import Derived.Shelf.Small.Strs
import Derived.Shelf.Strings.BuilderF
import Derived.Shelf.Strings.BuilderK
import Derived.Shelf.Utf8.RuneCount
import Derived.Shelf.Strings.Builder2Cap
import Derived.Shelf.Strconv.Itoa0
import Derived.Shelf.Strconv.Itoa1
import Derived.Shelf.LaysM
import Derived.Shelf.Strconv.Itoa2
import Derived.Shelf.Strconv.Itoa3
import Derived.Shelf.Strconv.Itoa4
import Derived.Shelf.Strconv.ParseIntEmpty
import Derived.Shelf.Strconv.Clone
import Derived.Shelf.Strconv.SyntaxError
import Derived.Shelf.LaysC
import Derived.Shelf.Strconv.ToError
import Derived.Shelf.Strconv.Lower
import Derived.Shelf.Strconv.ParseUint10
import Derived.Shelf.Strconv.ParseUint10Empty
import Derived.Shelf.Strconv.ParseUint10Any
import Derived.Shelf.Strconv.ParseInt10
import Derived.Shelf.Strconv.RangeError
import Derived.Shelf.Strconv.ToErrorRange
import Derived.Shelf.Strconv.ParseUintEmpty
import Derived.Shelf.Strconv.ParseUint10b64
import Derived.Shelf.Strconv.ParseUint10b32
import Derived.Shelf.Strconv.ParseUint10b16
import Derived.Shelf.Strconv.ParseUint10b8
import Derived.Shelf.Strconv.ParseUint10At
import Derived.Shelf.Strconv.ParseInt10At64
import Derived.Shelf.Strconv.ParseInt10At32
import Derived.Shelf.Strconv.ParseInt10At16
import Derived.Shelf.Strconv.ParseInt10At8
import Derived.Shelf.Strconv.ParseInt10All
import Derived.Shelf.Strconv.ParseIntPublic10
import Derived.Shelf.Strconv.ErrVarParseInt
import Derived.Ground.MpProg
import Derived.Shelf.Pu.ParseUintPublic10
import Derived.Shelf.Pu.ErrVarParseUint
import Derived.Shelf.Strings.Search1
import Derived.Shelf.Strings.Search2
import Derived.Shelf.Strings.Search3
import Derived.Shelf.Strings.Cut
import Derived.Shelf.Strings.Count
import Derived.Shelf.Strings.Shaped
import Derived.Shelf.Strings.Prefix
import Derived.Shelf.Strings.Split
import Derived.Shelf.Strings.SplitShaped
import Derived.Shelf.Unicode.Decode
import Derived.Shelf.Strings.RuneCount
import Derived.Shelf.Strings.Explode
import Derived.Shelf.Bits.Mul64
import Derived.Shelf.Strings.Repeat
import Derived.Shelf.Unicode.DecodeSlow
import Derived.Shelf.Unicode.DecodeAny
import Derived.Shelf.Strings.BuilderCap
/- NumberText and ReadNumber, in the program and in the reference: the walks. -/
namespace Go.Proofs.YtdnnjahdcabdmaaGreatDoor
open Go.ChangeShapes Go.WideShapes Go.ChangeAt Go.RowKit
set_option linter.unusedVariables false
set_option linter.unusedSimpArgs false
attribute [local irreducible] Calls

/-- What the variables hold that the texts of numbers reach. -/
def NumVars (w : World) : Prop := (∃ te pe, w.cell? ⟨2, 0, none⟩ = some (.iface te pe)) ∧ (∃ te pe, w.cell? ⟨3, 0, none⟩ = some (.iface te pe)) ∧ w.cell? ⟨8, 15, none⟩ = some (.int .u8 4)
theorem NumVars.below {w w' : World} (h : NumVars w) (hb : Below w.heap.size w w') : NumVars w' := by
  obtain ⟨⟨a, b, h1⟩, ⟨c, d, h2⟩, h3⟩ := h
  exact ⟨⟨a, b, (hb.cell (p := ⟨2, 0, none⟩) (Lib.lt_of_cell h1)).trans h1⟩, ⟨c, d, (hb.cell (p := ⟨3, 0, none⟩) (Lib.lt_of_cell h2)).trans h2⟩, (hb.cell (p := ⟨8, 15, none⟩) (Lib.lt_of_cell h3)).trans h3⟩

theorem run_n32bits (b : Nat) (w : World) : (callFunc 85 #[.float .f32 b]).run Tryz.prog w = .ok (.value (.int .u32 b)) w := by
  kernel_rfl
theorem run_n32from (n : Int) (w : World) : (callFunc 82 #[.int .u32 n]).run Tryz.prog w = .ok (.value (.float .f32 n.toNat)) w := by
  kernel_rfl
theorem isNaN_any (b : Nat) (w : World) :
    Calls Tryz.prog 83 #[.float .f32 b] w fun e w' => e = .returned (.bool (isN .f32 b)) ∧ w' = w := by
  cases hn : isN .f32 b
  · have ho := order_self (k := .f32) hn
    go_enter Tryz.func83, Tryz.ntmps83
    go_wp2_with fail
    go_ret
    exact ⟨rfl, rfl⟩
  · have ho := order_nan_left (k := .f32) (x := b) (y := b) hn
    go_enter Tryz.func83, Tryz.ntmps83
    go_wp2_with fail
    go_ret
    exact ⟨rfl, rfl⟩
theorem repeat_zeros : ∀ k, Lib.repeatL [48] k = List.replicate k 48
  | 0 => rfl
  | k + 1 => by show [48] ++ Lib.repeatL [48] k = _; rw [repeat_zeros k]; rfl
theorem txt_nan {b : Nat} (h : isN .f32 b = true) : (⟨#[55, 102, 99, 48, 48, 48, 48, 48]⟩ : ByteArray) = ⟨(txt b).toArray⟩ := by
  unfold txt cn
  rw [cnk_of_nan h]
  decide
theorem txt_num {b : Nat} (h : isN .f32 b = false) (hb : b < 4294967296) : (⟨(List.replicate (8 - (hexL b).length) 48).toArray⟩ : ByteArray) ++ (⟨(hexL b).toArray⟩ : ByteArray) = ⟨(txt b).toArray⟩ := by
  unfold txt cn
  rw [cnk_of_not h, (hexL_length hb).2]
  show ByteArray.append _ _ = _
  rw [ByteArray.append_eq]
  apply congrArg ByteArray.mk
  simp
set_option maxHeartbeats 4000000 in
set_option maxRecDepth 100000 in
theorem numberText_any (b : Nat) (hb : b < 4294967296) (w : World) (hV : NumVars w) :
    Calls Tryz.prog 30 #[.float .f32 b] w fun e w' => e = .returned (.string ⟨(txt b).toArray⟩) ∧ Below w.heap.size w w' := by
  have h0 := fun w' => isNaN_any b w'
  cases hn : isN .f32 b <;> rw [hn] at h0
  · have h1 := fun w' => run_n32bits b w'
    have h2 := formatUint_any b hb w hV.2.2
    have h8 := (hexL_length hb).1
    have ht := txt_num hn hb
    have hs : (⟨(hexL b).toArray⟩ : ByteArray).size = (hexL b).length := by simp [ByteArray.size]
    have h3 := fun w' => sh_strings_Repeat ⟨#[48]⟩ (8 - (hexL b).length) w' (by omega) (by show 1 * _ ≤ _; omega)
    rw [show (⟨#[48]⟩ : ByteArray).data.toList = [48] from rfl, repeat_zeros] at h3
    have hk : ((8 - (hexL b).length : Nat) : Int) = 8 - ((hexL b).length : Int) := by omega
    rw [hk] at h3
    have hzs : (⟨(List.replicate (8 - (hexL b).length) 48).toArray⟩ : ByteArray).size ≤ 8 := by simp [ByteArray.size]
    have HT := Lib.hid ht
    clear ht hV hn hk
    generalize hexL b = L at *
    generalize (⟨(List.replicate (8 - L.length) 48).toArray⟩ : ByteArray) = Z at *
    go_enter Tryz.func30, Tryz.ntmps30
    go_wp2_with (first | (go_at_call 83; refine (h0 _).mono ?_; rintro e w' ⟨rfl, hw⟩; rw [hw]; clear hw w') | (go_at_call 84; refine h2.mono ?_; rintro e w1 ⟨rfl, hb1⟩) | (go_at_call 86; refine (h3 _).mono ?_; rintro e w2 ⟨rfl, hb2⟩))
    go_ret
    exact ⟨by rw [HT.out]; rfl, hb1.trans (hb2.mono hb1.size)⟩
  · have ht := txt_nan hn
    have HT := Lib.hid ht
    clear ht hn hV
    go_enter Tryz.func30, Tryz.ntmps30
    go_wp2_with (go_at_call 83; refine (h0 _).mono ?_; rintro e w' ⟨rfl, hw⟩; rw [hw]; clear hw w')
    go_ret
    exact ⟨by rw [HT.out]; rfl, Below.refl _ _⟩
set_option maxRecDepth 100000 in
theorem parseUint_empty (base bits : Int) (w : World) :
    Calls Tryz.prog 129 #[.string ⟨#[]⟩, .int .i64 base, .int .i64 bits] w fun e w' => e = .returned (.tuple #[.int .u64 0, .iface 195 (.int .i64 2)]) ∧ w' = w := by
  go_enter Tryz.func129, Tryz.ntmps129
  go_wp2_with fail
  go_ret2
  exact ⟨rfl, rfl⟩
set_option maxRecDepth 100000 in
set_option maxHeartbeats 4000000 in
/-- What strconv.ParseUint gives at base 16: the number, and whether there is no error. -/
theorem parseUintP_any (s : ByteArray) (hs : s.size ≤ 1048576) (w : World) (hV : NumVars w) :
    Calls Tryz.prog 81 #[.string s, .int .i64 16, .int .i64 32] w fun e w' => ((∃ n : Nat, n < 4294967296 ∧ e = .returned (.tuple #[.int .u64 n, .nilIface]) ∧ ((txt n = s.data.toList ∧ numL s.data.toList = some n) ∨ (txt n ≠ s.data.toList ∧ numL s.data.toList = none))) ∨ (∃ (n : Nat) (t : TypeId) (v : Value), n < 4294967296 ∧ e = .returned (.tuple #[.int .u64 n, .iface t v]) ∧ numL s.data.toList = none)) ∧ Below w.heap.size w w' := by
  obtain ⟨⟨t1, p1, h1⟩, ⟨t2, p2, h2⟩, _⟩ := hV
  have key : ∃ r : Sum Nat Bool, (∀ n, r = .inl n → n < 4294967296 ∧ ((txt n = s.data.toList ∧ numL s.data.toList = some n) ∨ (txt n ≠ s.data.toList ∧ numL s.data.toList = none))) ∧ ((∀ n, r ≠ .inl n) → numL s.data.toList = none) ∧ Calls Tryz.prog 129 #[.string s, .int .i64 16, .int .i64 32] w fun e w' => e = .returned (uTup r) ∧ Below w.heap.size w w' := by
    by_cases h0 : s.size = 0
    · have hsd : s.data.toList = [] := by
        have : s.data.toList.length = 0 := h0
        exact List.eq_nil_of_length_eq_zero this
      have he : s = ⟨#[]⟩ := by
        have : s.data = #[] := by simpa using hsd
        cases s; simp_all
      refine ⟨.inr false, (fun n h => by cases h), (fun _ => by rw [hsd]; rfl), ?_⟩
      subst he
      refine (parseUint_empty 16 32 w).mono ?_
      rintro e w' ⟨rfl, rfl⟩
      exact ⟨rfl, Below.refl _ _⟩
    · refine ⟨hexU 4294967295 0 s.data.toList, fun n h => numL_cases h, numL_none, ?_⟩
      refine (parseUint16_in s h0 hs w).mono ?_
      rintro e w' ⟨rfl, rfl⟩
      exact ⟨rfl, Lib.bytesWorld_below _ _ _⟩
  obtain ⟨r, hr1, hr2, hc⟩ := key
  have HR1 := Lib.hid hr1
  have HR2 := Lib.hid hr2
  have l1 := Lib.lt_of_cell h1
  have l2 := Lib.lt_of_cell h2
  have H1 := Lib.hid h1
  have H2 := Lib.hid h2
  clear hr1 hr2 h1 h2
  rcases r with n | b
  · skip
    have hc : Calls Tryz.prog 129 #[.string s, .int .i64 16, .int .i64 32] w fun e w' => e = .returned (.tuple #[.int .u64 n, .nilIface]) ∧ Below w.heap.size w w' := hc
    go_enter Tryz.func81, Tryz.ntmps81
    go_wp2_with (go_at_call 129; refine hc.mono ?_; rintro e w1 ⟨rfl, hb⟩)
    go_ret2
    exact ⟨.inl ⟨n, (HR1.out n rfl).1, rfl, (HR1.out n rfl).2⟩, hb⟩
  · cases b
    · skip
      have hc : Calls Tryz.prog 129 #[.string s, .int .i64 16, .int .i64 32] w fun e w' => e = .returned (.tuple #[.int .u64 0, .iface 195 (.int .i64 2)]) ∧ Below w.heap.size w w' := hc
      have hT := fun w1 (hb : Below w.heap.size w w1) => sh_strconv_toError_syntax ⟨#[80, 97, 114, 115, 101, 85, 105, 110, 116]⟩ s 16 32 (.iface t1 p1) w1 (by omega) ((hb.cell (p := ⟨2, 0, none⟩) l1).trans H1.out) (.inr ⟨_, _, rfl⟩)
      go_enter Tryz.func81, Tryz.ntmps81
      go_wp2_with (first | (go_at_call 129; refine hc.mono ?_; rintro e w1 ⟨rfl, hb⟩) | (go_at_call 130; refine (hT _ hb).mono ?_; rintro e w2 ⟨N, rfl, _, _, hb2⟩))
      go_ret2
      exact ⟨.inr ⟨0, _, _, by omega, rfl, HR2.out (fun n h => by cases h)⟩, hb.trans (hb2.mono hb.size)⟩
    · skip
      have hc : Calls Tryz.prog 129 #[.string s, .int .i64 16, .int .i64 32] w fun e w' => e = .returned (.tuple #[.int .u64 4294967295, .iface 195 (.int .i64 1)]) ∧ Below w.heap.size w w' := hc
      have hT := fun w1 (hb : Below w.heap.size w w1) => sh_strconv_toError_range ⟨#[80, 97, 114, 115, 101, 85, 105, 110, 116]⟩ s 16 32 (.iface t2 p2) w1 (by omega) ((hb.cell (p := ⟨3, 0, none⟩) l2).trans H2.out) (.inr ⟨_, _, rfl⟩)
      go_enter Tryz.func81, Tryz.ntmps81
      go_wp2_with (first | (go_at_call 129; refine hc.mono ?_; rintro e w1 ⟨rfl, hb⟩) | (go_at_call 130; refine (hT _ hb).mono ?_; rintro e w2 ⟨N, rfl, _, _, hb2⟩))
      go_ret2
      exact ⟨.inr ⟨4294967295, _, _, by omega, rfl, HR2.out (fun n h => by cases h)⟩, hb.trans (hb2.mono hb.size)⟩
end Go.Proofs.YtdnnjahdcabdmaaGreatDoor
/- ReadNumber, in the program and in the reference: the walks. -/
namespace Go.Proofs.YtdnnjahdcabdmaaGreatDoor
open Go.ChangeShapes Go.WideShapes Go.ChangeAt Go.RowKit
set_option linter.unusedVariables false
set_option linter.unusedSimpArgs false
attribute [local irreducible] Calls

theorem str_ne (a : List UInt8) (s : ByteArray) : (decide ((⟨a.toArray⟩ : ByteArray) = s)) = decide (a = s.data.toList) := by
  by_cases h : a = s.data.toList
  · subst h; simp
  · rw [decide_eq_false h]
    apply decide_eq_false
    intro he
    apply h
    rw [← he]
set_option maxRecDepth 100000 in
set_option maxHeartbeats 4000000 in
theorem readNumberI_any (s : ByteArray) (hs : s.size ≤ 1048576) (w : World) (hV : NumVars w) :
    Calls Tryz.prog 29 #[.string s] w fun e w' => e = .returned (.tuple #[.float .f32 (numB s.data.toList), .int .i64 (numC s.data.toList)]) ∧ Below w.heap.size w w' := by
  have hp := parseUintP_any s hs w hV
  have HV := Lib.hid hV
  have hfr := fun n w' => run_n32from n w'
  clear hV
  go_enter Tryz.func29, Tryz.ntmps29
  go_upto_region 1 with fail
  go_wp2_with (go_at_call 81; refine hp.mono ?_; rintro e w1 ⟨⟨n, hn, rfl, hc⟩ | ⟨n, t, v, hn, rfl, hc⟩, hb⟩)
  · have ht := numberText_any n hn w1 (HV.out.below hb)
    have hB : numB s.data.toList = (numL s.data.toList).getD 0 := rfl
    rcases hc with ⟨hc1, hc2⟩ | ⟨hc1, hc2⟩
    · have he : (⟨(txt n).toArray⟩ : ByteArray) = s := by rw [hc1]
      have HB : Hid (numB s.data.toList = n ∧ numC s.data.toList = 0) := Lib.hid (by unfold numB numC; rw [hc2]; exact ⟨rfl, rfl⟩)
      rw [he] at ht
      clear hc1 hc2 he hB
      refine ht.mono ?_
      rintro e w2 ⟨rfl, hb2⟩
      go_wp2_with fail
      go_ret2
      exact ⟨by rw [HB.out.1, HB.out.2]; rfl, hb.trans (hb2.mono hb.size)⟩
    · have he : ((⟨(txt n).toArray⟩ : ByteArray).toList == s.toList) = false := by
        rw [ByteArray.toList_mk, ByteArray.toList_eq]
        simpa using hc1
      have HB : Hid (numB s.data.toList = 0 ∧ numC s.data.toList = 5) := Lib.hid (by unfold numB numC; rw [hc2]; exact ⟨rfl, rfl⟩)
      clear hc1 hc2 hB
      generalize (⟨(txt n).toArray⟩ : ByteArray) = T at *
      refine ht.mono ?_
      rintro e w2 ⟨rfl, hb2⟩
      go_wp2_with fail
      go_ret2
      exact ⟨by rw [HB.out.1, HB.out.2]; rfl, hb.trans (hb2.mono hb.size)⟩
  · have HB : Hid (numB s.data.toList = 0 ∧ numC s.data.toList = 5) := Lib.hid (by unfold numB numC; rw [hc]; exact ⟨rfl, rfl⟩)
    go_ret2
    exact ⟨by rw [HB.out.1, HB.out.2]; rfl, hb⟩

theorem hexV_small {c : UInt8} {a d : Nat} (h : hexD c = some d) (k : Nat) (ha : a < 16 ^ k) : a * 16 + d < 16 ^ (k + 1) := by
  have := hexD_lt h
  rw [Nat.pow_succ]
  omega
theorem hexV_cons (a : Nat) (c : UInt8) (l : List UInt8) {d : Nat} (h : hexD c = some d) : hexV a (c :: l) = hexV (a * 16 + d) l := by
  rw [hexV, h]
theorem hexV_bad (a : Nat) (c : UInt8) (l : List UInt8) (h : hexD c = none) : hexV a (c :: l) = none := by
  rw [hexV, h]
end Go.Proofs.YtdnnjahdcabdmaaGreatDoor
/- Numbers of single precision: plain laws; no statement is proved here. -/
namespace Go.Proofs.YtdnnjahdcabdmaaGreatDoor
open Go.ChangeShapes Go.WideShapes Go.ChangeAt Go.RowKit Ieee
set_option linter.unusedVariables false
set_option linter.unusedSimpArgs false

theorem run_widen_numW {P : Program} (src dst : TypeId) (b : Nat) (hs : P.underlying src = some (.float .f32)) (hd : P.underlying dst = some (.float .f64)) (h : isN .f32 b = false) (w : World) : (convert src dst (.float .f32 b)).run P w = .ok (.float .f64 (widen b)) w := by
  rw [run_convert_widen w src dst b hs hd]
  have h1 : fwid b w = widen b := by unfold fwid; rw [h]; rfl
  have h2 : wcnt b = 0 := by unfold wcnt; rw [h]; rfl
  rw [h1, h2, World.drewN_zero]
theorem read_f32W (b : Nat) : FloatKind.f32.format.read b = single.read b := rfl
theorem isN_wordW (s : Bool) (r : Nat) (h : r ≤ 2139095040) : isN .f32 (single.word s r) = false := by
  obtain ⟨hb, hi, hl, hs, hf⟩ := single_facts
  unfold isN
  rw [read_f32W, read_word _ _ _ (by rw [hs]; omega), hb, hi, hl]
  split
  · rfl
  · split
    · rfl
    · rw [if_pos (by omega)]; rfl
theorem isN_nearestW (s : Bool) (m : Nat) (e : Int) : isN .f32 (single.nearest s m e) = false := by
  unfold Format.nearest
  split
  · exact isN_wordW _ _ (by omega)
  · exact isN_wordW _ _ (Nat.min_le_right _ _)
theorem plain_numW {a : Nat} (h : plain a = true) : isN .f32 a = false := by
  unfold plain at h; exact fge_num (Bool.and_eq_true_iff.1 h).1
end Go.Proofs.YtdnnjahdcabdmaaGreatDoor
/- Wells in memory: lists of them, marks that a caller leaves in a list. Plain laws and the walks of the law's own functions. -/
namespace Go.Proofs.YtdnnjahdcabdmaaGreatDoor
open Go.ChangeShapes Go.WideShapes Go.ChangeAt Go.RowKit
set_option linter.unusedVariables false

/-- A well's place and the bits of its rate. -/
structure Wl where
  px : Int
  py : Int
  rt : Nat
@[irreducible] def Wl.cells (p : Wl) : Array Value := #[.int .i8 p.px, .int .i8 p.py, .float .f32 p.rt]
theorem Wl.cells_eq (p : Wl) : p.cells = #[.int .i8 p.px, .int .i8 p.py, .float .f32 p.rt] := by unfold Wl.cells; rfl
theorem Wl.cells_size (p : Wl) : p.cells.size = 3 := by rw [p.cells_eq]; rfl
theorem Wl.get0 (p : Wl) : p.cells[0]? = some (.int .i8 p.px) := by rw [p.cells_eq]; rfl
theorem Wl.get1 (p : Wl) : p.cells[1]? = some (.int .i8 p.py) := by rw [p.cells_eq]; rfl
theorem Wl.get2 (p : Wl) : p.cells[2]? = some (.float .f32 p.rt) := by rw [p.cells_eq]; rfl
theorem Wl.one (p : Wl) : ∀ v ∈ p.cells.toList, v.oneCell' = true := by
  intro v hv; rw [p.cells_eq] at hv; simp at hv; rcases hv with rfl | rfl | rfl <;> rfl
/-- n permits, one behind the other. -/
@[irreducible] def lws (n : Nat) (P : Nat → Wl) : List Value := (List.range n).flatMap fun i => (P i).cells.toList
theorem lws_zero (P : Nat → Wl) : lws 0 P = [] := by simp [lws]
theorem lws_succ (n : Nat) (P : Nat → Wl) : lws (n + 1) P = lws n P ++ (P n).cells.toList := by simp [lws, List.range_succ, List.flatMap_append]
theorem lws_length (n : Nat) (P : Nat → Wl) : (lws n P).length = n * 3 := by
  induction n with
  | zero => simp [lws_zero]
  | succ n ih => rw [lws_succ, List.length_append, ih]; simp [Wl.cells_size]; omega
theorem lws_congr {P P' : Nat → Wl} : ∀ {n : Nat}, (∀ i, i < n → P i = P' i) → lws n P = lws n P'
  | 0, _ => by rw [lws_zero, lws_zero]
  | n + 1, h => by rw [lws_succ, lws_succ, lws_congr (fun i hi => h i (by omega)), h n (by omega)]
theorem lws_get (n : Nat) (P : Nat → Wl) (i c : Nat) (h : i < n) (hc : c < 3) : (lws n P)[i * 3 + c]? = (P i).cells[c]? := by
  induction n with
  | zero => omega
  | succ n ih =>
    rw [lws_succ, List.getElem?_append, lws_length]
    by_cases hi : i < n
    · rw [if_pos (by omega), ih hi]
    · obtain rfl : i = n := by omega
      rw [if_neg (by omega), show i * 3 + c - i * 3 = c by omega]; simp
theorem lws_one (n : Nat) (P : Nat → Wl) : ∀ v ∈ lws n P, v.oneCell' = true := by
  intro v hv; unfold lws at hv; simp only [List.mem_flatMap] at hv; obtain ⟨i, _, hi⟩ := hv; exact (P i).one v hi
theorem lws_drop (n : Nat) (P : Nat → Wl) (k : Nat) (h : k < n) : ((lws n P).drop (k * 3)).take 3 = (P k).cells.toList := by
  apply List.ext_getElem?
  intro c
  rw [List.getElem?_take]
  by_cases hc : c < 3
  · rw [if_pos hc, List.getElem?_drop, lws_get n P k c h hc]; simp
  · rw [if_neg hc, List.getElem?_eq_none]; simp [Wl.cells_size]; omega

/-- The slice v holds n permits, P. -/
def LSl (w : World) (v : Value) (n : Nat) (P : Nat → Wl) : Prop :=
  ∃ a cap, v = .slice a n cap ∧ n ≤ cap ∧ cap ≤ maxLen ∧ (n = 0 ∨ ∃ b o, a = some ⟨b, o, none⟩ ∧ b < w.heap.size ∧ ∀ i c, i < n → c < 3 → w.cell? ⟨b, o + i * 3 + c, none⟩ = (P i).cells[c]?)
theorem LSl.below {w w' : World} {v : Value} {n : Nat} {P : Nat → Wl} (h : LSl w v n P) (hb : Below w.heap.size w w') : LSl w' v n P := by
  obtain ⟨a, cap, rfl, h1, h2, h3⟩ := h
  refine ⟨a, cap, rfl, h1, h2, ?_⟩
  rcases h3 with h3 | ⟨b, o, rfl, hlt, hc⟩
  · exact .inl h3
  · exact .inr ⟨b, o, rfl, Nat.lt_of_lt_of_le hlt hb.size, fun i c hi h3 => (hb.cell (p := ⟨b, _, none⟩) hlt).trans (hc i c hi h3)⟩
theorem Own.lsl {w : World} {g : Nat} {e : TypeId} {v : Value} {n : Nat} {P : Nat → Wl} (h : Own w g e 3 v n (lws n P)) : LSl w v n P := by
  obtain ⟨cap, rfl, h1, h2⟩ := h.form
  exact ⟨_, cap, rfl, h1, h2, .inr ⟨g, 0, rfl, h.lt, fun i c hi hc => by rw [Nat.zero_add, h.cell _ (by omega), lws_get n P i c hi hc]⟩⟩

theorem isN_int' (n : Int) : isN .f32 (floatOfInt .f32 n) = false := by
  unfold floatOfInt FloatKind.nearest FloatKind.encode Ieee.Format.write
  exact isN_nearestW _ _ _
/-- P with another permit at i. -/
def updL (P : Nat → Wl) (i : Nat) (p : Wl) : Nat → Wl := fun j => if j = i then p else P j
theorem updL_same (P : Nat → Wl) (i : Nat) (p : Wl) : updL P i p i = p := by simp [updL]
theorem updL_other (P : Nat → Wl) (i : Nat) (p : Wl) (j : Nat) (h : j ≠ i) : updL P i p j = P j := by simp [updL, h]
theorem wls_set (n : Nat) (P : Nat → Wl) (i c : Nat) (u : Value) (p : Wl) (hi : i < n) (hc : c < 3) (hp : (P i).cells.toList.set c u = p.cells.toList) : (lws n P).set (i * 3 + c) u = lws n (updL P i p) := by
  apply List.ext_getElem?
  intro j
  by_cases hj : j < n * 3
  · obtain ⟨k, d, hd, rfl⟩ : ∃ k d, d < 3 ∧ j = k * 3 + d := ⟨j / 3, j % 3, Nat.mod_lt _ (by decide), by omega⟩
    have hk : k < n := by omega
    rw [lws_get n _ k d hk hd, List.getElem?_set, lws_length]
    by_cases hki : k = i
    · subst hki
      rw [updL_same]
      have := congrArg (fun l : List Value => l[d]?) hp
      simp only [List.getElem?_set, Array.getElem?_toList, Array.length_toList, Wl.cells_size] at this
      rw [← this]
      by_cases hcd : c = d
      · subst hcd; simp [hc, hj]
      · rw [if_neg (by omega), if_neg hcd, lws_get n P k d hk hd]
    · rw [updL_other P i p k hki, if_neg (by omega), lws_get n P k d hk hd]
  · rw [List.getElem?_eq_none (by simp [lws_length]; omega), List.getElem?_eq_none (by simp [lws_length]; omega)]

def markL (m : Int) (i : Nat) : Wl := ⟨IntKind.i8.wrap (m + 3 * i), IntKind.i8.wrap (m + 3 * i + 1), (floatOfInt .f32 (m + 3 * i + 2))⟩
/-- .. after k rounds. -/
def markedL (m : Int) (P : Nat → Wl) (k : Nat) : Nat → Wl := fun i => if i < k then markL m i else P i

end Go.Proofs.YtdnnjahdcabdmaaGreatDoor
/- Contracts of the library's functions, laid at this program by the shelf's tool (numbers of this seat alone). -/
namespace Go.Proofs.YtdnnjahdcabdmaaGreatDoor
open Go.Shelf
def sh_lays156_ren : Go.Shelf.Ren := ⟨fun | 156 => 77 | 165 => 122 | 166 => 49 | 169 => 51 | 240 => 106 | 241 => 152 | 276 => 143 | 277 => 181 | n => n, fun | 31 => 89 | 9 => 9 | 3 => 3 | 4 => 4 | 0 => 0 | 20 => 20 | 72 => 94 | 76 => 97 | 70 => 92 | 37 => 22 | 75 => 96 | 127 => 158 | 164 => 186 | 5 => 5 | 80 => 100 | n => n, fun | n => n⟩
theorem sh_lays156 : Go.Proofs.Lays.n156 Tryz.prog sh_lays156_ren := {
  mixed := by kernel_rfl
  f156 := Tryz.func77.trans (congrArg some (by kernel_rfl))
  f165 := Tryz.func122.trans (congrArg some (by kernel_rfl))
  f166 := Tryz.func49.trans (congrArg some (by kernel_rfl))
  f169 := Tryz.func51.trans (congrArg some (by kernel_rfl))
  f240 := Tryz.func106.trans (congrArg some (by kernel_rfl))
  f241 := Tryz.func152.trans (congrArg some (by kernel_rfl))
  f276 := Tryz.func143.trans (congrArg some (by kernel_rfl))
  f277 := Tryz.func181.trans (congrArg some (by kernel_rfl))
  t0 := Tryz.underlying0
  a0 := Tryz.isAgg0
  z0 := Tryz.sizeOf0
  v0 := Tryz.zeroValue0
  t3 := Tryz.underlying3
  a3 := Tryz.isAgg3
  z3 := Tryz.sizeOf3
  v3 := Tryz.zeroValue3
  t4 := Tryz.underlying4
  a4 := Tryz.isAgg4
  z4 := Tryz.sizeOf4
  v4 := Tryz.zeroValue4
  t9 := Tryz.underlying9
  a9 := Tryz.isAgg9
  z9 := Tryz.sizeOf9
  v9 := Tryz.zeroValue9
  t20 := Tryz.underlying20
  a20 := Tryz.isAgg20
  z20 := Tryz.sizeOf20
  v20 := Tryz.zeroValue20
  t31 := Tryz.underlying89
  a31 := Tryz.isAgg89
  z31 := Tryz.sizeOf89
  v31 := Tryz.zeroValue89
  t37 := Tryz.underlying22
  a37 := Tryz.isAgg22
  z37 := Tryz.sizeOf22
  v37 := Tryz.zeroValue22
  t70 := Tryz.underlying92
  a70 := Tryz.isAgg92
  z70 := Tryz.sizeOf92
  v70 := Tryz.zeroValue92
  t72 := Tryz.underlying94
  a72 := Tryz.isAgg94
  z72 := Tryz.sizeOf94
  v72 := Tryz.zeroValue94
  t75 := Tryz.underlying96
  a75 := Tryz.isAgg96
  z75 := Tryz.sizeOf96
  v75 := Tryz.zeroValue96
  t76 := Tryz.underlying97
  a76 := Tryz.isAgg97
  z76 := Tryz.sizeOf97
  v76 := Tryz.zeroValue97
  t127 := Tryz.underlying158
  a127 := Tryz.isAgg158
  z127 := Tryz.sizeOf158
  v127 := Tryz.zeroValue158
  t164 := Tryz.underlying186
  a164 := Tryz.isAgg186
  z164 := Tryz.sizeOf186
  v164 := Tryz.zeroValue186 }
theorem sh_Builder_Extra_156 : Builder.Extra Tryz.prog sh_lays156_ren := {
  sizeBuilder := by kernel_rfl
  liesBuilder := by kernel_rfl
  t5 := Tryz.underlying5
  a5 := Tryz.isAgg5
  z5 := Tryz.sizeOf5
  v5 := Tryz.zeroValue5
  infoByte := by kernel_rfl
  cellsByte := by kernel_rfl
  sizeByte := by kernel_rfl
  neB5 := by decide }
open Go.RowKit in
/-- strings.Join: "Join concatenates the elements of its first argument to create a single string. The separator string sep is placed between elements in the resulting string.": HOWEVER MANY ELEMENTS. Below the heap's end the world is as it was. (LAID: no walk: one application.) -/
theorem sh_strings_Join (bk o c : Nat) (xs : List ByteArray) (sep : ByteArray) (w : World) (hcells : ∀ (j : Nat) x, xs[j]? = some x → w.cell? ⟨bk, o + j, none⟩ = some (.string x)) (hbk : bk < w.heap.size) (hN : xs.length ≤ 140737488355328) (hcap : xs.length ≤ c) (hlen : (Lib.join (xs.map (·.data.toList)) sep.data.toList).length ≤ 140737488355328) :
    Calls Tryz.prog 77 #[.slice (some ⟨bk, o, none⟩) xs.length c, .string sep] w fun e w' => e = .returned (.string ⟨(Lib.join (xs.map (·.data.toList)) sep.data.toList).toArray⟩) ∧ Below w.heap.size w w' := Any.strings_Join sh_lays156 sh_Builder_Extra_156 bk o c xs sep w hcells hbk hN hcap hlen
def sh_lays145_ren : Go.Shelf.Ren := ⟨fun | 145 => 71 | 220 => 120 | 219 => 150 | 217 => 169 | 225 => 178 | 224 => 179 | 267 => 180 | 266 => 190 | 314 => 195 | n => n, fun | 9 => 9 | 4 => 4 | 59 => 117 | 3 => 3 | 5 => 5 | 46 => 129 | 146 => 206 | 51 => 134 | n => n, fun | 1 => 1 | n => n⟩
theorem sh_lays145 : Go.Proofs.Lays.n145 Tryz.prog sh_lays145_ren := {
  mixed := by kernel_rfl
  f145 := Tryz.func71.trans (congrArg some (by kernel_rfl))
  f217 := Tryz.func169.trans (congrArg some (by kernel_rfl))
  f219 := Tryz.func150.trans (congrArg some (by kernel_rfl))
  f220 := Tryz.func120.trans (congrArg some (by kernel_rfl))
  f224 := Tryz.func179.trans (congrArg some (by kernel_rfl))
  f225 := Tryz.func178.trans (congrArg some (by kernel_rfl))
  f266 := Tryz.func190.trans (congrArg some (by kernel_rfl))
  f267 := Tryz.func180.trans (congrArg some (by kernel_rfl))
  f314 := Tryz.func195.trans (congrArg some (by kernel_rfl))
  t3 := Tryz.underlying3
  a3 := Tryz.isAgg3
  z3 := Tryz.sizeOf3
  v3 := Tryz.zeroValue3
  t4 := Tryz.underlying4
  a4 := Tryz.isAgg4
  z4 := Tryz.sizeOf4
  v4 := Tryz.zeroValue4
  t5 := Tryz.underlying5
  a5 := Tryz.isAgg5
  z5 := Tryz.sizeOf5
  v5 := Tryz.zeroValue5
  t9 := Tryz.underlying9
  a9 := Tryz.isAgg9
  z9 := Tryz.sizeOf9
  v9 := Tryz.zeroValue9
  t46 := Tryz.underlying129
  a46 := Tryz.isAgg129
  z46 := Tryz.sizeOf129
  v46 := Tryz.zeroValue129
  t51 := Tryz.underlying134
  a51 := Tryz.isAgg134
  z51 := Tryz.sizeOf134
  v51 := Tryz.zeroValue134
  t59 := Tryz.underlying117
  a59 := Tryz.isAgg117
  z59 := Tryz.sizeOf117
  v59 := Tryz.zeroValue117
  t146 := Tryz.underlying206
  a146 := Tryz.isAgg206
  z146 := Tryz.sizeOf206
  v146 := Tryz.zeroValue206
  g1 := by kernel_rfl }
open Go.RowKit Go.Lib in
/-- strings.Cut: "Cut slices s around the first instance of sep, returning the text before and after sep. The found result reports whether sep appears in s. If sep does not appear in s, cut returns s, "", false.": IT RETURNS 'Lib.cut s sep'; the world is as it was but for the count of draws. (LAID: no walk: one application.) -/
theorem sh_strings_Cut (s sep : ByteArray) (m : Int) (w : World) (hs : s.size < 4294967281) (hm : w.cell? ⟨1, 0, none⟩ = some (.int .i64 m)) :
    Calls Tryz.prog 71 #[.string s, .string sep] w fun e w' => e = .returned (.tuple #[.string ⟨(Lib.cut s.data.toList sep.data.toList).1.toArray⟩, .string ⟨(Lib.cut s.data.toList sep.data.toList).2.1.toArray⟩, .bool (Lib.cut s.data.toList sep.data.toList).2.2]) ∧ ∃ n, w' = w.drewN n := Any.strings_Cut sh_lays145 s sep m w hs hm
def sh_lays146_ren : Go.Shelf.Ren := ⟨fun | 146 => 70 | 221 => 119 | 268 => 147 | 138 => 148 | 143 => 149 | 195 => 175 | 197 => 176 | 218 => 177 | 219 => 150 | 260 => 194 | 217 => 169 | 225 => 178 | 224 => 179 | 267 => 180 | 266 => 190 | 314 => 195 | n => n, fun | 9 => 9 | 31 => 89 | 3 => 3 | 4 => 4 | 0 => 0 | 105 => 214 | 21 => 21 | 5 => 5 | 46 => 129 | 119 => 234 | 139 => 237 | 138 => 236 | 146 => 206 | 51 => 134 | n => n, fun | 1 => 1 | 3 => 5 | 4 => 6 | n => n⟩
theorem sh_lays146 : Go.Proofs.Lays.n146 Tryz.prog sh_lays146_ren := {
  mixed := by kernel_rfl
  f138 := Tryz.func148.trans (congrArg some (by kernel_rfl))
  f143 := Tryz.func149.trans (congrArg some (by kernel_rfl))
  f146 := Tryz.func70.trans (congrArg some (by kernel_rfl))
  f195 := Tryz.func175.trans (congrArg some (by kernel_rfl))
  f197 := Tryz.func176.trans (congrArg some (by kernel_rfl))
  f217 := Tryz.func169.trans (congrArg some (by kernel_rfl))
  f218 := Tryz.func177.trans (congrArg some (by kernel_rfl))
  f219 := Tryz.func150.trans (congrArg some (by kernel_rfl))
  f221 := Tryz.func119.trans (congrArg some (by kernel_rfl))
  f224 := Tryz.func179.trans (congrArg some (by kernel_rfl))
  f225 := Tryz.func178.trans (congrArg some (by kernel_rfl))
  f260 := Tryz.func194.trans (congrArg some (by kernel_rfl))
  f266 := Tryz.func190.trans (congrArg some (by kernel_rfl))
  f267 := Tryz.func180.trans (congrArg some (by kernel_rfl))
  f268 := Tryz.func147.trans (congrArg some (by kernel_rfl))
  f314 := Tryz.func195.trans (congrArg some (by kernel_rfl))
  t0 := Tryz.underlying0
  a0 := Tryz.isAgg0
  z0 := Tryz.sizeOf0
  v0 := Tryz.zeroValue0
  t3 := Tryz.underlying3
  a3 := Tryz.isAgg3
  z3 := Tryz.sizeOf3
  v3 := Tryz.zeroValue3
  t4 := Tryz.underlying4
  a4 := Tryz.isAgg4
  z4 := Tryz.sizeOf4
  v4 := Tryz.zeroValue4
  t5 := Tryz.underlying5
  a5 := Tryz.isAgg5
  z5 := Tryz.sizeOf5
  v5 := Tryz.zeroValue5
  t9 := Tryz.underlying9
  a9 := Tryz.isAgg9
  z9 := Tryz.sizeOf9
  v9 := Tryz.zeroValue9
  t21 := Tryz.underlying21
  a21 := Tryz.isAgg21
  z21 := Tryz.sizeOf21
  v21 := Tryz.zeroValue21
  t31 := Tryz.underlying89
  a31 := Tryz.isAgg89
  z31 := Tryz.sizeOf89
  v31 := Tryz.zeroValue89
  t46 := Tryz.underlying129
  a46 := Tryz.isAgg129
  z46 := Tryz.sizeOf129
  v46 := Tryz.zeroValue129
  t51 := Tryz.underlying134
  a51 := Tryz.isAgg134
  z51 := Tryz.sizeOf134
  v51 := Tryz.zeroValue134
  t105 := Tryz.underlying214
  a105 := Tryz.isAgg214
  z105 := Tryz.sizeOf214
  v105 := Tryz.zeroValue214
  t119 := Tryz.underlying234
  a119 := Tryz.isAgg234
  z119 := Tryz.sizeOf234
  t138 := Tryz.underlying236
  a138 := Tryz.isAgg236
  z138 := Tryz.sizeOf236
  v138 := Tryz.zeroValue236
  t139 := Tryz.underlying237
  a139 := Tryz.isAgg237
  z139 := Tryz.sizeOf237
  v139 := Tryz.zeroValue237
  t146 := Tryz.underlying206
  a146 := Tryz.isAgg206
  z146 := Tryz.sizeOf206
  v146 := Tryz.zeroValue206
  g1 := by kernel_rfl
  g3 := by kernel_rfl
  g4 := by kernel_rfl }
open Go.RowKit Go.Lib in
/-- strings.Split. (LAID: no walk: one application.) -/
theorem sh_strings_Split (s sep : ByteArray) (m : Int) (w : World) (hs : s.size < 4294967281) (hm : w.cell? ⟨1, 0, none⟩ = some (.int .i64 m)) (h1 : 1 ≤ sep.size) :
    Calls Tryz.prog 70 #[.string s, .string sep] w fun e w' =>
      e = .returned (.slice (some ⟨w.heap.size, 0, none⟩) (Lib.countB s sep + 1) (Lib.countB s sep + 1)) ∧ w' = w.alloc (.cells ((Lib.splitB sep 0 (Lib.countB s sep) s).map Value.string).toArray 9) := Any.strings_Split sh_lays146 (by kernel_rfl) s sep m w hs hm h1
end Go.Proofs.YtdnnjahdcabdmaaGreatDoor
