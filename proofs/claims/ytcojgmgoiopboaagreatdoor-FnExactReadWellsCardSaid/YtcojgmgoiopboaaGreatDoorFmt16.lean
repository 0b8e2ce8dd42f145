/- strconv.FormatUint at base 16: the walk of the library's text. -/
import Derived.Test.YtcojgmgoiopboaaGreatDoorHexP
import Derived.Test.YtcojgmgoiopboaaGreatDoorBlk
import Derived.Lib.Hide
import Derived.Laws.IdiomStrings
import Derived.Lib.AtoiErrMem
import Derived.WalkKit
import Derived.BigCall
import Derived.BigGuard
namespace Go.Proofs.YtcojgmgoiopboaaGreatDoor
open Go.ChangeShapes Go.WideShapes Go.ChangeAt Go.RowKit
set_option linter.unusedVariables false
set_option linter.unusedSimpArgs false
attribute [local irreducible] Calls

/-- The cells of some bytes. -/
def u8s (l : List UInt8) : List Value := l.map fun c => .int .u8 c.toNat

theorem isPow_any (w : World) :
    Calls Tryz.prog 126 #[.int .i64 16] w fun e w' => e = .returned (.bool true) ∧ w' = w := by
  go_enter Tryz.func126, Tryz.ntmps126
  go_wp2
  go_ret
  exact ⟨rfl, rfl⟩
theorem tz64_16 (w : World) (hT : w.cell? ⟨8, 15, none⟩ = some (.int .u8 4)) :
    Calls Tryz.prog 129 #[.int .u64 16] w fun e w' => e = .returned (.int .i64 4) ∧ w' = w := by
  have hk : IntKind.u64.wrap (bits BinOp.and IntKind.u64 16 (IntKind.u64.wrap (-16)) * 285870213051353865) / 288230376151711744 = 15 := by decide +kernel
  go_enter Tryz.func129, Tryz.ntmps129
  go_wp2
  go_ret
  exact ⟨rfl, rfl⟩
theorem tz16_any (w : World) (hT : w.cell? ⟨8, 15, none⟩ = some (.int .u8 4)) :
    Calls Tryz.prog 127 #[.int .u64 16] w fun e w' => e = .returned (.int .i64 4) ∧ w' = w := by
  have h := tz64_16 w hT
  go_enter Tryz.func127, Tryz.ntmps127
  go_wp2_with (go_at_call 129; refine h.mono ?_; rintro e w' ⟨rfl, hw⟩; rw [hw]; clear hw w')
  go_ret
  exact ⟨rfl, rfl⟩

theorem and15 (x : Nat) (h : x < 4294967296) : bits .and .u64 (x : Int) 15 = ((x % 16 : Nat) : Int) := by
  have h1 : (BitVec.ofInt 64 (x : Int)).toNat = x := by
    rw [BitVec.ofInt_natCast, BitVec.toNat_ofNat]; exact Nat.mod_eq_of_lt (by omega)
  have h2 : (BitVec.ofInt 64 (15 : Int)).toNat = 15 := by decide
  show IntKind.u64.wrap ((BitVec.ofInt 64 (x : Int) &&& BitVec.ofInt 64 (15 : Int)).toNat : Int) = _
  rw [BitVec.toNat_and, h1, h2, IntKind.wrap_u64]
  have h3 : x &&& 15 = x % 16 := Nat.and_two_pow_sub_one_eq_mod x 4
  rw [h3]
  omega
def digitsB : ByteArray := ⟨#[48, 49, 50, 51, 52, 53, 54, 55, 56, 57, 97, 98, 99, 100, 101, 102, 103, 104, 105, 106, 107, 108, 109, 110, 111, 112, 113, 114, 115, 116, 117, 118, 119, 120, 121, 122]⟩
theorem digits_at : ∀ n : Nat, n < 16 → ∀ h : n < digitsB.size, digitsB[n] = dig n := by decide
theorem idx_digits (n : Nat) (h : n < 16) (w : World) : (Instr.index 9 (.string ⟨#[48, 49, 50, 51, 52, 53, 54, 55, 56, 57, 97, 98, 99, 100, 101, 102, 103, 104, 105, 106, 107, 108, 109, 110, 111, 112, 113, 114, 115, 116, 117, 118, 119, 120, 121, 122]⟩) (.int .u64 (n : Int))).run Tryz.prog w = .ok (.int .u8 ((dig n).toNat : Int)) w := by
  have hs : n < digitsB.size := by show n < 36; omega
  have e := digits_at n h hs
  rw [run_index_string w 9 _ .u64 _ Tryz.underlying9, dif_pos ⟨by omega, by show (n : Int) < 36; omega⟩]
  have e2 : ((n : Int)).toNat = n := by omega
  simp only [e2]
  rw [← e]; rfl

/-- The digits of u, of which those of x are still to be written, behind the place i. -/
def FmtH (u x i : Nat) (C : Array Value) : Prop := ∃ L, hexL u = hexL x ++ L ∧ C.toList.drop i = u8s L ∧ L.length = 65 - i
theorem drop_set (C : Array Value) (i : Nat) (v : Value) (h : i < C.size) : (C.setIfInBounds i v).toList.drop i = v :: C.toList.drop (i + 1) := by
  have hl : i < (C.setIfInBounds i v).toList.length := by simpa using h
  rw [List.drop_eq_getElem_cons hl]
  congr 1
  · simp
  · simp [List.drop_set]
theorem FmtH.bound {u x i : Nat} {C : Array Value} (h : FmtH u x i C) (hu : u < 4294967296) (hi : i ≤ 65) : 58 ≤ i := by
  obtain ⟨L, h1, h2, h3⟩ := h
  have h4 := (hexL_length hu).1
  have h5 := hexL_pos x
  rw [h1, List.length_append] at h4
  omega
theorem FmtH.step {u x i : Nat} {C : Array Value} (h : FmtH u x (i + 1) C) (hx : ¬ x < 16) (hs : C.size = 65) (hi : i < 65) : FmtH u (x / 16) i (C.setIfInBounds i (.int .u8 ((dig (x % 16)).toNat : Int))) := by
  obtain ⟨L, h1, h2, h3⟩ := h
  refine ⟨dig (x % 16) :: L, ?_, ?_, by simp; omega⟩
  · rw [h1, hexL_ge hx]; simp
  · rw [drop_set _ _ _ (by omega), h2]; rfl
theorem FmtH.last {u x i : Nat} {C : Array Value} (h : FmtH u x (i + 1) C) (hx : x < 16) (hs : C.size = 65) (hi : i < 65) : (C.setIfInBounds i (.int .u8 ((dig x).toNat : Int))).toList.drop i = u8s (hexL u) ∧ (hexL u).length = 65 - i := by
  obtain ⟨L, h1, h2, h3⟩ := h
  have e : hexL u = dig x :: L := by rw [h1, hexL_lt hx]; rfl
  rw [e]
  refine ⟨?_, by simp; omega⟩
  rw [drop_set _ _ _ (by omega), h2]; rfl
theorem zero65 : ZeroTy Tryz.prog 157 (Array.replicate 65 (.int .u8 0)) := by unfold ZeroTy; kernel_rfl

set_option maxHeartbeats 8000000 in
set_option maxRecDepth 100000 in
theorem formatBits_any (u : Nat) (hu : u < 4294967296) (w : World) (hT : w.cell? ⟨8, 15, none⟩ = some (.int .u8 4)) :
    Calls Tryz.prog 115 #[.slice none 0 0, .int .u64 u, .int .i64 16, .bool false, .bool false] w fun e w' => e = .returned (.tuple #[.slice none 0 0, .string ⟨(hexL u).toArray⟩]) ∧ Below w.heap.size w w' := by
  have hT1 : ∀ w', Below w.heap.size w w' → Calls Tryz.prog 127 #[.int .u64 16] w' fun e w'' => e = .returned (.int .i64 4) ∧ w'' = w' := fun w' hb => tz16_any w' ((hb.cell (p := ⟨8, 15, none⟩) (Lib.lt_of_cell hT)).trans hT)
  have HT := Lib.hid hT1
  clear hT1 hT
  go_enter Tryz.func115, Tryz.ntmps115
  go_upto_region 5 with (refine wpList_alloc_as rfl rfl zero65 ?_)
  have hA := Blk.new w (Array.replicate 65 (.int .u8 0)) 157
  have hbel := below1 w (.cells (Array.replicate 65 (.int .u8 0)) 157)
  have hF : FmtH u u 65 (Array.replicate 65 (.int .u8 0)) := ⟨[], by simp, by simp [u8s], rfl⟩
  have hS : (Array.replicate 65 (Value.int .u8 0)).size = 65 := by simp
  generalize Array.replicate 65 (Value.int .u8 0) = C at *
  generalize w.alloc (.cells C 157) = W at *
  have hz := HT.out W hbel
  go_wp2_with (first | (go_at_call 126; refine (isPow_any _).mono ?_; rintro e w' ⟨rfl, hw⟩; rw [hw]; clear hw w') | (go_at_call 127; refine hz.mono ?_; rintro e w' ⟨rfl, hw⟩; rw [hw]; clear hw w'))
  clear hz HT
  go_loopw [1, 13] (fun vu vi wr => ∃ (x i : Nat) (D : Array Value), vu = .int .u64 x ∧ vi = .int .i64 ((i : Int) + 1) ∧ Hid (FmtH u x (i + 1) D) ∧ 57 ≤ i ∧ i ≤ 64 ∧ x < 4294967296 ∧ Hid (D.size = 65) ∧ Blk wr w.heap.size D 157 ∧ Below w.heap.size w wr) (fun vu _ _ => (intOf vu).toNat)
  case atStart => exact ⟨u, 64, C, rfl, rfl, Lib.hid hF, by omega, by omega, hu, Lib.hid hS, hA, hbel⟩
  case round =>
    clear hF hS hA hbel
    obtain ⟨x, i, D, rfl, rfl, hF, hi0, hi1, hx, hS, hA, hbel⟩ := hrel
    have hc : ∃ v, D[i]? = some v := ⟨_, Array.getElem?_eq_getElem (by rw [hS.out]; omega)⟩
    obtain ⟨v, hv⟩ := hc
    have hcell := (hA.cell i).trans hv
    have hfree := hA.free i
    have bi0 : (0 : Int) ≤ i := by omega
    have bi1 : (i : Int) < 65 := by omega
    have h13 : (i : Int) + 1 - 1 = i := by omega
    clear hv
    by_cases hge : x < 16
    · have hlt : (x : Int) < 16 := by omega
      have hix := fun w' => idx_digits x hge w'
      have hL := hF.out.last hge hS.out (by omega)
      have hsl : ∀ W, (Instr.sliceAt 157 (.pointer (some ⟨w.heap.size, 0, none⟩)) (some (.int .i64 i)) none none).run Tryz.prog W = .ok (.slice (some ⟨w.heap.size, i, none⟩) (hexL u).length (65 - i)) W := fun W => by
        have hal : Tryz.prog.arrayLen 157 = 65 := by simp [Program.arrayLen, Tryz.underlying157]
        rw [run_sliceAt_array_l W 157 ⟨w.heap.size, 0, none⟩ (by simp [Program.arrayLen, Program.elem, Tryz.underlying157]) .i64 i (by omega) (by rw [hal]; omega)]
        go_simp
        omega
      have hcv := run_convert_bytes_back (P := Tryz.prog) (wr.setCell ⟨w.heap.size, i, none⟩ (.int .u8 ((dig x).toNat : Int))) 90 9 5 ⟨w.heap.size, i, none⟩ (65 - i) (hexL u) Tryz.underlying90 Tryz.underlying5 Tryz.underlying9 (fun j hj => by
        have hadd : (⟨w.heap.size, i, none⟩ : Addr).add j = ⟨w.heap.size, i + j, none⟩ := by unfold Addr.add; split <;> simp_all
        rw [hadd, (hA.setCell i _).cell]
        have e := congrArg (fun l => l[j]?) hL.1
        simp only [List.getElem?_drop, u8s, List.getElem?_map, List.getElem?_eq_getElem hj, Option.map_some] at e
        rw [← e]; simp only [← Array.getElem?_toList])
      clear hL
      go_wp2_with fail
      go_ret2
      exact ⟨rfl, hbel.setCell (Nat.le_refl _) _⟩
    · have hlt : ¬ (x : Int) < 16 := by omega
      have hN := hF.out.step hge hS.out (by omega)
      have h58 := hN.bound hu (by omega)
      have hix : ∀ w', (Instr.index 9 (.string ⟨#[48, 49, 50, 51, 52, 53, 54, 55, 56, 57, 97, 98, 99, 100, 101, 102, 103, 104, 105, 106, 107, 108, 109, 110, 111, 112, 113, 114, 115, 116, 117, 118, 119, 120, 121, 122]⟩) (.int .u64 ((x : Int) % 16))).run Tryz.prog w' = .ok (.int .u8 ((dig (x % 16)).toNat : Int)) w' := fun w' => by
        have h := idx_digits (x % 16) (Nat.mod_lt _ (by decide)) w'
        rwa [show ((x % 16 : Nat) : Int) = (x : Int) % 16 by omega] at h
      have hand : bits .and .u64 (x : Int) 15 = (x : Int) % 16 := by
        have h := and15 x hx
        rwa [show ((x % 16 : Nat) : Int) = (x : Int) % 16 by omega] at h
      have HN := Lib.hid hN
      clear hN
      go_wp2_with fail
      go_roundw
      case rel =>
        refine ⟨x / 16, i - 1, _, by go_num, by first | go_num | (congr 1; omega), ?_, by omega, by omega, by omega, ?_, hA.setCell i _, ?_⟩
        · rw [show i - 1 + 1 = i by omega]; exact HN
        · exact Lib.hid (by simpa using hS.out)
        · exact hbel.setCell (Nat.le_refl _) _
      case measure => simp [intOf]; omega
set_option maxRecDepth 100000 in
theorem formatUintI_any (u : Nat) (hu : u < 4294967296) (w : World) (hT : w.cell? ⟨8, 15, none⟩ = some (.int .u8 4)) :
    Calls Tryz.prog 94 #[.int .u64 u, .int .i64 16] w fun e w' => e = .returned (.string ⟨(hexL u).toArray⟩) ∧ Below w.heap.size w w' := by
  have h := formatBits_any u hu w hT
  clear hT
  go_enter Tryz.func94, Tryz.ntmps94
  go_wp2_with (go_at_call 115; refine h.mono ?_; rintro e w1 ⟨rfl, hb⟩)
  go_ret
  exact ⟨rfl, hb⟩
set_option maxRecDepth 100000 in
theorem formatUint_any (u : Nat) (hu : u < 4294967296) (w : World) (hT : w.cell? ⟨8, 15, none⟩ = some (.int .u8 4)) :
    Calls Tryz.prog 68 #[.int .u64 u, .int .i64 16] w fun e w' => e = .returned (.string ⟨(hexL u).toArray⟩) ∧ Below w.heap.size w w' := by
  have h := formatUintI_any u hu w hT
  clear hT
  go_enter Tryz.func68, Tryz.ntmps68
  go_wp2_with (go_at_call 94; refine h.mono ?_; rintro e w1 ⟨rfl, hb⟩)
  go_ret
  exact ⟨rfl, hb⟩
end Go.Proofs.YtcojgmgoiopboaaGreatDoor
