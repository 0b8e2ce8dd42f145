import Derived.Test.YtdnnjahdcabdmaaGreatDoorMD38
import Derived.Test.YtdnnjahdcabdmaaGreatDoorMD39
import Derived.Test.YtdnnjahdcabdmaaGreatDoorMD41
/- The text of a ground, in the program: the walk. -/
namespace Go.Proofs.YtdnnjahdcabdmaaGreatDoor
open Go.ChangeShapes Go.WideShapes Go.ChangeAt Go.RowKit
set_option linter.unusedVariables false
set_option linter.unusedSimpArgs false
attribute [local irreducible] Calls

/-- What is no cell is nothing. -/
def Bare (g : Gr) : Prop := ∀ k, k < 64 → isC g k = false → g.con k = 0 ∧ g.gai k = 0 ∧ g.hea k = 0
theorem run_f64bitsW (b : Nat) (w : World) : (callFunc 151 #[.float .f64 b]).run Tryz.prog w = .ok (.value (.int .u64 b)) w := by
  kernel_rfl
set_option maxRecDepth 100000 in
theorem signbit_zero (w : World) :
    Calls Tryz.prog 121 #[.float .f64 0] w fun e w' => e = .returned (.bool false) ∧ w' = w := by
  have h1 := fun w' => run_f64bitsW 0 w'
  go_enter Tryz.func121, Tryz.ntmps121
  go_wp2_with fail
  go_ret
  exact ⟨rfl, rfl⟩
set_option maxRecDepth 100000 in
set_option maxHeartbeats 4000000 in
theorem hasMinus_any (g : Gr) (b : Nat) (hg : g.ok) (hB : Bare g) (w : World) (hb : GAt w b g) :
    Calls Tryz.prog 75 #[.pointer (some ⟨b, 0, none⟩)] w fun e w' => e = .returned (.bool false) ∧ Below w.heap.size w w' := by
  have HB := Lib.hid hB
  clear hB
  have cw := fun (w : World) => run_widen_numW (P := Tryz.prog) 25 169 0 Tryz.underlying25 Tryz.underlying169 (by decide) w
  have hw0 : widen 0 = 0 := by decide
  rw [hw0] at cw
  clear hw0
  go_enter Tryz.func75, Tryz.ntmps75
  go_upto_region 2 with fail
  go_loopw [6] (fun vi wr => ∃ k : Nat, k ≤ 64 ∧ vi = .int .i64 k ∧ Below w.heap.size w wr) (fun vi _ => 64 - (intOf vi).toNat)
  case atStart => exact ⟨0, by omega, rfl, Below.refl _ _⟩
  case round =>
    obtain ⟨k, hk, rfl, hbel⟩ := hrel
    have bk : (0 : Int) ≤ k := by omega
    have hb' := hb.below hbel hb.lt
    by_cases hlt : k < 64
    · have bl : (k : Int) < 64 := by omega
      have hh := has_any g b k hg hlt wr hb'
      cases hc : isC g k <;> rw [hc] at hh
      · obtain ⟨z1, z2, z3⟩ := HB.out k hlt hc
        have m1 := hb'.getC k hlt
        have m2 := hb'.getG k hlt
        have m3 := hb'.getH k hlt
        rw [z1] at m1; rw [z2] at m2; rw [z3] at m3
        have lb := hb'.lt
        clear z1 z2 z3 hc hb'
        go_upto_region 5 with (go_at_call 60; refine hh.mono ?_; rintro e w' ⟨rfl, hw⟩; rw [hw]; clear hw w')
        go_region
        have hX := (Blk.new wr #[.pointer (some ⟨b, 2, none⟩), .pointer (some ⟨b, 66, none⟩), .pointer (some ⟨b, 130, none⟩)] 123).drew
        have hbel := (hbel.alloc hbel.size (.cells #[.pointer (some ⟨b, 2, none⟩), .pointer (some ⟨b, 66, none⟩), .pointer (some ⟨b, 130, none⟩)] 123)).drew
        have m1 : ((wr.alloc (.cells #[.pointer (some ⟨b, 2, none⟩), .pointer (some ⟨b, 66, none⟩), .pointer (some ⟨b, 130, none⟩)] 123)).drew).cell? ⟨b, 2 + k, none⟩ = some (.float .f32 0) := ((below1 wr _).cell (p := ⟨b, 2 + k, none⟩) lb).trans m1
        have m2 : ((wr.alloc (.cells #[.pointer (some ⟨b, 2, none⟩), .pointer (some ⟨b, 66, none⟩), .pointer (some ⟨b, 130, none⟩)] 123)).drew).cell? ⟨b, 66 + k, none⟩ = some (.float .f32 0) := ((below1 wr _).cell (p := ⟨b, 66 + k, none⟩) lb).trans m2
        have m3 : ((wr.alloc (.cells #[.pointer (some ⟨b, 2, none⟩), .pointer (some ⟨b, 66, none⟩), .pointer (some ⟨b, 130, none⟩)] 123)).drew).cell? ⟨b, 130 + k, none⟩ = some (.float .f32 0) := ((below1 wr _).cell (p := ⟨b, 130 + k, none⟩) lb).trans m3
        generalize (wr.alloc (.cells #[.pointer (some ⟨b, 2, none⟩), .pointer (some ⟨b, 66, none⟩), .pointer (some ⟨b, 130, none⟩)] 123)).drew = W3 at *
        have x0 := hX.cell 0
        have x1 := hX.cell 1
        have x2 := hX.cell 2
        generalize wr.heap.size = q at *
        have hs := fun w' => signbit_zero w'
        clear hX hh lb
        go_upto_region 6 with fail
        go_loopw [23] (fun vi wr2 => ∃ j : Nat, j ≤ 3 ∧ vi = .int .i64 j ∧ wr2 = W3) (fun vi _ => 3 - (intOf vi).toNat)
        case atStart => exact ⟨0, by omega, rfl, rfl⟩
        case round =>
          obtain ⟨j, hj, rfl, rfl⟩ := hrel
          by_cases hj3 : j < 3
          · have bj : (j : Int) < 3 := by omega
            have bj0 : (0 : Int) ≤ j := by omega
            obtain rfl | rfl | rfl : j = 0 ∨ j = 1 ∨ j = 2 := by omega
            all_goals (
              go_wp2_with (go_at_call 121; refine (hs _).mono ?_; rintro e w' ⟨rfl, hw⟩; rw [hw]; clear hw w')
              go_roundw
              case rel => first | exact ⟨1, by omega, by go_num, by first | rfl | trivial⟩ | exact ⟨2, by omega, by go_num, by first | rfl | trivial⟩ | exact ⟨3, by omega, by go_num, by first | rfl | trivial⟩
              case measure => simp [intOf])
          · obtain rfl : j = 3 := by omega
            go_wp2_with fail
            go_roundw
            case rel => exact ⟨k + 1, by omega, by go_num, hbel⟩
            case measure => simp [intOf]; omega
      · clear hb' hc
        go_wp2_with (go_at_call 60; refine hh.mono ?_; rintro e w' ⟨rfl, hw⟩; rw [hw]; clear hw w')
        go_roundw
        case rel => exact ⟨k + 1, by omega, by go_num, hbel⟩
        case measure => simp [intOf]; omega
    · obtain rfl : k = 64 := by omega
      go_wp2_with fail
      go_ret
      exact ⟨rfl, hbel⟩
@[irreducible] def isFxW (g : Gr) (k : Nat) : Bool := decide (g.fix / 2 ^ k % 2 = 1)
theorem u64_and1W {x : Int} (h0 : 0 ≤ x) (h1 : x < 18446744073709551616) : bits .and .u64 x 1 = x % 2 :=
  bits_mask .u64 64 (by decide) (fun n a b => by rw [IntKind.wrap_u64]; omega) 1 (by decide) x h0 h1
theorem fix_divW {g : Gr} (hg : g.ok) (k : Nat) : 0 ≤ g.fix / 2 ^ k ∧ g.fix / 2 ^ k < 18446744073709551616 := by
  obtain ⟨_, _, h1, h2⟩ := hg
  exact ⟨Int.ediv_nonneg h1 (Int.le_of_lt (Int.pow_pos (by decide))), Int.lt_of_le_of_lt (Int.ediv_le_self _ h1) h2⟩
set_option maxRecDepth 100000 in
set_option maxHeartbeats 400000 in
theorem fixedW_any (g : Gr) (b : Nat) (k : Nat) (hg : g.ok) (hk : k < 64) (w : World) (hb : GAt w b g) :
    Calls Tryz.prog 76 #[.pointer (some ⟨b, 0, none⟩), .int .i64 k] w fun e w' => e = .returned (.bool (isFxW g k)) ∧ w' = w := by
  have c5 : w.cell? ⟨b, 194, none⟩ = some (.int .u64 g.fix) := hb.getF
  have bk : (0 : Int) ≤ k := by omega
  have bl : (k : Int) < 64 := by omega
  go_enter Tryz.func76, Tryz.ntmps76
  go_wp2_with fail
  go_ret
  exact ⟨bool_eq (by rw [u64_and1W (fix_divW hg k).1 (fix_divW hg k).2]; unfold isFxW; rfl), rfl⟩
def wordG (g : Gr) (k : Nat) : List UInt8 := if isFxW g k then [102, 105, 120, 101, 100] else [102, 114, 101, 101]
/-- A cell's row, a ground's head, and its text up to some cell of its list. -/
def rowC (g : Gr) (k : Nat) : List UInt8 := glue 32 [wordG g k, txt (g.con k), txt (g.gai k), txt (g.hea k)]
def headG (g : Gr) : List UInt8 := glue 32 [Lib.itoa g.wide, Lib.itoa g.high] ++ [10]
def rowsC (g : Gr) : List Nat → List UInt8
  | [] => []
  | k :: l => (rowC g k ++ [10]) ++ rowsC g l
theorem rowsC_app (g : Gr) : ∀ (l : List Nat) (k : Nat), rowsC g (l ++ [k]) = rowsC g l ++ (rowC g k ++ [10])
  | [], k => by simp [rowsC]
  | a :: l, k => by simp [rowsC, rowsC_app g l k]
def txtTo (g : Gr) (j : Nat) : List UInt8 := headG g ++ rowsC g ((cellsTo g 64).take j)
def txtGr (g : Gr) : List UInt8 := headG g ++ rowsC g (cellsTo g 64)
/-- Each number's bits fit. -/
def Fits (g : Gr) : Prop := ∀ k, k < 64 → g.con k < 4294967296 ∧ g.gai k < 4294967296 ∧ g.hea k < 4294967296
theorem wordG_len (g : Gr) (k : Nat) : (wordG g k).length ≤ 5 := by unfold wordG; split <;> decide
theorem rowC_len (g : Gr) (k : Nat) : (rowC g k).length ≤ 32 := by
  have h1 := wordG_len g k
  have h2 := txt_length (g.con k)
  have h3 := txt_length (g.gai k)
  have h4 := txt_length (g.hea k)
  unfold rowC glue glue glue glue
  simp; omega
theorem rowsC_len (g : Gr) : ∀ l : List Nat, (rowsC g l).length ≤ 33 * l.length
  | [] => by simp [rowsC]
  | k :: l => by
    have ih := rowsC_len g l
    have := rowC_len g k
    unfold rowsC; simp; omega
theorem joinG (a b c d : List UInt8) (hl : a.length + b.length + c.length + d.length ≤ 1000) (q : Nat) (w1 : World) (hb : Blk w1 q #[.string ⟨a.toArray⟩, .string ⟨b.toArray⟩, .string ⟨c.toArray⟩, .string ⟨d.toArray⟩] 9) :
    Calls Tryz.prog 77 #[.slice (some ⟨q, 0, none⟩) 4 4, .string ⟨([32] : List UInt8).toArray⟩] w1 fun e w' => e = .returned (.string ⟨(glue 32 [a, b, c, d]).toArray⟩) ∧ Below w1.heap.size w1 w' := by
  have hj : Lib.join ([⟨a.toArray⟩, ⟨b.toArray⟩, ⟨c.toArray⟩, ⟨d.toArray⟩].map fun x : ByteArray => x.data.toList) [32] = glue 32 [a, b, c, d] := by
    simp [Lib.join, List.intercalate, glue]
  have h := sh_strings_Join q 0 4 [⟨a.toArray⟩, ⟨b.toArray⟩, ⟨c.toArray⟩, ⟨d.toArray⟩] ⟨([32] : List UInt8).toArray⟩ w1 (fun j x hx => by
    match j, hx with
    | 0, hx => obtain rfl : _ = x := Option.some.inj hx; exact hb.cell 0
    | 1, hx => obtain rfl : _ = x := Option.some.inj hx; exact hb.cell 1
    | 2, hx => obtain rfl : _ = x := Option.some.inj hx; exact hb.cell 2
    | 3, hx => obtain rfl : _ = x := Option.some.inj hx; exact hb.cell 3) hb.lt (by simp) (by simp) (by
      show (Lib.join _ [32]).length ≤ _
      rw [hj]; unfold glue glue glue glue; simp; omega)
  rw [show (⟨([32] : List UInt8).toArray⟩ : ByteArray).data.toList = [32] from rfl, hj] at h
  exact h
set_option maxRecDepth 100000 in
set_option maxHeartbeats 4000000 in
theorem groundText_any (g : Gr) (hg : g.ok) (hB : Bare g) (hF : Fits g) (w : World) (hV : NumVars w) (htab : Lib.TabIs Tryz.prog w "internal/strconv.uint64pow10" .u64 Lib.pow10Tab) :
    Calls Tryz.prog 25 #[.agg g.cells] w fun e w' => e = .returned (.string ⟨(if validG g then txtGr g else []).toArray⟩) ∧ Below w.heap.size w w' := by
  have hv := fun w' => validGround_any g hg w'
  have hB0 := Blk.new w g.cells 30
  have hbel := below1 w (.cells g.cells 30)
  have hsz := g.size
  have hm := fun w' (hb : GAt w' w.heap.size g) => hasMinus_any g w.heap.size hg hB w' hb
  have HV := Lib.hid hV
  have HT := Lib.hid htab
  have HF := Lib.hid hF
  have HG := Lib.hid hg
  clear hV htab hF hB hg
  have l_b0 := hB0.lt
  cases hvg : validG g <;> rw [hvg] at hv
  · clear hvg
    go_enter Tryz.func25, Tryz.ntmps25
    go_upto_region 1 with fail
    generalize w.alloc (.cells g.cells 30) = W at *
    go_wp2_with (first | (refine wpList_load_blk rfl rfl rfl row66 hB0 hsz ?_) | (go_at_call 32; refine (hv _).mono ?_; rintro e w1 ⟨rfl, hb1⟩))
    all_goals (
      go_ret
      exact ⟨rfl, hbel.trans (hb1.mono hbel.size)⟩)
  rw [if_pos rfl]
  clear hvg
  go_enter Tryz.func25, Tryz.ntmps25
  go_upto_region 1 with fail
  generalize w.alloc (.cells g.cells 30) = W at *
  go_upto_region 4 with (first | (refine wpList_load_blk rfl rfl rfl row66 hB0 hsz ?_) | (go_at_call 32; refine (hv _).mono ?_; rintro e w1 ⟨rfl, hb1⟩; have hB1 := hB0.below hb1 l_b0) | (go_at_call 75; refine (hm _ hB1.gat).mono ?_; rintro e w2 ⟨rfl, hb2⟩))
  have hB2 := (hB1.below hb2 hB1.lt).alloc (.cells #[.pointer none, .slice none 0 0] 94)
  have hbel2 := ((hbel.trans (hb1.mono hbel.size)).trans (hb2.mono (Nat.le_trans hbel.size hb1.size)))
  have hbel3 := hbel2.alloc hbel2.size (.cells #[.pointer none, .slice none 0 0] 94)
  have hbd := Lib.fresh_isBuilder 94 5 w2
  have hq : w2.heap.size ≤ (w2.alloc (.cells #[.pointer none, .slice none 0 0] 94)).heap.size := by simp
  have hwq : w.heap.size ≤ w2.heap.size := hbel2.size
  have hb0q : w.heap.size < w2.heap.size := (hB1.below hb2 hB1.lt).lt
  clear hv hm hB0 hB1 hb1 hb2 hbel hbel2 l_b0
  generalize w2.alloc (.cells #[.pointer none, .slice none 0 0] 94) = W4 at *
  generalize w2.heap.size = q0 at *
  have l_w_heap_size := hB2.lt
  have c0 := hB2.gat.get0
  have c1' := hB2.gat.get1
  obtain ⟨o1, o2⟩ := HG.out.wide
  obtain ⟨p1, p2⟩ := HG.out.high
  have hd1 := fun w' (hb' : Below W4.heap.size W4 w') => decimalZ_any g.wide (by omega) w' (tab_below (tab_below HT.out hbel3) hb')
  have hd2 := fun w' (hb' : Below W4.heap.size W4 w') => decimalZ_any g.high (by omega) w' (tab_below (tab_below HT.out hbel3) hb')
  have l1 := itoa_len (z := g.wide) (by omega)
  have l2 := itoa_len (z := g.high) (by omega)
  have hT0 : txtTo g 0 = ((Lib.itoa g.wide ++ ([32] : List UInt8)) ++ Lib.itoa g.high) ++ ([10] : List UInt8) := by
    simp [txtTo, headG, glue, rowsC]
  have u1 := IntWalk.i64_in g.wide (by omega)
  have u2 := IntWalk.i64_in g.high (by omega)
  have HT0 := Lib.hid hT0
  clear hT0
  generalize Lib.itoa g.wide = D1 at *
  generalize Lib.itoa g.high = D2 at *
  refine wp_splitK 11 (C := fun w' => Below W4.heap.size W4 w') (R := fun w w' => Below w.heap.size w w') (F := fun _ dd vv => match dd, vv with
    | 14, vv => vv = .pointer (some ⟨w.heap.size, 0, none⟩)
    | 15, vv => vv = .int .i8 g.wide
    | 16, vv => vv = .int .i64 g.wide
    | 17, vv => vv = .string ⟨(D1).toArray⟩
    | 18, vv => vv = .string ⟨((D1 ++ ([32] : List UInt8))).toArray⟩
    | 19, vv => vv = .pointer (some ⟨w.heap.size, 1, none⟩)
    | 20, vv => vv = .int .i8 g.high
    | 21, vv => vv = .int .i64 g.high
    | 22, vv => vv = .string ⟨(D2).toArray⟩
    | 23, vv => vv = .string ⟨(((D1 ++ ([32] : List UInt8)) ++ D2)).toArray⟩
    | 24, vv => vv = .string ⟨((((D1 ++ ([32] : List UInt8)) ++ D2) ++ ([10] : List UInt8))).toArray⟩
    | _, _ => True) (fun _ _ _ _ _ h => h) (by kernel_rfl) (by kernel_rfl) (by kernel_rfl) (Below.refl _ _).drew ?_ ?_
  · refine ⟨step_go rfl fun ev w1 hC kn => ?_, ?_⟩
    · have e1 : ev (.tmp 1) = .pointer (some ⟨w.heap.size, 0, none⟩) := kn.out 1 rfl rfl rfl
      exact good_of (v := .pointer (some ⟨w.heap.size, 0, none⟩)) rfl (by simp only [execOp, e1]; rfl) hC (Below.refl _ _) rfl
    refine ⟨step_go rfl fun ev w1 hC kn => ?_, ?_⟩
    · have e1 : ev (.tmp 14) = .pointer (some ⟨w.heap.size, 0, none⟩) := kn.inn 14 rfl rfl
      have c1 := (hC.cell (p := ⟨w.heap.size, 0, none⟩) l_w_heap_size).trans c0
      exact good_of (v := .int .i8 g.wide) rfl (by simp [execOp, e1, go_sem, c1]) hC (Below.refl _ _) rfl
    refine ⟨step_go rfl fun ev w1 hC kn => ?_, ?_⟩
    · have e1 : ev (.tmp 15) = .int .i8 g.wide := kn.inn 15 rfl rfl
      exact good_of (v := .int .i64 g.wide) rfl (by simp [execOp, e1, go_sem, u1]) hC (Below.refl _ _) rfl
    refine ⟨step_go rfl fun ev w1 hC kn => ?_, ?_⟩
    · have e1 : ev (.tmp 16) = .int .i64 g.wide := kn.inn 16 rfl rfl
      refine good_call (f := 50) (args := #[.int .i64 g.wide]) rfl (by simp [execOp, e1, kn.fn, kn.con, go_sem]) ((hd1 w1 hC).mono fun e w2 ⟨he, hb⟩ => ⟨_, he, hC.trans (hb.mono hC.size), hb, rfl⟩)
    refine ⟨step_go rfl fun ev w1 hC kn => ?_, ?_⟩
    · have e1 : ev (.tmp 17) = .string ⟨(D1).toArray⟩ := kn.inn 17 rfl rfl
      exact good_of (v := .string ⟨((D1 ++ ([32] : List UInt8))).toArray⟩) rfl (by exact exec_addS (A := D1) (B := ([32] : List UInt8)) rfl e1 (kn.con _) (by simp; omega) _) hC (Below.refl _ _) rfl
    refine ⟨step_go rfl fun ev w1 hC kn => ?_, ?_⟩
    · have e1 : ev (.tmp 1) = .pointer (some ⟨w.heap.size, 0, none⟩) := kn.out 1 rfl rfl rfl
      exact good_of (v := .pointer (some ⟨w.heap.size, 1, none⟩)) rfl (by simp only [execOp, e1]; rfl) hC (Below.refl _ _) rfl
    refine ⟨step_go rfl fun ev w1 hC kn => ?_, ?_⟩
    · have e1 : ev (.tmp 19) = .pointer (some ⟨w.heap.size, 1, none⟩) := kn.inn 19 rfl rfl
      have c1 := (hC.cell (p := ⟨w.heap.size, 1, none⟩) l_w_heap_size).trans c1'
      exact good_of (v := .int .i8 g.high) rfl (by simp [execOp, e1, go_sem, c1]) hC (Below.refl _ _) rfl
    refine ⟨step_go rfl fun ev w1 hC kn => ?_, ?_⟩
    · have e1 : ev (.tmp 20) = .int .i8 g.high := kn.inn 20 rfl rfl
      exact good_of (v := .int .i64 g.high) rfl (by simp [execOp, e1, go_sem, u2]) hC (Below.refl _ _) rfl
    refine ⟨step_go rfl fun ev w1 hC kn => ?_, ?_⟩
    · have e1 : ev (.tmp 21) = .int .i64 g.high := kn.inn 21 rfl rfl
      refine good_call (f := 50) (args := #[.int .i64 g.high]) rfl (by simp [execOp, e1, kn.fn, kn.con, go_sem]) ((hd2 w1 hC).mono fun e w2 ⟨he, hb⟩ => ⟨_, he, hC.trans (hb.mono hC.size), hb, rfl⟩)
    refine ⟨step_go rfl fun ev w1 hC kn => ?_, ?_⟩
    · have e1 : ev (.tmp 18) = .string ⟨((D1 ++ ([32] : List UInt8))).toArray⟩ := kn.inn 18 rfl rfl
      have e2 : ev (.tmp 22) = .string ⟨(D2).toArray⟩ := kn.inn 22 rfl rfl
      exact good_of (v := .string ⟨(((D1 ++ ([32] : List UInt8)) ++ D2)).toArray⟩) rfl (by exact exec_addS (A := (D1 ++ ([32] : List UInt8))) (B := D2) rfl e1 e2 (by simp; omega) _) hC (Below.refl _ _) rfl
    refine ⟨step_go rfl fun ev w1 hC kn => ?_, ?_⟩
    · have e1 : ev (.tmp 23) = .string ⟨(((D1 ++ ([32] : List UInt8)) ++ D2)).toArray⟩ := kn.inn 23 rfl rfl
      exact good_of (v := .string ⟨((((D1 ++ ([32] : List UInt8)) ++ D2) ++ ([10] : List UInt8))).toArray⟩) rfl (by exact exec_addS (A := ((D1 ++ ([32] : List UInt8)) ++ D2)) (B := ([10] : List UInt8)) rfl e1 (kn.con _) (by simp; omega) _) hC (Below.refl _ _) rfl
    exact trivial
  rintro xv w1 hxv hC
  have y24 : xv 24 = .string ⟨((((D1 ++ ([32] : List UInt8)) ++ D2) ++ ([10] : List UInt8))).toArray⟩ := hxv 24 (by decide)
  simp only [fill, dstsOf, List.filterMap_cons, List.filterMap_nil, List.foldl_cons, List.foldl_nil, List.set_cons_succ, List.set_cons_zero, List.take_succ_cons, List.take_zero, List.drop_succ_cons, List.drop_zero, y24]
  clear hxv y24
  have hbd : Lib.IsBuilderF 94 5 q0 q0 (Lib.byteCells []) W4 := Lib.IsBuilderF.of hbd
  have hbu := hbd.below hC
  have hq2 : q0 ≤ w1.heap.size := Nat.le_trans hq hC.size
  have hB1 := hB2.below hC l_w_heap_size
  have hbelC := hbel3.trans (hC.mono hbel3.size)
  have hT0 := HT0.out
  have hSl : (D1 ++ ([32] : List UInt8) ++ D2 ++ ([10] : List UInt8)).length ≤ 16 := by simp; omega
  generalize (D1 ++ ([32] : List UInt8) ++ D2 ++ ([10] : List UInt8)) = S at *
  have hw := writeStringK_any q0 q0 _ ⟨S.toArray⟩ w1 hbu (by rw [byteCells_len]; simp [ByteArray.size]; omega) hq2
  rw [strCells_eq, byteCells_app, List.nil_append, show Lib.byteCells S = Lib.byteCells (txtTo g 0) by rw [hT0]] at hw
  clear hbd hbu hC hB2 hbel3 hq c0 c1' hd1 hd2 HT0 hT0 l_w_heap_size
  go_wp2_with fail
  refine hw.mono ?_
  rintro e w5 ⟨rfl, hbu2, hb5, hk5⟩
  have hB3 := hB1.below hb5 hb0q
  have hbel4 := hbelC.trans (hb5.mono hwq)
  have hq3 := Nat.le_trans hq2 hb5.size
  have hcs := cells_any g w.heap.size HG.out w5 hB3.gat
  clear hw hB1 hbelC hb5 hk5
  go_wp2_with (go_at_call 73; refine hcs.mono ?_; rintro e w6 ⟨r, capc, rfl, hr6, hO6, hb6⟩)
  have hB4 := hB3.below hb6 (Nat.lt_of_lt_of_le hb0q hq3)
  have hbel5 := hbel4.trans (hb6.mono (Nat.le_trans hwq hq3))
  have hbu4 := Lib.IsBuilderF.below (.inr hbu2) hb6
  have hq4 : q0 ≤ w6.heap.size := Nat.le_trans hq3 hb6.size
  have hrq : q0 ≤ r := Nat.le_trans hq3 hr6
  have hrne : r ≠ q0 := by have := hbu2.lt; omega
  have hcl := cellsTo_length g 64
  have HMEM := Lib.hid (fun j (h : j < (cellsTo g 64).length) => cellsTo_lt (List.getElem_mem h))
  obtain ⟨hOx, _, cur6, hOv, hOb, hOr⟩ := hO6
  have hO6 : Own w6 r 3 1 (.slice (some ⟨r, 0, none⟩) (cellsTo g 64).length capc) (cellsTo g 64).length (ils (cellsTo g 64)) := ⟨hOx, _, cur6, hOv, hOb, hOr⟩
  have HO6 := Lib.hid hO6
  have HOB := Lib.hid hOb
  clear hB3 hbel4 hbu2 hb6 hO6 hOb hOr hOv hOx hq3 hcs hr6
  go_upto_region 6 with fail
  go_loopw [28] (fun vi wr => ∃ j : Nat, j ≤ (cellsTo g 64).length ∧ vi = .int .i64 j ∧ Lib.IsBuilderF 94 5 q0 q0 (Lib.byteCells (txtTo g j)) wr ∧ q0 ≤ wr.heap.size ∧ Below w.heap.size w wr ∧ Blk wr w.heap.size g.cells 30 ∧ Blk wr r cur6 3) (fun vi _ => (cellsTo g 64).length - (intOf vi).toNat)
  case atStart => exact ⟨0, by omega, rfl, hbu4, hq4, hbel5, hB4, HOB.out⟩
  case round =>
    obtain ⟨j, hj, rfl, hbu, hqr, hbel, hBg, hBr⟩ := hrel
    clear hbu4 hq4 hbel5 hB4
    have bj : (0 : Int) ≤ j := by omega
    have htl : (txtTo g j).length ≤ 4000 := by
      have h1 := rowsC_len g ((cellsTo g 64).take j)
      have h2 : ((cellsTo g 64).take j).length ≤ 64 := by simp; omega
      have h3 : (headG g).length ≤ 16 := by
        obtain ⟨o1, o2⟩ := HG.out.wide
        obtain ⟨p1, p2⟩ := HG.out.high
        have l1 := itoa_len (z := g.wide) (by omega)
        have l2 := itoa_len (z := g.high) (by omega)
        unfold headG glue glue; simp; omega
      unfold txtTo; simp only [List.length_append]; omega
    by_cases hlt : j < (cellsTo g 64).length
    · have bl : (j : Int) < (cellsTo g 64).length := by omega
      obtain ⟨c, hcj⟩ : ∃ c, (cellsTo g 64)[j] = c := ⟨_, rfl⟩
      have hc64 : c < 64 := by rw [← hcj]; exact (HMEM.out j hlt).1
      have hcur : cur6[j]? = some (.int .i64 c) := by
        rw [← HOB.out.cell j, HO6.out.cell j (by omega)]
        exact ils_get _ j c (by rw [List.getElem?_eq_getElem hlt, hcj])
      have e0 := (hBr.cell j).trans hcur
      have bc : (0 : Int) ≤ c := by omega
      have bc2 : (c : Int) < 64 := by omega
      have m1 := hBg.gat.getC c hc64
      have m2 := hBg.gat.getG c hc64
      have m3 := hBg.gat.getH c hc64
      have l_w_heap_size := hBg.lt
      obtain ⟨f1, f2, f3⟩ := HF.out c hc64
      have hfi := fixedW_any g w.heap.size c HG.out hc64 wr hBg.gat
      have hS : txtTo g (j + 1) = txtTo g j ++ (glue 32 [wordG g c, txt (g.con c), txt (g.gai c), txt (g.hea c)] ++ ([10] : List UInt8)) ∧ (glue 32 [wordG g c, txt (g.con c), txt (g.gai c), txt (g.hea c)]).length ≤ 32 := by
        refine ⟨?_, rowC_len g c⟩
        unfold txtTo
        rw [List.take_add_one, List.getElem?_eq_getElem hlt, hcj]
        show _ ++ rowsC g (_ ++ [c]) = _
        rw [rowsC_app, List.append_assoc]
        rfl
      have hn1 := fun w' (hb' : Below wr.heap.size wr w') => numberText_any (g.con c) f1 w' ((HV.out.below hbel).below hb')
      have hn2 := fun w' (hb' : Below wr.heap.size wr w') => numberText_any (g.gai c) f2 w' ((HV.out.below hbel).below hb')
      have hn3 := fun w' (hb' : Below wr.heap.size wr w') => numberText_any (g.hea c) f3 w' ((HV.out.below hbel).below hb')
      have t1 := txt_length (g.con c)
      have t2 := txt_length (g.gai c)
      have t3 := txt_length (g.hea c)
      clear hcj hcur f1 f2 f3
      generalize txt (g.con c) = D1 at *
      generalize txt (g.gai c) = D2 at *
      generalize txt (g.hea c) = D3 at *
      generalize g.con c = y1 at *
      generalize g.gai c = y2 at *
      generalize g.hea c = y3 at *
      cases hfx : isFxW g c <;> rw [hfx] at hfi
      · have hwd : wordG g c = [102, 114, 101, 101] := by unfold wordG; rw [hfx]; rfl
        rw [hwd] at hS
        clear hwd hfx
        go_upto_region 11 with (go_at_call 76; refine hfi.mono ?_; rintro e w' ⟨rfl, hw⟩; rw [hw]; clear hw w')
        have hj := fun (q : Nat) (w1 : World) (hb : Blk w1 q #[.string ⟨([102, 114, 101, 101] : List UInt8).toArray⟩, .string ⟨D1.toArray⟩, .string ⟨D2.toArray⟩, .string ⟨D3.toArray⟩] 9) => joinG ([102, 114, 101, 101] : List UInt8) D1 D2 D3 (by simp; omega) q w1 hb
        generalize hJ : glue 32 [([102, 114, 101, 101] : List UInt8), D1, D2, D3] = J at *
        refine wp_splitK 19 (C := fun w' => Below wr.heap.size wr w') (R := fun w w' => Below w.heap.size w w') (F := fun ww dd vv => match dd, vv with
          | 34, vv => vv = .string ⟨(([102, 114, 101, 101] : List UInt8)).toArray⟩
          | 35, vv => vv = .int .i64 c
          | 36, vv => vv = .pointer (some ⟨w.heap.size, 2, none⟩)
          | 37, vv => vv = .pointer (some ⟨w.heap.size, 2 + c, none⟩)
          | 38, vv => vv = .float .f32 y1
          | 39, vv => vv = .string ⟨(D1).toArray⟩
          | 40, vv => vv = .int .i64 c
          | 41, vv => vv = .pointer (some ⟨w.heap.size, 66, none⟩)
          | 42, vv => vv = .pointer (some ⟨w.heap.size, 66 + c, none⟩)
          | 43, vv => vv = .float .f32 y2
          | 44, vv => vv = .string ⟨(D2).toArray⟩
          | 45, vv => vv = .int .i64 c
          | 46, vv => vv = .pointer (some ⟨w.heap.size, 130, none⟩)
          | 47, vv => vv = .pointer (some ⟨w.heap.size, 130 + c, none⟩)
          | 48, vv => vv = .float .f32 y3
          | 49, vv => vv = .string ⟨(D3).toArray⟩
          | 50, vv => ∃ q, wr.heap.size ≤ q ∧ vv = .slice (some ⟨q, 0, none⟩) 4 4 ∧ Blk ww q #[.string ⟨([102, 114, 101, 101] : List UInt8).toArray⟩, .string ⟨(D1).toArray⟩, .string ⟨(D2).toArray⟩, .string ⟨(D3).toArray⟩] 9
          | 51, vv => vv = .string ⟨(J).toArray⟩
          | 52, vv => vv = .string ⟨((J ++ ([10] : List UInt8))).toArray⟩
          | _, _ => True) (fun wa wb d v hRR => by split <;> intro hFF <;> first | exact hFF | (obtain ⟨q, h1, h2, h3⟩ := hFF; exact ⟨q, h1, h2, h3.below hRR h3.lt⟩)) (by kernel_rfl) (by kernel_rfl) (by kernel_rfl) (Below.refl _ _).drew ?_ ?_
        · refine ⟨step_go rfl fun ev w1 hC kn => ?_, ?_⟩
          · have e1 : ev (.tmp 6) = .string ⟨(([102, 114, 101, 101] : List UInt8)).toArray⟩ := kn.out 6 rfl rfl rfl
            exact good_of (v := .string ⟨(([102, 114, 101, 101] : List UInt8)).toArray⟩) rfl (by simp [execOp, e1, kn.con, go_sem]) hC (Below.refl _ _) rfl
          refine ⟨step_go rfl fun ev w1 hC kn => ?_, ?_⟩
          · have e1 : ev (.tmp 5) = .int .i64 c := kn.out 5 rfl rfl rfl
            exact good_of (v := .int .i64 c) rfl (by simp [execOp, e1, kn.con, go_sem]) hC (Below.refl _ _) rfl
          refine ⟨step_go rfl fun ev w1 hC kn => ?_, ?_⟩
          · have e1 : ev (.tmp 1) = .pointer (some ⟨w.heap.size, 0, none⟩) := kn.out 1 rfl rfl rfl
            exact good_of (v := .pointer (some ⟨w.heap.size, 2, none⟩)) rfl (by simp only [execOp, e1]; rfl) hC (Below.refl _ _) rfl
          refine ⟨step_go rfl fun ev w1 hC kn => ?_, ?_⟩
          · have e1 : ev (.tmp 36) = .pointer (some ⟨w.heap.size, 2, none⟩) := kn.inn 36 rfl rfl
            have e2 : ev (.tmp 35) = .int .i64 c := kn.inn 35 rfl rfl
            exact good_of (v := .pointer (some ⟨w.heap.size, 2 + c, none⟩)) rfl (by simp [execOp, e1, e2, kn.con, go_sem, bc, bc2]) hC (Below.refl _ _) rfl
          refine ⟨step_go rfl fun ev w1 hC kn => ?_, ?_⟩
          · have e1 : ev (.tmp 37) = .pointer (some ⟨w.heap.size, 2 + c, none⟩) := kn.inn 37 rfl rfl
            have c1 := (hC.cell (p := ⟨w.heap.size, 2 + c, none⟩) l_w_heap_size).trans m1
            exact good_of (v := .float .f32 y1) rfl (by simp [execOp, e1, go_sem, c1]) hC (Below.refl _ _) rfl
          refine ⟨step_go rfl fun ev w1 hC kn => ?_, ?_⟩
          · have e1 : ev (.tmp 38) = .float .f32 y1 := kn.inn 38 rfl rfl
            refine good_call (f := 30) (args := #[.float .f32 y1]) rfl (by simp [execOp, e1, kn.fn, kn.con, go_sem]) ((hn1 w1 hC).mono fun e w2 ⟨he, hb⟩ => ⟨_, he, hC.trans (hb.mono hC.size), hb, rfl⟩)
          refine ⟨step_go rfl fun ev w1 hC kn => ?_, ?_⟩
          · have e1 : ev (.tmp 5) = .int .i64 c := kn.out 5 rfl rfl rfl
            exact good_of (v := .int .i64 c) rfl (by simp [execOp, e1, kn.con, go_sem]) hC (Below.refl _ _) rfl
          refine ⟨step_go rfl fun ev w1 hC kn => ?_, ?_⟩
          · have e1 : ev (.tmp 1) = .pointer (some ⟨w.heap.size, 0, none⟩) := kn.out 1 rfl rfl rfl
            exact good_of (v := .pointer (some ⟨w.heap.size, 66, none⟩)) rfl (by simp only [execOp, e1]; rfl) hC (Below.refl _ _) rfl
          refine ⟨step_go rfl fun ev w1 hC kn => ?_, ?_⟩
          · have e1 : ev (.tmp 41) = .pointer (some ⟨w.heap.size, 66, none⟩) := kn.inn 41 rfl rfl
            have e2 : ev (.tmp 40) = .int .i64 c := kn.inn 40 rfl rfl
            exact good_of (v := .pointer (some ⟨w.heap.size, 66 + c, none⟩)) rfl (by simp [execOp, e1, e2, kn.con, go_sem, bc, bc2]) hC (Below.refl _ _) rfl
          refine ⟨step_go rfl fun ev w1 hC kn => ?_, ?_⟩
          · have e1 : ev (.tmp 42) = .pointer (some ⟨w.heap.size, 66 + c, none⟩) := kn.inn 42 rfl rfl
            have c1 := (hC.cell (p := ⟨w.heap.size, 66 + c, none⟩) l_w_heap_size).trans m2
            exact good_of (v := .float .f32 y2) rfl (by simp [execOp, e1, go_sem, c1]) hC (Below.refl _ _) rfl
          refine ⟨step_go rfl fun ev w1 hC kn => ?_, ?_⟩
          · have e1 : ev (.tmp 43) = .float .f32 y2 := kn.inn 43 rfl rfl
            refine good_call (f := 30) (args := #[.float .f32 y2]) rfl (by simp [execOp, e1, kn.fn, kn.con, go_sem]) ((hn2 w1 hC).mono fun e w2 ⟨he, hb⟩ => ⟨_, he, hC.trans (hb.mono hC.size), hb, rfl⟩)
          refine ⟨step_go rfl fun ev w1 hC kn => ?_, ?_⟩
          · have e1 : ev (.tmp 5) = .int .i64 c := kn.out 5 rfl rfl rfl
            exact good_of (v := .int .i64 c) rfl (by simp [execOp, e1, kn.con, go_sem]) hC (Below.refl _ _) rfl
          refine ⟨step_go rfl fun ev w1 hC kn => ?_, ?_⟩
          · have e1 : ev (.tmp 1) = .pointer (some ⟨w.heap.size, 0, none⟩) := kn.out 1 rfl rfl rfl
            exact good_of (v := .pointer (some ⟨w.heap.size, 130, none⟩)) rfl (by simp only [execOp, e1]; rfl) hC (Below.refl _ _) rfl
          refine ⟨step_go rfl fun ev w1 hC kn => ?_, ?_⟩
          · have e1 : ev (.tmp 46) = .pointer (some ⟨w.heap.size, 130, none⟩) := kn.inn 46 rfl rfl
            have e2 : ev (.tmp 45) = .int .i64 c := kn.inn 45 rfl rfl
            exact good_of (v := .pointer (some ⟨w.heap.size, 130 + c, none⟩)) rfl (by simp [execOp, e1, e2, kn.con, go_sem, bc, bc2]) hC (Below.refl _ _) rfl
          refine ⟨step_go rfl fun ev w1 hC kn => ?_, ?_⟩
          · have e1 : ev (.tmp 47) = .pointer (some ⟨w.heap.size, 130 + c, none⟩) := kn.inn 47 rfl rfl
            have c1 := (hC.cell (p := ⟨w.heap.size, 130 + c, none⟩) l_w_heap_size).trans m3
            exact good_of (v := .float .f32 y3) rfl (by simp [execOp, e1, go_sem, c1]) hC (Below.refl _ _) rfl
          refine ⟨step_go rfl fun ev w1 hC kn => ?_, ?_⟩
          · have e1 : ev (.tmp 48) = .float .f32 y3 := kn.inn 48 rfl rfl
            refine good_call (f := 30) (args := #[.float .f32 y3]) rfl (by simp [execOp, e1, kn.fn, kn.con, go_sem]) ((hn3 w1 hC).mono fun e w2 ⟨he, hb⟩ => ⟨_, he, hC.trans (hb.mono hC.size), hb, rfl⟩)
          refine ⟨step_go rfl fun ev w1 hC kn => ?_, ?_⟩
          · have e1 : ev (.tmp 34) = .string ⟨(([102, 114, 101, 101] : List UInt8)).toArray⟩ := kn.inn 34 rfl rfl
            have e2 : ev (.tmp 39) = .string ⟨(D1).toArray⟩ := kn.inn 39 rfl rfl
            have e3 : ev (.tmp 44) = .string ⟨(D2).toArray⟩ := kn.inn 44 rfl rfl
            have e4 : ev (.tmp 49) = .string ⟨(D3).toArray⟩ := kn.inn 49 rfl rfl
            exact good_of (v := .slice (some ⟨w1.heap.size, 0, none⟩) 4 4) (w' := w1.alloc (.cells #[.string ⟨([102, 114, 101, 101] : List UInt8).toArray⟩, .string ⟨(D1).toArray⟩, .string ⟨(D2).toArray⟩, .string ⟨(D3).toArray⟩] 9)) rfl (by simp [execOp, e1, e2, e3, e4, go_sem]) (hC.alloc hC.size _) (below1 _ _) ⟨_, hC.size, rfl, Blk.new _ _ _⟩
          refine ⟨step_go rfl fun ev w1 hC kn => ?_, ?_⟩
          · obtain ⟨q1, lq1, e1, bq1⟩ : ∃ q, wr.heap.size ≤ q ∧ ev (.tmp 50) = .slice (some ⟨q, 0, none⟩) 4 4 ∧ Blk w1 q #[.string ⟨([102, 114, 101, 101] : List UInt8).toArray⟩, .string ⟨(D1).toArray⟩, .string ⟨(D2).toArray⟩, .string ⟨(D3).toArray⟩] 9 := kn.inn 50 rfl rfl
            refine good_call (f := 77) (args := #[.slice (some ⟨q1, 0, none⟩) 4 4, .string ⟨(([32] : List UInt8)).toArray⟩]) rfl (by simp [execOp, e1, kn.fn, kn.con, go_sem]) ((hj _ w1 bq1).mono fun e w2 ⟨he, hb⟩ => ⟨_, he, hC.trans (hb.mono hC.size), hb, rfl⟩)
          refine ⟨step_go rfl fun ev w1 hC kn => ?_, ?_⟩
          · have e1 : ev (.tmp 51) = .string ⟨(J).toArray⟩ := kn.inn 51 rfl rfl
            exact good_of (v := .string ⟨((J ++ ([10] : List UInt8))).toArray⟩) rfl (by exact exec_addS (A := J) (B := ([10] : List UInt8)) rfl e1 (kn.con _) (by simp; omega) _) hC (Below.refl _ _) rfl
          exact trivial
        rintro xv w1 hxv hC
        have y52 : xv 52 = .string ⟨((J ++ ([10] : List UInt8))).toArray⟩ := hxv 52 (by decide)
        simp only [fill, dstsOf, List.filterMap_cons, List.filterMap_nil, List.foldl_cons, List.foldl_nil, List.set_cons_succ, List.set_cons_zero, List.take_succ_cons, List.take_zero, List.drop_succ_cons, List.drop_zero, y52]
        clear hxv y52
        have hbu1 := hbu.below hC
        have hq1 : q0 ≤ w1.heap.size := Nat.le_trans hqr hC.size
        have hBg1 := hBg.below hC l_w_heap_size
        have hBr1 := hBr.below hC hBr.lt
        have hbel1 := hbel.trans (hC.mono hbel.size)
        have hSl : (J ++ ([10] : List UInt8)).length ≤ 33 := by have := hS.2; simp; omega
        generalize J ++ ([10] : List UInt8) = S at *
        have hw := writeStringK_any q0 q0 _ ⟨S.toArray⟩ w1 hbu1 (by rw [byteCells_len]; simp only [size_of]; omega) hq1
        rw [strCells_eq, byteCells_app, ← hS.1] at hw
        clear hbu hC hBg hBr hbel hn1 hn2 hn3 hj
        go_wp2_with (go_at_call 49; refine hw.mono ?_; rintro e w2 ⟨rfl, hbu2, hb2, hk2⟩)
        go_roundw
        case rel => exact ⟨j + 1, by omega, by go_num, .inr hbu2, Nat.le_trans hq1 hb2.size, hbel1.trans (hb2.mono hwq), hBg1.below hb2 hb0q, hk2 r _ hBr1 (by simpa using hrne) (fun c' fz e => by injection e with _ e2; exact absurd e2 (by decide))⟩
        case measure => simp [intOf]; omega
      · have hwd : wordG g c = [102, 105, 120, 101, 100] := by unfold wordG; rw [hfx]; rfl
        rw [hwd] at hS
        clear hwd hfx
        go_upto_region 11 with (go_at_call 76; refine hfi.mono ?_; rintro e w' ⟨rfl, hw⟩; rw [hw]; clear hw w')
        have hj := fun (q : Nat) (w1 : World) (hb : Blk w1 q #[.string ⟨([102, 105, 120, 101, 100] : List UInt8).toArray⟩, .string ⟨D1.toArray⟩, .string ⟨D2.toArray⟩, .string ⟨D3.toArray⟩] 9) => joinG ([102, 105, 120, 101, 100] : List UInt8) D1 D2 D3 (by simp; omega) q w1 hb
        generalize hJ : glue 32 [([102, 105, 120, 101, 100] : List UInt8), D1, D2, D3] = J at *
        refine wp_splitK 19 (C := fun w' => Below wr.heap.size wr w') (R := fun w w' => Below w.heap.size w w') (F := fun ww dd vv => match dd, vv with
          | 34, vv => vv = .string ⟨(([102, 105, 120, 101, 100] : List UInt8)).toArray⟩
          | 35, vv => vv = .int .i64 c
          | 36, vv => vv = .pointer (some ⟨w.heap.size, 2, none⟩)
          | 37, vv => vv = .pointer (some ⟨w.heap.size, 2 + c, none⟩)
          | 38, vv => vv = .float .f32 y1
          | 39, vv => vv = .string ⟨(D1).toArray⟩
          | 40, vv => vv = .int .i64 c
          | 41, vv => vv = .pointer (some ⟨w.heap.size, 66, none⟩)
          | 42, vv => vv = .pointer (some ⟨w.heap.size, 66 + c, none⟩)
          | 43, vv => vv = .float .f32 y2
          | 44, vv => vv = .string ⟨(D2).toArray⟩
          | 45, vv => vv = .int .i64 c
          | 46, vv => vv = .pointer (some ⟨w.heap.size, 130, none⟩)
          | 47, vv => vv = .pointer (some ⟨w.heap.size, 130 + c, none⟩)
          | 48, vv => vv = .float .f32 y3
          | 49, vv => vv = .string ⟨(D3).toArray⟩
          | 50, vv => ∃ q, wr.heap.size ≤ q ∧ vv = .slice (some ⟨q, 0, none⟩) 4 4 ∧ Blk ww q #[.string ⟨([102, 105, 120, 101, 100] : List UInt8).toArray⟩, .string ⟨(D1).toArray⟩, .string ⟨(D2).toArray⟩, .string ⟨(D3).toArray⟩] 9
          | 51, vv => vv = .string ⟨(J).toArray⟩
          | 52, vv => vv = .string ⟨((J ++ ([10] : List UInt8))).toArray⟩
          | _, _ => True) (fun wa wb d v hRR => by split <;> intro hFF <;> first | exact hFF | (obtain ⟨q, h1, h2, h3⟩ := hFF; exact ⟨q, h1, h2, h3.below hRR h3.lt⟩)) (by kernel_rfl) (by kernel_rfl) (by kernel_rfl) (Below.refl _ _).drew ?_ ?_
        · refine ⟨step_go rfl fun ev w1 hC kn => ?_, ?_⟩
          · have e1 : ev (.tmp 6) = .string ⟨(([102, 105, 120, 101, 100] : List UInt8)).toArray⟩ := kn.out 6 rfl rfl rfl
            exact good_of (v := .string ⟨(([102, 105, 120, 101, 100] : List UInt8)).toArray⟩) rfl (by simp [execOp, e1, kn.con, go_sem]) hC (Below.refl _ _) rfl
          refine ⟨step_go rfl fun ev w1 hC kn => ?_, ?_⟩
          · have e1 : ev (.tmp 5) = .int .i64 c := kn.out 5 rfl rfl rfl
            exact good_of (v := .int .i64 c) rfl (by simp [execOp, e1, kn.con, go_sem]) hC (Below.refl _ _) rfl
          refine ⟨step_go rfl fun ev w1 hC kn => ?_, ?_⟩
          · have e1 : ev (.tmp 1) = .pointer (some ⟨w.heap.size, 0, none⟩) := kn.out 1 rfl rfl rfl
            exact good_of (v := .pointer (some ⟨w.heap.size, 2, none⟩)) rfl (by simp only [execOp, e1]; rfl) hC (Below.refl _ _) rfl
          refine ⟨step_go rfl fun ev w1 hC kn => ?_, ?_⟩
          · have e1 : ev (.tmp 36) = .pointer (some ⟨w.heap.size, 2, none⟩) := kn.inn 36 rfl rfl
            have e2 : ev (.tmp 35) = .int .i64 c := kn.inn 35 rfl rfl
            exact good_of (v := .pointer (some ⟨w.heap.size, 2 + c, none⟩)) rfl (by simp [execOp, e1, e2, kn.con, go_sem, bc, bc2]) hC (Below.refl _ _) rfl
          refine ⟨step_go rfl fun ev w1 hC kn => ?_, ?_⟩
          · have e1 : ev (.tmp 37) = .pointer (some ⟨w.heap.size, 2 + c, none⟩) := kn.inn 37 rfl rfl
            have c1 := (hC.cell (p := ⟨w.heap.size, 2 + c, none⟩) l_w_heap_size).trans m1
            exact good_of (v := .float .f32 y1) rfl (by simp [execOp, e1, go_sem, c1]) hC (Below.refl _ _) rfl
          refine ⟨step_go rfl fun ev w1 hC kn => ?_, ?_⟩
          · have e1 : ev (.tmp 38) = .float .f32 y1 := kn.inn 38 rfl rfl
            refine good_call (f := 30) (args := #[.float .f32 y1]) rfl (by simp [execOp, e1, kn.fn, kn.con, go_sem]) ((hn1 w1 hC).mono fun e w2 ⟨he, hb⟩ => ⟨_, he, hC.trans (hb.mono hC.size), hb, rfl⟩)
          refine ⟨step_go rfl fun ev w1 hC kn => ?_, ?_⟩
          · have e1 : ev (.tmp 5) = .int .i64 c := kn.out 5 rfl rfl rfl
            exact good_of (v := .int .i64 c) rfl (by simp [execOp, e1, kn.con, go_sem]) hC (Below.refl _ _) rfl
          refine ⟨step_go rfl fun ev w1 hC kn => ?_, ?_⟩
          · have e1 : ev (.tmp 1) = .pointer (some ⟨w.heap.size, 0, none⟩) := kn.out 1 rfl rfl rfl
            exact good_of (v := .pointer (some ⟨w.heap.size, 66, none⟩)) rfl (by simp only [execOp, e1]; rfl) hC (Below.refl _ _) rfl
          refine ⟨step_go rfl fun ev w1 hC kn => ?_, ?_⟩
          · have e1 : ev (.tmp 41) = .pointer (some ⟨w.heap.size, 66, none⟩) := kn.inn 41 rfl rfl
            have e2 : ev (.tmp 40) = .int .i64 c := kn.inn 40 rfl rfl
            exact good_of (v := .pointer (some ⟨w.heap.size, 66 + c, none⟩)) rfl (by simp [execOp, e1, e2, kn.con, go_sem, bc, bc2]) hC (Below.refl _ _) rfl
          refine ⟨step_go rfl fun ev w1 hC kn => ?_, ?_⟩
          · have e1 : ev (.tmp 42) = .pointer (some ⟨w.heap.size, 66 + c, none⟩) := kn.inn 42 rfl rfl
            have c1 := (hC.cell (p := ⟨w.heap.size, 66 + c, none⟩) l_w_heap_size).trans m2
            exact good_of (v := .float .f32 y2) rfl (by simp [execOp, e1, go_sem, c1]) hC (Below.refl _ _) rfl
          refine ⟨step_go rfl fun ev w1 hC kn => ?_, ?_⟩
          · have e1 : ev (.tmp 43) = .float .f32 y2 := kn.inn 43 rfl rfl
            refine good_call (f := 30) (args := #[.float .f32 y2]) rfl (by simp [execOp, e1, kn.fn, kn.con, go_sem]) ((hn2 w1 hC).mono fun e w2 ⟨he, hb⟩ => ⟨_, he, hC.trans (hb.mono hC.size), hb, rfl⟩)
          refine ⟨step_go rfl fun ev w1 hC kn => ?_, ?_⟩
          · have e1 : ev (.tmp 5) = .int .i64 c := kn.out 5 rfl rfl rfl
            exact good_of (v := .int .i64 c) rfl (by simp [execOp, e1, kn.con, go_sem]) hC (Below.refl _ _) rfl
          refine ⟨step_go rfl fun ev w1 hC kn => ?_, ?_⟩
          · have e1 : ev (.tmp 1) = .pointer (some ⟨w.heap.size, 0, none⟩) := kn.out 1 rfl rfl rfl
            exact good_of (v := .pointer (some ⟨w.heap.size, 130, none⟩)) rfl (by simp only [execOp, e1]; rfl) hC (Below.refl _ _) rfl
          refine ⟨step_go rfl fun ev w1 hC kn => ?_, ?_⟩
          · have e1 : ev (.tmp 46) = .pointer (some ⟨w.heap.size, 130, none⟩) := kn.inn 46 rfl rfl
            have e2 : ev (.tmp 45) = .int .i64 c := kn.inn 45 rfl rfl
            exact good_of (v := .pointer (some ⟨w.heap.size, 130 + c, none⟩)) rfl (by simp [execOp, e1, e2, kn.con, go_sem, bc, bc2]) hC (Below.refl _ _) rfl
          refine ⟨step_go rfl fun ev w1 hC kn => ?_, ?_⟩
          · have e1 : ev (.tmp 47) = .pointer (some ⟨w.heap.size, 130 + c, none⟩) := kn.inn 47 rfl rfl
            have c1 := (hC.cell (p := ⟨w.heap.size, 130 + c, none⟩) l_w_heap_size).trans m3
            exact good_of (v := .float .f32 y3) rfl (by simp [execOp, e1, go_sem, c1]) hC (Below.refl _ _) rfl
          refine ⟨step_go rfl fun ev w1 hC kn => ?_, ?_⟩
          · have e1 : ev (.tmp 48) = .float .f32 y3 := kn.inn 48 rfl rfl
            refine good_call (f := 30) (args := #[.float .f32 y3]) rfl (by simp [execOp, e1, kn.fn, kn.con, go_sem]) ((hn3 w1 hC).mono fun e w2 ⟨he, hb⟩ => ⟨_, he, hC.trans (hb.mono hC.size), hb, rfl⟩)
          refine ⟨step_go rfl fun ev w1 hC kn => ?_, ?_⟩
          · have e1 : ev (.tmp 34) = .string ⟨(([102, 105, 120, 101, 100] : List UInt8)).toArray⟩ := kn.inn 34 rfl rfl
            have e2 : ev (.tmp 39) = .string ⟨(D1).toArray⟩ := kn.inn 39 rfl rfl
            have e3 : ev (.tmp 44) = .string ⟨(D2).toArray⟩ := kn.inn 44 rfl rfl
            have e4 : ev (.tmp 49) = .string ⟨(D3).toArray⟩ := kn.inn 49 rfl rfl
            exact good_of (v := .slice (some ⟨w1.heap.size, 0, none⟩) 4 4) (w' := w1.alloc (.cells #[.string ⟨([102, 105, 120, 101, 100] : List UInt8).toArray⟩, .string ⟨(D1).toArray⟩, .string ⟨(D2).toArray⟩, .string ⟨(D3).toArray⟩] 9)) rfl (by simp [execOp, e1, e2, e3, e4, go_sem]) (hC.alloc hC.size _) (below1 _ _) ⟨_, hC.size, rfl, Blk.new _ _ _⟩
          refine ⟨step_go rfl fun ev w1 hC kn => ?_, ?_⟩
          · obtain ⟨q1, lq1, e1, bq1⟩ : ∃ q, wr.heap.size ≤ q ∧ ev (.tmp 50) = .slice (some ⟨q, 0, none⟩) 4 4 ∧ Blk w1 q #[.string ⟨([102, 105, 120, 101, 100] : List UInt8).toArray⟩, .string ⟨(D1).toArray⟩, .string ⟨(D2).toArray⟩, .string ⟨(D3).toArray⟩] 9 := kn.inn 50 rfl rfl
            refine good_call (f := 77) (args := #[.slice (some ⟨q1, 0, none⟩) 4 4, .string ⟨(([32] : List UInt8)).toArray⟩]) rfl (by simp [execOp, e1, kn.fn, kn.con, go_sem]) ((hj _ w1 bq1).mono fun e w2 ⟨he, hb⟩ => ⟨_, he, hC.trans (hb.mono hC.size), hb, rfl⟩)
          refine ⟨step_go rfl fun ev w1 hC kn => ?_, ?_⟩
          · have e1 : ev (.tmp 51) = .string ⟨(J).toArray⟩ := kn.inn 51 rfl rfl
            exact good_of (v := .string ⟨((J ++ ([10] : List UInt8))).toArray⟩) rfl (by exact exec_addS (A := J) (B := ([10] : List UInt8)) rfl e1 (kn.con _) (by simp; omega) _) hC (Below.refl _ _) rfl
          exact trivial
        rintro xv w1 hxv hC
        have y52 : xv 52 = .string ⟨((J ++ ([10] : List UInt8))).toArray⟩ := hxv 52 (by decide)
        simp only [fill, dstsOf, List.filterMap_cons, List.filterMap_nil, List.foldl_cons, List.foldl_nil, List.set_cons_succ, List.set_cons_zero, List.take_succ_cons, List.take_zero, List.drop_succ_cons, List.drop_zero, y52]
        clear hxv y52
        have hbu1 := hbu.below hC
        have hq1 : q0 ≤ w1.heap.size := Nat.le_trans hqr hC.size
        have hBg1 := hBg.below hC l_w_heap_size
        have hBr1 := hBr.below hC hBr.lt
        have hbel1 := hbel.trans (hC.mono hbel.size)
        have hSl : (J ++ ([10] : List UInt8)).length ≤ 33 := by have := hS.2; simp; omega
        generalize J ++ ([10] : List UInt8) = S at *
        have hw := writeStringK_any q0 q0 _ ⟨S.toArray⟩ w1 hbu1 (by rw [byteCells_len]; simp only [size_of]; omega) hq1
        rw [strCells_eq, byteCells_app, ← hS.1] at hw
        clear hbu hC hBg hBr hbel hn1 hn2 hn3 hj
        go_wp2_with (go_at_call 49; refine hw.mono ?_; rintro e w2 ⟨rfl, hbu2, hb2, hk2⟩)
        go_roundw
        case rel => exact ⟨j + 1, by omega, by go_num, .inr hbu2, Nat.le_trans hq1 hb2.size, hbel1.trans (hb2.mono hwq), hBg1.below hb2 hb0q, hk2 r _ hBr1 (by simpa using hrne) (fun c' fz e => by injection e with _ e2; exact absurd e2 (by decide))⟩
        case measure => simp [intOf]; omega
    · obtain rfl : j = (cellsTo g 64).length := by omega
      have ht : txtTo g (cellsTo g 64).length = txtGr g := by unfold txtTo txtGr; rw [List.take_length]
      have hne : txtTo g (cellsTo g 64).length ≠ [] := by unfold txtTo headG; simp
      have hst := stringK_any q0 q0 _ wr hbu hne
      rw [ht] at hst
      have HST := Lib.hid ht
      clear ht hne htl
      go_wp2_with (go_at_call 51; refine hst.mono ?_; rintro e w2 ⟨rfl, _, hb2, _⟩)
      go_ret
      exact ⟨rfl, hbel.trans (hb2.mono hwq)⟩
end Go.Proofs.YtdnnjahdcabdmaaGreatDoor
