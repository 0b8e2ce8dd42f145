import Derived.Test.YtglimhkpndfjgaaGreatDoorMW19
import Derived.Test.YtglimhkpndfjgaaGreatDoorMW06
import Derived.Test.YtglimhkpndfjgaaGreatDoorMW07
import Derived.Test.YtglimhkpndfjgaaGreatDoorMW15
import Derived.Test.YtglimhkpndfjgaaGreatDoorMW03
import Derived.Test.YtglimhkpndfjgaaGreatDoorMW02
import Derived.Test.YtglimhkpndfjgaaGreatDoorMW05
import Derived.StillTailTactics
import Derived.IntWalk
/- ReadWells, in the program: the walks. -/
namespace Go.Proofs.YtglimhkpndfjgaaGreatDoor
open Go.ChangeShapes Go.WideShapes Go.ChangeAt Go.RowKit
set_option linter.unusedVariables false
set_option linter.unusedSimpArgs false
attribute [local irreducible] Calls

theorem isPlaceW_any (n : Int) (w : World) :
    Calls Tryz.prog 79 #[.int .i64 n] w fun e w' => e = .returned (.bool (in100 n)) ∧ w' = w := by
  unfold in100
  go_enter Tryz.func79, Tryz.ntmps79
  go_wp2_with (go_at_call 120; refine (in_any _ _ _ _).mono ?_; rintro e w' ⟨rfl, rfl⟩)
  go_ret
  exact ⟨rfl, rfl⟩
set_option maxRecDepth 100000 in
set_option maxHeartbeats 400000 in
theorem validWell_any (x y : Int) (r : Nat) (hx : -100 ≤ x ∧ x ≤ 100) (hy : -100 ≤ y ∧ y ≤ 100) (w : World) :
    Calls Tryz.prog 27 #[.agg #[.int .i8 x, .int .i8 y, .float .f32 r]] w fun e w' => e = .returned (.bool (plain r)) ∧ Below w.heap.size w w' := by
  have p1 := fun w' => isPlaceW_any x w'
  have p2 := fun w' => isPlaceW_any y w'
  have p3 := fun w' => isPlain_any r w'
  have i1 : in100 x = true := by unfold in100; simp; omega
  have i2 : in100 y = true := by unfold in100; simp; omega
  rw [i1] at p1
  rw [i2] at p2
  clear i1 i2
  generalize plain r = b at *
  go_enter Tryz.func27, Tryz.ntmps27
  go_wp2_with (first | (go_at_call 79; first | (refine (p1 _).mono ?_; rintro e w' ⟨rfl, hw⟩; rw [hw]; clear hw w' p1) | (refine (p2 _).mono ?_; rintro e w' ⟨rfl, hw⟩; rw [hw]; clear hw w' p2)) | (go_at_call 80; refine (p3 _).mono ?_; rintro e w' ⟨rfl, hw⟩; rw [hw]; clear hw w'))
  go_ret
  exact ⟨rfl, below1 _ _⟩
set_option maxRecDepth 100000 in
set_option maxHeartbeats 400000 in
theorem badWell_any (p : Wl) (hx : -100 ≤ p.px ∧ p.px ≤ 100) (hy : -100 ≤ p.py ∧ p.py ≤ 100) (w : World) :
    Calls Tryz.prog 63 #[.agg p.cells] w fun e w' => e = .returned (.bool (badL p)) ∧ Below w.heap.size w w' := by
  have hv := fun w' => validWell_any p.px p.py p.rt hx hy w'
  have hB : badL p = !plain p.rt := rfl
  rw [p.cells_eq, hB]
  generalize plain p.rt = b at *
  clear hB
  go_enter Tryz.func63, Tryz.ntmps63
  go_wp2_with (go_at_call 27; refine (hv _).mono ?_; rintro e w2 ⟨rfl, hb⟩)
  go_ret
  exact ⟨rfl, (below1 _ _).trans (hb.mono (by simp))⟩
theorem callBadWell : Callable Tryz.prog 63 := ⟨_, Tryz.func63, by kernel_rfl, by kernel_rfl⟩
set_option maxRecDepth 100000 in
set_option maxHeartbeats 400000 in
theorem indexWl_any (q : Wl → Bool) (fid : Nat) (cap : Array Value) (n : Nat) (P : Nat → Wl) (v : Value) (w : World) (hv : LSl w v n P) (hf : Callable Tryz.prog fid)
    (hcall : ∀ i w', i < n → Below w.heap.size w w' → Calls Tryz.prog fid (#[.agg (P i).cells] ++ cap) w' fun e w'' => e = .returned (.bool (q (P i))) ∧ Below w'.heap.size w' w'') :
    Calls Tryz.prog 121 #[v, .func (.func fid) #[] cap] w fun e w' => ∃ r : Int, e = .returned (.int .i64 r) ∧ firstTo q P n r ∧ Below w.heap.size w w' := by
  obtain ⟨a, c, rfl, hc1, hc2, hcell⟩ := hv
  unfold maxLen at hc2
  go_enter Tryz.func121, Tryz.ntmps121
  go_wp2
  go_loopw [8] (fun i wr => ∃ k : Nat, k ≤ n ∧ i = .int .i64 k ∧ Hid (∀ j, j < k → q (P j) = false) ∧ Below w.heap.size w wr) (fun i _ => n - (intOf i).toNat)
  case atStart => exact ⟨0, by omega, rfl, Lib.hid fun j hj => by omega, Below.refl _ _⟩
  case round =>
    obtain ⟨k, hk, rfl, hq, hbel⟩ := hrel
    by_cases hlt : k < n
    · obtain ⟨b, o, rfl, hb, hcell⟩ := hcell.resolve_left (by omega)
      have e0 : wr.cell? ⟨b, o + k * 3, none⟩ = some (.int .i8 (P k).px) := (hbel.cell (p := ⟨b, _, none⟩) hb).trans ((hcell k 0 hlt (by omega)).trans (P k).get0)
      have e1 : wr.cell? ⟨b, o + k * 3 + 1, none⟩ = some (.int .i8 (P k).py) := (hbel.cell (p := ⟨b, _, none⟩) hb).trans ((hcell k 1 hlt (by omega)).trans (P k).get1)
      have e2 : wr.cell? ⟨b, o + k * 3 + 2, none⟩ = some (.float .f32 (P k).rt) := (hbel.cell (p := ⟨b, _, none⟩) hb).trans ((hcell k 2 hlt (by omega)).trans (P k).get2)
      have hcall := hcall k wr hlt hbel
      rw [(P k).cells_eq] at hcall
      have hpos : (0 : Int) ≤ k := by omega
      go_wp2_with (refine wpList_callv (cap := cap) (l := [.agg #[.int .i8 (P k).px, .int .i8 (P k).py, .float .f32 (P k).rt]]) rfl rfl rfl rfl hf ?_; refine hcall.mono ?_; rintro e w1 ⟨rfl, hb1⟩; refine ⟨_, rfl, ?_⟩)
      · have hqk : q (P k) = true := by assumption
        go_ret
        exact ⟨k, rfl, .inr ⟨k, rfl, hlt, hqk, hq.out⟩, hbel.trans (hb1.mono hbel.size)⟩
      · have hqk : q (P k) = false := by assumption
        go_roundw
        case rel => exact ⟨k + 1, by omega, by go_num, Lib.hid (all_step hq.out hqk), hbel.trans (hb1.mono hbel.size)⟩
        case measure => simp [intOf]; omega
    · go_wp2
      go_ret
      exact ⟨-1, rfl, .inl ⟨rfl, fun i hi => hq.out i (by omega)⟩, hbel⟩

set_option maxRecDepth 100000 in
set_option maxHeartbeats 400000 in
theorem containsWl_any (q : Wl → Bool) (fid : Nat) (cap : Array Value) (n : Nat) (P : Nat → Wl) (v : Value) (w : World) (hv : LSl w v n P) (hf : Callable Tryz.prog fid)
    (hcall : ∀ i w', i < n → Below w.heap.size w w' → Calls Tryz.prog fid (#[.agg (P i).cells] ++ cap) w' fun e w'' => e = .returned (.bool (q (P i))) ∧ Below w'.heap.size w' w'') :
    Calls Tryz.prog 62 #[v, .func (.func fid) #[] cap] w fun e w' => e = .returned (.bool (anyTo q P n)) ∧ Below w.heap.size w w' := by
  have hi := indexWl_any q fid cap n P v w hv hf hcall
  clear hcall
  go_enter Tryz.func62, Tryz.ntmps62
  go_wp2_with (go_at_call 121; refine hi.mono ?_; rintro e w1 ⟨r, rfl, hr, hb⟩)
  go_ret
  exact ⟨bool_eq (firstTo_any hr), hb⟩

theorem txtWl_len {P : Nat → Wl} : ∀ {k : Nat}, (∀ i, i < k → (-100 ≤ (P i).px ∧ (P i).px ≤ 100) ∧ (-100 ≤ (P i).py ∧ (P i).py ≤ 100) ∧ (P i).rt < 4294967296) → (txtWl P k).length ≤ 32 * k
  | 0, _ => by simp [txtWl]
  | k + 1, h => by
    have ih := txtWl_len (P := P) (k := k) (fun i hi => h i (by omega))
    have h0 := h k (by omega)
    have h1 := itoa_len (z := (P k).px) (by omega)
    have h2 := itoa_len (z := (P k).py) (by omega)
    have h3 := txt_length (P k).rt
    unfold txtWl rowV glue glue glue; simp; omega
set_option maxRecDepth 100000 in
set_option maxHeartbeats 4000000 in
theorem wellsText_any (n : Nat) (hn : n ≤ 12) (P : Nat → Wl) (hP : ∀ i, i < n → (-100 ≤ (P i).px ∧ (P i).px ≤ 100) ∧ (-100 ≤ (P i).py ∧ (P i).py ≤ 100) ∧ (P i).rt < 4294967296) (v : Value) (w : World) (hv : LSl w v n P) (hV : NumVars w) (htab : Lib.TabIs Tryz.prog w "internal/strconv.uint64pow10" .u64 Lib.pow10Tab) :
    Calls Tryz.prog 64 #[v] w fun e w' => e = .returned (.string ⟨(txtWl P n).toArray⟩) ∧ Below w.heap.size w w' := by
  obtain ⟨a, c, rfl, hc1, hc2, hcell⟩ := hv
  unfold maxLen at hc2
  have HC := Lib.hid hcell
  have HB := Lib.hid hP
  have HT := Lib.hid htab
  have HV := Lib.hid hV
  clear hcell hP htab hV
  go_enter Tryz.func64, Tryz.ntmps64
  go_upto_region 2 with fail
  have hbd := Lib.fresh_isBuilder 147 5 w
  have hbel := below1 w (.cells #[.pointer none, .slice none 0 0] 147)
  have hq : w.heap.size ≤ (w.alloc (.cells #[.pointer none, .slice none 0 0] 147)).heap.size := by simp
  have hz : w.heap.size ≤ w.heap.size := Nat.le_refl _
  generalize w.alloc (.cells #[.pointer none, .slice none 0 0] 147) = W0 at *
  generalize hq0 : w.heap.size = q0 at hbd hq
  go_upto_region 3 with fail
  go_loopw [9] (fun i wr => ∃ k : Nat, k ≤ n ∧ i = .int .i64 k ∧ Lib.IsBuilder 147 5 q0 q0 (Lib.byteCells (txtWl P k)) wr ∧ q0 ≤ wr.heap.size ∧ Below w.heap.size w wr) (fun i _ => n - (intOf i).toNat)
  case atStart => exact ⟨0, by omega, rfl, hbd, hq, hbel⟩
  case round =>
    clear hbd hbel hq
    obtain ⟨k, hk, rfl, hbu, hq, hbel⟩ := hrel
    have bk : (0 : Int) ≤ k := by omega
    by_cases hlt : k < n
    · have bl : (k : Int) < n := by omega
      obtain ⟨b, o, rfl, hb, hcell⟩ := HC.out.resolve_left (by omega)
      have e0 : wr.cell? ⟨b, o + k * 3, none⟩ = some (.int .i8 (P k).px) := (hbel.cell (p := ⟨b, _, none⟩) hb).trans ((hcell k 0 hlt (by omega)).trans (P k).get0)
      have e1 : wr.cell? ⟨b, o + k * 3 + 1, none⟩ = some (.int .i8 (P k).py) := (hbel.cell (p := ⟨b, _, none⟩) hb).trans ((hcell k 1 hlt (by omega)).trans (P k).get1)
      have e2 : wr.cell? ⟨b, o + k * 3 + 2, none⟩ = some (.float .f32 (P k).rt) := (hbel.cell (p := ⟨b, _, none⟩) hb).trans ((hcell k 2 hlt (by omega)).trans (P k).get2)
      clear hcell
      have hrw := HB.out k hlt
      have htl := txtWl_len (P := P) (k := k) (fun i hi => HB.out i (by omega))
      have hT : txtWl P (k + 1) = txtWl P k ++ (((((Lib.itoa (P k).px ++ ([32] : List UInt8)) ++ Lib.itoa (P k).py) ++ ([32] : List UInt8)) ++ txt (P k).rt) ++ ([10] : List UInt8)) := by
        show txtWl P k ++ (rowV (P k) ++ [10]) = _
        simp [rowV, glue]
      obtain ⟨⟨o1, o2⟩, ⟨c1, c2⟩, r1⟩ := hrw
      go_upto_region 5 with fail
      have hX := Blk.new wr #[.int .i8 (P k).px, .int .i8 (P k).py, .float .f32 (P k).rt] 51
      have hbu := isBuilder_below hbu ((Below.refl _ _).alloc (Nat.le_refl _) (.cells #[.int .i8 (P k).px, .int .i8 (P k).py, .float .f32 (P k).rt] 51))
      have hbel := hbel.alloc hbel.size (.cells #[.int .i8 (P k).px, .int .i8 (P k).py, .float .f32 (P k).rt] 51)
      have hqW : q0 ≤ (wr.alloc (.cells #[.int .i8 (P k).px, .int .i8 (P k).py, .float .f32 (P k).rt] 51)).heap.size := by simp; omega
      generalize wr.alloc (.cells #[.int .i8 (P k).px, .int .i8 (P k).py, .float .f32 (P k).rt] 51) = W at *
      have x0 := hX.cell 0
      have x1 := hX.cell 1
      have x2 := hX.cell 2
      have l_q := hX.lt
      generalize wr.heap.size = q at *
      have hd1 := fun w' (hb' : Below W.heap.size W w') => decimalZ_any (P k).px (by omega) w' (tab_below (tab_below HT.out hbel) hb')
      have hd2 := fun w' (hb' : Below W.heap.size W w') => decimalZ_any (P k).py (by omega) w' (tab_below (tab_below HT.out hbel) hb')
      have hd3 := fun w' (hb' : Below W.heap.size W w') => numberText_any (P k).rt r1 w' ((HV.out.below hbel).below hb')
      have q1 := itoa_len (z := (P k).px) (by omega)
      have q2 := itoa_len (z := (P k).py) (by omega)
      have q3 := txt_length (P k).rt
      clear hX e0 e1 e2 r1
      generalize Lib.itoa (P k).px = D1 at *
      generalize Lib.itoa (P k).py = D2 at *
      generalize txt (P k).rt = D3 at *
      generalize txtWl P k = T at *
      have u1 := IntWalk.i64_in (P k).px (by omega)
      have u2 := IntWalk.i64_in (P k).py (by omega)
      refine wp_splitK 16 (C := fun w' => Below W.heap.size W w') (R := fun w w' => Below w.heap.size w w') (F := fun _ dd vv => match dd, vv with
        | 13, vv => vv = .pointer (some ⟨q, 0, none⟩)
        | 14, vv => vv = .int .i8 ((P k).px)
        | 15, vv => vv = .int .i64 ((P k).px)
        | 16, vv => vv = .string ⟨(D1).toArray⟩
        | 17, vv => vv = .string ⟨((D1 ++ ([32] : List UInt8))).toArray⟩
        | 18, vv => vv = .pointer (some ⟨q, 1, none⟩)
        | 19, vv => vv = .int .i8 ((P k).py)
        | 20, vv => vv = .int .i64 ((P k).py)
        | 21, vv => vv = .string ⟨(D2).toArray⟩
        | 22, vv => vv = .string ⟨(((D1 ++ ([32] : List UInt8)) ++ D2)).toArray⟩
        | 23, vv => vv = .string ⟨((((D1 ++ ([32] : List UInt8)) ++ D2) ++ ([32] : List UInt8))).toArray⟩
        | 24, vv => vv = .pointer (some ⟨q, 2, none⟩)
        | 25, vv => vv = .float .f32 ((P k).rt)
        | 26, vv => vv = .string ⟨(D3).toArray⟩
        | 27, vv => vv = .string ⟨(((((D1 ++ ([32] : List UInt8)) ++ D2) ++ ([32] : List UInt8)) ++ D3)).toArray⟩
        | 28, vv => vv = .string ⟨((((((D1 ++ ([32] : List UInt8)) ++ D2) ++ ([32] : List UInt8)) ++ D3) ++ ([10] : List UInt8))).toArray⟩
        | _, _ => True) (fun _ _ _ _ _ h => h) (by kernel_rfl) (by kernel_rfl) (by kernel_rfl) (Below.refl _ _).drew ?_ ?_
      · refine ⟨step_go rfl fun ev w1 hC kn => ?_, ?_⟩
        · have e1 : ev (.tmp 5) = .pointer (some ⟨q, 0, none⟩) := kn.out 5 rfl rfl rfl
          exact good_of (v := .pointer (some ⟨q, 0, none⟩)) rfl (by simp only [execOp, e1]; rfl) hC (Below.refl _ _) rfl
        refine ⟨step_go rfl fun ev w1 hC kn => ?_, ?_⟩
        · have e1 : ev (.tmp 13) = .pointer (some ⟨q, 0, none⟩) := kn.inn 13 rfl rfl
          have c1 := (hC.cell (p := ⟨q, 0, none⟩) l_q).trans x0
          exact good_of (v := .int .i8 ((P k).px)) rfl (by simp [execOp, e1, go_sem, c1]) hC (Below.refl _ _) rfl
        refine ⟨step_go rfl fun ev w1 hC kn => ?_, ?_⟩
        · have e1 : ev (.tmp 14) = .int .i8 ((P k).px) := kn.inn 14 rfl rfl
          exact good_of (v := .int .i64 ((P k).px)) rfl (by simp [execOp, e1, go_sem, u1]) hC (Below.refl _ _) rfl
        refine ⟨step_go rfl fun ev w1 hC kn => ?_, ?_⟩
        · have e1 : ev (.tmp 15) = .int .i64 ((P k).px) := kn.inn 15 rfl rfl
          refine good_call (f := 123) (args := #[.int .i64 ((P k).px)]) rfl (by simp [execOp, e1, kn.fn, kn.con, go_sem]) ((hd1 w1 hC).mono fun e w2 ⟨he, hb⟩ => ⟨_, he, hC.trans (hb.mono hC.size), hb, rfl⟩)
        refine ⟨step_go rfl fun ev w1 hC kn => ?_, ?_⟩
        · have e1 : ev (.tmp 16) = .string ⟨(D1).toArray⟩ := kn.inn 16 rfl rfl
          exact good_of (v := .string ⟨((D1 ++ ([32] : List UInt8))).toArray⟩) rfl (by exact exec_addS (A := D1) (B := ([32] : List UInt8)) rfl e1 (kn.con _) (by simp; omega) _) hC (Below.refl _ _) rfl
        refine ⟨step_go rfl fun ev w1 hC kn => ?_, ?_⟩
        · have e1 : ev (.tmp 5) = .pointer (some ⟨q, 0, none⟩) := kn.out 5 rfl rfl rfl
          exact good_of (v := .pointer (some ⟨q, 1, none⟩)) rfl (by simp only [execOp, e1]; rfl) hC (Below.refl _ _) rfl
        refine ⟨step_go rfl fun ev w1 hC kn => ?_, ?_⟩
        · have e1 : ev (.tmp 18) = .pointer (some ⟨q, 1, none⟩) := kn.inn 18 rfl rfl
          have c1 := (hC.cell (p := ⟨q, 1, none⟩) l_q).trans x1
          exact good_of (v := .int .i8 ((P k).py)) rfl (by simp [execOp, e1, go_sem, c1]) hC (Below.refl _ _) rfl
        refine ⟨step_go rfl fun ev w1 hC kn => ?_, ?_⟩
        · have e1 : ev (.tmp 19) = .int .i8 ((P k).py) := kn.inn 19 rfl rfl
          exact good_of (v := .int .i64 ((P k).py)) rfl (by simp [execOp, e1, go_sem, u2]) hC (Below.refl _ _) rfl
        refine ⟨step_go rfl fun ev w1 hC kn => ?_, ?_⟩
        · have e1 : ev (.tmp 20) = .int .i64 ((P k).py) := kn.inn 20 rfl rfl
          refine good_call (f := 123) (args := #[.int .i64 ((P k).py)]) rfl (by simp [execOp, e1, kn.fn, kn.con, go_sem]) ((hd2 w1 hC).mono fun e w2 ⟨he, hb⟩ => ⟨_, he, hC.trans (hb.mono hC.size), hb, rfl⟩)
        refine ⟨step_go rfl fun ev w1 hC kn => ?_, ?_⟩
        · have e1 : ev (.tmp 17) = .string ⟨((D1 ++ ([32] : List UInt8))).toArray⟩ := kn.inn 17 rfl rfl
          have e2 : ev (.tmp 21) = .string ⟨(D2).toArray⟩ := kn.inn 21 rfl rfl
          exact good_of (v := .string ⟨(((D1 ++ ([32] : List UInt8)) ++ D2)).toArray⟩) rfl (by exact exec_addS (A := (D1 ++ ([32] : List UInt8))) (B := D2) rfl e1 e2 (by simp; omega) _) hC (Below.refl _ _) rfl
        refine ⟨step_go rfl fun ev w1 hC kn => ?_, ?_⟩
        · have e1 : ev (.tmp 22) = .string ⟨(((D1 ++ ([32] : List UInt8)) ++ D2)).toArray⟩ := kn.inn 22 rfl rfl
          exact good_of (v := .string ⟨((((D1 ++ ([32] : List UInt8)) ++ D2) ++ ([32] : List UInt8))).toArray⟩) rfl (by exact exec_addS (A := ((D1 ++ ([32] : List UInt8)) ++ D2)) (B := ([32] : List UInt8)) rfl e1 (kn.con _) (by simp; omega) _) hC (Below.refl _ _) rfl
        refine ⟨step_go rfl fun ev w1 hC kn => ?_, ?_⟩
        · have e1 : ev (.tmp 5) = .pointer (some ⟨q, 0, none⟩) := kn.out 5 rfl rfl rfl
          exact good_of (v := .pointer (some ⟨q, 2, none⟩)) rfl (by simp only [execOp, e1]; rfl) hC (Below.refl _ _) rfl
        refine ⟨step_go rfl fun ev w1 hC kn => ?_, ?_⟩
        · have e1 : ev (.tmp 24) = .pointer (some ⟨q, 2, none⟩) := kn.inn 24 rfl rfl
          have c1 := (hC.cell (p := ⟨q, 2, none⟩) l_q).trans x2
          exact good_of (v := .float .f32 ((P k).rt)) rfl (by simp [execOp, e1, go_sem, c1]) hC (Below.refl _ _) rfl
        refine ⟨step_go rfl fun ev w1 hC kn => ?_, ?_⟩
        · have e1 : ev (.tmp 25) = .float .f32 ((P k).rt) := kn.inn 25 rfl rfl
          refine good_call (f := 118) (args := #[.float .f32 ((P k).rt)]) rfl (by simp [execOp, e1, kn.fn, kn.con, go_sem]) ((hd3 w1 hC).mono fun e w2 ⟨he, hb⟩ => ⟨_, he, hC.trans (hb.mono hC.size), hb, rfl⟩)
        refine ⟨step_go rfl fun ev w1 hC kn => ?_, ?_⟩
        · have e1 : ev (.tmp 23) = .string ⟨((((D1 ++ ([32] : List UInt8)) ++ D2) ++ ([32] : List UInt8))).toArray⟩ := kn.inn 23 rfl rfl
          have e2 : ev (.tmp 26) = .string ⟨(D3).toArray⟩ := kn.inn 26 rfl rfl
          exact good_of (v := .string ⟨(((((D1 ++ ([32] : List UInt8)) ++ D2) ++ ([32] : List UInt8)) ++ D3)).toArray⟩) rfl (by exact exec_addS (A := (((D1 ++ ([32] : List UInt8)) ++ D2) ++ ([32] : List UInt8))) (B := D3) rfl e1 e2 (by simp; omega) _) hC (Below.refl _ _) rfl
        refine ⟨step_go rfl fun ev w1 hC kn => ?_, ?_⟩
        · have e1 : ev (.tmp 27) = .string ⟨(((((D1 ++ ([32] : List UInt8)) ++ D2) ++ ([32] : List UInt8)) ++ D3)).toArray⟩ := kn.inn 27 rfl rfl
          exact good_of (v := .string ⟨((((((D1 ++ ([32] : List UInt8)) ++ D2) ++ ([32] : List UInt8)) ++ D3) ++ ([10] : List UInt8))).toArray⟩) rfl (by exact exec_addS (A := ((((D1 ++ ([32] : List UInt8)) ++ D2) ++ ([32] : List UInt8)) ++ D3)) (B := ([10] : List UInt8)) rfl e1 (kn.con _) (by simp; omega) _) hC (Below.refl _ _) rfl
        exact trivial
      rintro xv w1 hxv hC
      have y28 : xv 28 = .string ⟨((((((D1 ++ ([32] : List UInt8)) ++ D2) ++ ([32] : List UInt8)) ++ D3) ++ ([10] : List UInt8))).toArray⟩ := hxv 28 (by decide)
      simp only [fill, dstsOf, List.filterMap_cons, List.filterMap_nil, List.foldl_cons, List.foldl_nil, List.set_cons_succ, List.set_cons_zero, List.take_succ_cons, List.take_zero, List.drop_succ_cons, List.drop_zero, y28]
      clear hxv y28
      have hbu := isBuilder_below hbu hC
      have hq2 : q0 ≤ w1.heap.size := Nat.le_trans hqW hC.size
      have hSl : (D1 ++ ([32] : List UInt8) ++ D2 ++ ([32] : List UInt8) ++ D3 ++ ([10] : List UInt8)).length ≤ 32 := by simp; omega
      generalize (D1 ++ ([32] : List UInt8) ++ D2 ++ ([32] : List UInt8) ++ D3 ++ ([10] : List UInt8)) = S at *
      have hw := writeString_any q0 q0 _ ⟨S.toArray⟩ w1 hbu (by rw [byteCells_len]; simp [ByteArray.size]; omega) hq2
      rw [strCells_eq, byteCells_app, ← hT] at hw
      have hbelC := hbel.trans (hC.mono hbel.size)
      go_wp2_with (go_at_call 122; refine hw.mono ?_; rintro e w2 ⟨rfl, hbu2, hb2⟩)
      go_roundw
      case rel => exact ⟨k + 1, by omega, by go_num, .inr hbu2, Nat.le_trans hq2 hb2.size, hbelC.trans (hb2.mono (by omega))⟩
      case measure => simp [intOf]; omega
    · obtain rfl : k = n := by omega
      have hst := sh_Builder_String_any q0 q0 (txtWl P k) wr hbu hq
      go_wp2_with (go_at_call 124; refine hst.mono ?_; rintro e w2 ⟨rfl, hb2⟩)
      go_ret
      exact ⟨rfl, hbel.trans (hb2.mono (by omega))⟩
end Go.Proofs.YtglimhkpndfjgaaGreatDoor
/- Settled heads: the walks through the program's function and the reference's. -/
namespace Go.Proofs.YtglimhkpndfjgaaGreatDoor
open Go.ChangeShapes Go.WideShapes Go.ChangeAt Go.RowKit
set_option linter.unusedVariables false
set_option linter.unusedSimpArgs false
attribute [local irreducible] Calls

theorem bes_no {g : Gr} {c s : Nat} (hsm : g.small) (h : nbr g c s = false) : bes g c s = -1 := by
  have := bes_lt hsm c s; unfold nbr at h; simp at h; omega

end Go.Proofs.YtglimhkpndfjgaaGreatDoor
/- The greatest change of heads between two grounds: the walks through the program's functions and the reference's. -/
namespace Go.Proofs.YtglimhkpndfjgaaGreatDoor
open Go.ChangeShapes Go.WideShapes Go.ChangeAt Go.RowKit
set_option linter.unusedVariables false
set_option linter.unusedSimpArgs false
attribute [local irreducible] Calls

/-- The greatest of some numbers, the first one if several are as great. -/
def mxStep (v : Nat → Nat) (m k : Nat) : Nat := if fgt (v k) m then v k else m
def mx (v : Nat → Nat) : List Nat → Nat
  | [] => 0
  | c :: r => r.foldl (mxStep v) (v c)
theorem mx_snoc (v : Nat → Nat) (l : List Nat) (k : Nat) (h : l ≠ []) : mx v (l ++ [k]) = mxStep v (mx v l) k := by
  cases l with
  | nil => exact absurd rfl h
  | cons c r => simp [mx, List.foldl_append]
theorem mx_one (v : Nat → Nat) (k : Nat) : mx v [k] = v k := rfl
/-- The sizes of what cells have more. -/
def dsz (g g' : Gr) (k : Nat) : Nat := fab (dif g g' k)
def chg (g g' : Gr) : Nat := mx (dsz g g') (cellsTo g 64)

theorem cellF32 : CellTy Tryz.prog 24 := ⟨.float .f32, Tryz.underlying24, rfl, by kernel_rfl⟩
/-- Cell 0 is a cell of a valid ground. -/
theorem isC_zero {g : Gr} (h : validG g = true) : isC g 0 = true := by
  obtain ⟨h1, h2, _⟩ := validG_parts h
  unfold isC; simp; omega
theorem cells_ne {g : Gr} (h : validG g = true) (k : Nat) (hk : 0 < k) : cellsTo g k ≠ [] := by
  intro h0
  have : 0 ∈ cellsTo g k := cellsTo_mem.2 ⟨hk, isC_zero h⟩
  rw [h0] at this; cases this
theorem plain_heads {g : Gr} (h : validG g = true) (k : Nat) (hk : k < 64) (hc : isC g k = true) : plain (g.hea k) = true := (fieldIs_at (validG_parts h).2.2.2.2.1 k hk).1 hc

end Go.Proofs.YtglimhkpndfjgaaGreatDoor
/- Sweeps over a ground: the walks through the program's functions and the reference's. -/
namespace Go.Proofs.YtglimhkpndfjgaaGreatDoor
open Go.ChangeShapes Go.WideShapes Go.ChangeAt Go.RowKit
set_option linter.unusedVariables false
set_option linter.unusedSimpArgs false
attribute [local irreducible] Calls

def tolR (g G : Gr) : Gr := if validG G then G else zeroG
def tolM (g G : Gr) : Nat := if validG G then chg g G else 0
def tolC (g G : Gr) : Int := if validG G then 0 else 4

end Go.Proofs.YtglimhkpndfjgaaGreatDoor
/- A sweep over a ground: the walks through the program's sweep and the reference's. -/
namespace Go.Proofs.YtglimhkpndfjgaaGreatDoor
open Go.ChangeShapes Go.WideShapes Go.ChangeAt Go.RowKit
set_option linter.unusedVariables false
set_option linter.unusedSimpArgs false
attribute [local irreducible] Calls

def swp (G : Gr) (k : Nat) : Gr := { G with hea := upd G.hea k (sett G k) }
def sweepL (g : Gr) (l : List Nat) : Gr := l.foldl swp g
def sweepG (g : Gr) : Gr := sweepL g (cellsTo g 64)
theorem sweepL_snoc (g : Gr) (l : List Nat) (k : Nat) : sweepL g (l ++ [k]) = swp (sweepL g l) k := by unfold sweepL; rw [List.foldl_append]; rfl
theorem swp_al {g g' : Gr} (hs : g.small) (h : GrEq g g') {k b : Nat} (hk : k < 64) (hb : cn b = cn (sett g k)) : GrEq { g with hea := upd g.hea k b } (swp g' k) := by
  unfold swp
  exact h.upd (by rw [hb, sett_al hs h k hk])
theorem dsz_al {g G G' : Gr} (h : GrEq G G') (k : Nat) (hk : k < 64) : dsz g G k = dsz g G' k := by
  unfold dsz dif; rw [fop_eq (h.hea k hk) rfl]
theorem mxFold_congr {v v' : Nat → Nat} : ∀ (l : List Nat) (m : Nat), (∀ k, k ∈ l → v k = v' k) → l.foldl (mxStep v) m = l.foldl (mxStep v') m
  | [], _, _ => rfl
  | a :: l, m, h => by
    rw [List.foldl_cons, List.foldl_cons, show mxStep v m a = mxStep v' m a by unfold mxStep; rw [h a (List.mem_cons_self ..)]]
    exact mxFold_congr l _ fun k hk => h k (List.mem_cons_of_mem _ hk)
theorem mx_congr {v v' : Nat → Nat} {l : List Nat} (h : ∀ k, k ∈ l → v k = v' k) : mx v l = mx v' l := by
  cases l with
  | nil => rfl
  | cons c r => show r.foldl (mxStep v) (v c) = r.foldl (mxStep v') (v' c); rw [h c (List.mem_cons_self ..)]; exact mxFold_congr r _ fun k hk => h k (List.mem_cons_of_mem _ hk)
theorem chg_al {g G G' : Gr} (h : GrEq G G') : chg g G = chg g G' := mx_congr fun k hk => dsz_al h k (cellsTo_mem.1 hk).1
theorem tol_al {g G G' : Gr} (h : GrEq G G') : (tolR g G).cells = (tolR g G').cells ∧ tolM g G = tolM g G' ∧ tolC g G = tolC g G' := by
  unfold tolR tolM tolC
  rw [validG_al h, chg_al h]
  cases hv : validG G'
  · exact ⟨rfl, rfl, rfl⟩
  · exact ⟨h.cells hv, rfl, rfl⟩
theorem tolR_ok {g G : Gr} (h : G.ok) : (tolR g G).ok := by
  unfold tolR; split
  · exact h
  · exact zeroG_ok
theorem swp_same (G : Gr) (k : Nat) : (swp G k).wide = G.wide ∧ (swp G k).high = G.high ∧ (swp G k).fix = G.fix := ⟨rfl, rfl, rfl⟩
theorem sweepL_same (g : Gr) : ∀ (l : List Nat), (sweepL g l).wide = g.wide ∧ (sweepL g l).high = g.high ∧ (sweepL g l).fix = g.fix := fun l => by
  unfold sweepL
  induction l generalizing g with
  | nil => exact ⟨rfl, rfl, rfl⟩
  | cons a l ih => rw [List.foldl_cons]; exact ih (swp g a)
theorem sweepG_ok {g : Gr} (h : g.ok) : (sweepG g).ok := by
  obtain ⟨h1, h2, h3⟩ := sweepL_same g (cellsTo g 64)
  exact ⟨by unfold sweepG; rw [h1]; exact h.wide, by unfold sweepG; rw [h2]; exact h.high, by unfold sweepG; rw [h3]; exact h.fix⟩
theorem cellsTo_next (g : Gr) (k : Nat) : cellsTo g (k + 1) = if isC g k then cellsTo g k ++ [k] else cellsTo g k := by
  unfold cellsTo; rw [List.range_succ, List.filter_append]
  cases h : isC g k <;> simp [h]

end Go.Proofs.YtglimhkpndfjgaaGreatDoor
/- Sweeps until the heads are still: the walks through the program's settle and the reference's. -/
namespace Go.Proofs.YtglimhkpndfjgaaGreatDoor
open Go.ChangeShapes Go.WideShapes Go.ChangeAt Go.RowKit
set_option linter.unusedVariables false
set_option linter.unusedSimpArgs false
attribute [local irreducible] Calls

/-- What comes of a ground that is swept until it is still, l sweeps being left. -/
def settT (within : Nat) : Nat → Int → Gr → Gr × Int × Int
  | 0, _, _ => (zeroG, 0, 7)
  | l + 1, n, G => if validG (sweepG G) then (if fle (chg G (sweepG G)) within then (sweepG G, n + 1, 0) else settT within l (n + 1) (sweepG G)) else (zeroG, 0, 4)
theorem settT_bad {within : Nat} {G : Gr} (h : validG (sweepG G) = false) (l : Nat) (n : Int) : settT within (l + 1) n G = (zeroG, 0, 4) := by simp [settT, h]
theorem settT_done {within : Nat} {G : Gr} (h : validG (sweepG G) = true) (h2 : fle (chg G (sweepG G)) within = true) (l : Nat) (n : Int) : settT within (l + 1) n G = (sweepG G, n + 1, 0) := by simp [settT, h, h2]
theorem settT_on {within : Nat} {G : Gr} (h : validG (sweepG G) = true) (h2 : fle (chg G (sweepG G)) within = false) (l : Nat) (n : Int) : settT within (l + 1) n G = settT within l (n + 1) (sweepG G) := by simp [settT, h, h2]

end Go.Proofs.YtglimhkpndfjgaaGreatDoor
/- Watches in memory, and the walks over lists of watches that several laws need. -/
namespace Go.Proofs.YtglimhkpndfjgaaGreatDoor
open Go.ChangeShapes Go.WideShapes Go.ChangeAt Go.RowKit
set_option linter.unusedVariables false
set_option linter.unusedSimpArgs false
attribute [local irreducible] Calls

/-- A watch's numbers. -/
structure Wt where
  cel : Int
  lim : Nat
/-- Each number fits its kind. -/
def Wt.ok (p : Wt) : Prop := -128 ≤ p.cel ∧ p.cel ≤ 127
@[irreducible] def Wt.cells (p : Wt) : Array Value := #[.int .i8 p.cel, .float .f32 p.lim]
theorem Wt.cells_eq (p : Wt) : p.cells = #[.int .i8 p.cel, .float .f32 p.lim] := by unfold Wt.cells; rfl
theorem Wt.cells_size (p : Wt) : p.cells.size = 2 := by rw [p.cells_eq]; rfl
theorem Wt.get0 (p : Wt) : p.cells[0]? = some (.int .i8 p.cel) := by rw [p.cells_eq]; rfl
theorem Wt.get1 (p : Wt) : p.cells[1]? = some (.float .f32 p.lim) := by rw [p.cells_eq]; rfl
theorem Wt.one (p : Wt) : ∀ v ∈ p.cells.toList, v.oneCell' = true := by
  intro v hv; rw [p.cells_eq] at hv; simp at hv; rcases hv with rfl | rfl <;> rfl

/-- n watches, one behind the other. -/
@[irreducible] def wls (n : Nat) (P : Nat → Wt) : List Value := (List.range n).flatMap fun i => (P i).cells.toList
theorem wls_zero (P : Nat → Wt) : wls 0 P = [] := by simp [wls]
theorem wls_succ (n : Nat) (P : Nat → Wt) : wls (n + 1) P = wls n P ++ (P n).cells.toList := by simp [wls, List.range_succ, List.flatMap_append]
theorem wls_length (n : Nat) (P : Nat → Wt) : (wls n P).length = n * 2 := by
  induction n with
  | zero => simp [wls_zero]
  | succ n ih => rw [wls_succ, List.length_append, ih]; simp [Wt.cells_size]; omega
theorem wls_congr {P P' : Nat → Wt} : ∀ {n : Nat}, (∀ i, i < n → P i = P' i) → wls n P = wls n P'
  | 0, _ => by rw [wls_zero, wls_zero]
  | n + 1, h => by rw [wls_succ, wls_succ, wls_congr (fun i hi => h i (by omega)), h n (by omega)]
theorem wls_get (n : Nat) (P : Nat → Wt) (i c : Nat) (h : i < n) (hc : c < 2) : (wls n P)[i * 2 + c]? = (P i).cells[c]? := by
  induction n with
  | zero => omega
  | succ n ih =>
    rw [wls_succ, List.getElem?_append, wls_length]
    by_cases hi : i < n
    · rw [if_pos (by omega), ih hi]
    · obtain rfl : i = n := by omega
      rw [if_neg (by omega), show i * 2 + c - i * 2 = c by omega]; simp
theorem wls_one (n : Nat) (P : Nat → Wt) : ∀ v ∈ wls n P, v.oneCell' = true := by
  intro v hv; unfold wls at hv; simp only [List.mem_flatMap] at hv; obtain ⟨i, _, hi⟩ := hv; exact (P i).one v hi
theorem wls_drop (n : Nat) (P : Nat → Wt) (k : Nat) (h : k < n) : ((wls n P).drop (k * 2)).take 2 = (P k).cells.toList := by
  apply List.ext_getElem?
  intro c
  rw [List.getElem?_take]
  by_cases hc : c < 2
  · rw [if_pos hc, List.getElem?_drop, wls_get n P k c h hc]; simp
  · rw [if_neg hc, List.getElem?_eq_none]; simp [Wt.cells_size]; omega

/-- The slice v holds n watches, P. -/
def WSl (w : World) (v : Value) (n : Nat) (P : Nat → Wt) : Prop :=
  ∃ a cap, v = .slice a n cap ∧ n ≤ cap ∧ cap ≤ maxLen ∧ (n = 0 ∨ ∃ b o, a = some ⟨b, o, none⟩ ∧ b < w.heap.size ∧ ∀ i c, i < n → c < 2 → w.cell? ⟨b, o + i * 2 + c, none⟩ = (P i).cells[c]?)
theorem WSl.below {w w' : World} {v : Value} {n : Nat} {P : Nat → Wt} (h : WSl w v n P) (hb : Below w.heap.size w w') : WSl w' v n P := by
  obtain ⟨a, cap, rfl, h1, h2, h3⟩ := h
  refine ⟨a, cap, rfl, h1, h2, ?_⟩
  rcases h3 with h3 | ⟨b, o, rfl, hlt, hc⟩
  · exact .inl h3
  · exact .inr ⟨b, o, rfl, Nat.lt_of_lt_of_le hlt hb.size, fun i c hi h3 => (hb.cell (p := ⟨b, _, none⟩) hlt).trans (hc i c hi h3)⟩
theorem Own.wsl {w : World} {g : Nat} {e : TypeId} {v : Value} {n : Nat} {P : Nat → Wt} (h : Own w g e 2 v n (wls n P)) : WSl w v n P := by
  obtain ⟨cap, rfl, h1, h2⟩ := h.form
  exact ⟨_, cap, rfl, h1, h2, .inr ⟨g, 0, rfl, h.lt, fun i c hi hc => by rw [Nat.zero_add, h.cell _ (by omega), wls_get n P i c hi hc]⟩⟩

/-- n watchs' room. -/
@[irreducible] def zwt (n : Nat) : Array Value := madeCells (Wt.cells ⟨0, 0⟩) (n * 2)
theorem zwt_size (n : Nat) : (zwt n).size = n * 2 := by unfold zwt; rw [size_madeCells]
/-- A watch behind the walk of one store. -/
theorem zwt_mixed_size (n : Nat) (P : Nat → Wt) (k : Nat) (hk : k ≤ n) : (mixed (wls n P).toArray (zwt n) (k * 2)).size = n * 2 := by
  rw [mixed_size _ _ (by simp [wls_length, zwt_size]) _ (by simp [wls_length]; omega)]; simp [wls_length]

end Go.Proofs.YtglimhkpndfjgaaGreatDoor
/- Offices in memory: a ground and its watches. -/
namespace Go.Proofs.YtglimhkpndfjgaaGreatDoor
open Go.ChangeShapes Go.WideShapes Go.ChangeAt Go.RowKit
set_option linter.unusedVariables false
set_option linter.unusedSimpArgs false
attribute [local irreducible] Calls

/-- An office's cells: its ground's, and the slice of its watches. -/
@[irreducible] def ofc (g : Gr) (v : Value) : Array Value := g.cells.push v
theorem ofc_size (g : Gr) (v : Value) : (ofc g v).size = 196 := by unfold ofc; rw [Array.size_push, g.size]
theorem ofc_get (g : Gr) (v : Value) (i : Nat) (h : i < 195) : (ofc g v)[i]? = some (g.at i) := by
  unfold ofc; rw [Array.getElem?_push, g.size, if_neg (by omega), g.get i h]
theorem ofc_last (g : Gr) (v : Value) : (ofc g v)[195]? = some v := by
  unfold ofc; rw [Array.getElem?_push, g.size, if_pos rfl]
theorem ofc_of {cs : Array Value} {g : Gr} {v : Value} (hs : cs.size = 196) (h : ∀ i, i < 195 → cs[i]? = some (g.at i)) (h' : cs[195]? = some v) : cs = ofc g v := by
  apply Array.ext_getElem?
  intro i
  by_cases hi : i < 195
  · rw [h i hi, ofc_get g v i hi]
  · by_cases hi2 : i = 195
    · subst hi2; rw [h', ofc_last]
    · rw [Array.getElem?_eq_none (by omega), Array.getElem?_eq_none (by rw [ofc_size]; omega)]
theorem ofc_one (g : Gr) (v : Value) (hv : v.oneCell' = true) : ∀ u ∈ (ofc g v).toList, u.oneCell' = true := by
  intro u hu
  unfold ofc at hu
  simp only [Array.toList_push, List.mem_append, List.mem_singleton] at hu
  rcases hu with hu | rfl
  · exact g.one u hu
  · exact hv
theorem ofc_ext (g : Gr) (v : Value) : (ofc g v).extract 0 195 = g.cells := by
  apply Gr.cells_of
  · simp [ofc_size]
  · intro i hi
    rw [Array.getElem?_extract, if_pos (by rw [ofc_size]; omega), Nat.zero_add, ofc_get g v i hi]
theorem ofc_splice (z g : Gr) (v : Value) : splice (ofc z v) 0 g.cells = ofc g v := by
  have hle : 0 + g.cells.size ≤ (ofc z v).size := by rw [ofc_size, g.size]; omega
  refine ofc_of (by rw [splice_size _ _ _ hle, ofc_size]) (fun i hi => ?_) ?_
  · rw [splice_get _ _ _ hle, g.size, if_neg (by omega), if_pos (by omega), Nat.sub_zero, g.get i hi]
  · rw [splice_get _ _ _ hle, g.size, if_neg (by omega), if_neg (by omega), ofc_last]
theorem ofc_set (g : Gr) (v u : Value) : (ofc g v).setIfInBounds 195 u = ofc g u := by
  refine ofc_of (by simp [ofc_size]) (fun i hi => ?_) ?_
  · rw [Array.getElem?_setIfInBounds, if_neg (by omega), ofc_get g v i hi]
  · rw [Array.getElem?_setIfInBounds, if_pos rfl, if_pos (by rw [ofc_size]; omega)]
theorem Blk.ogat {w : World} {b : Nat} {g : Gr} {v : Value} {T : TypeId} (h : Blk w b (ofc g v) T) : GAt w b g := ⟨h.lt, fun i hi => (h.cell i).trans (ofc_get g v i hi)⟩
end Go.Proofs.YtglimhkpndfjgaaGreatDoor
/- ValidOffice, in the program and in the reference. -/
namespace Go.Proofs.YtglimhkpndfjgaaGreatDoor
open Go.ChangeShapes Go.WideShapes Go.ChangeAt Go.RowKit
set_option linter.unusedVariables false
set_option linter.unusedSimpArgs false
attribute [local irreducible] Calls

/-- Is the number k a cell? -/
def isCI (g : Gr) (k : Int) : Bool := (decide (0 ≤ k) && decide (k ≤ 63)) && isC g k.toNat
def badW (g : Gr) (p : Wt) : Bool := !isCI g p.cel || !plain p.lim
def validO (g : Gr) (n : Nat) (P : Nat → Wt) : Bool := validG g && (decide (n ≤ 6) && !anyTo (badW g) P n)

end Go.Proofs.YtglimhkpndfjgaaGreatDoor
/- ValidPermits, in the program and in the reference. -/
namespace Go.Proofs.YtglimhkpndfjgaaGreatDoor
open Go.ChangeShapes Go.WideShapes Go.ChangeAt Go.RowKit
set_option linter.unusedVariables false
set_option linter.unusedSimpArgs false
attribute [local irreducible] Calls

/-- A permit that is none by its own numbers; that is none on this ground. -/
def badP (p : Pm) : Bool := badOwner p || (badRate p || !(decide (0 ≤ p.cel) && decide (p.cel ≤ 63)))
def badPG (g : Gr) (p : Pm) : Bool := badOwner p || (badRate p || !isCI g p.cel)
def validP (g : Gr) (n : Nat) (P : Nat → Wt) (m : Nat) (Q : Nat → Pm) : Bool := validO g n P && (decide (m ≤ 6) && !anyTo (badPG g) Q m)
theorem owner_bad (p : Pm) : (decide (0 ≤ p.own) && decide (p.own ≤ 7)) = !badOwner p := by unfold badOwner; simp
theorem rate_bad (p : Pm) : (decide (0 ≤ p.rat) && decide (p.rat ≤ 400)) = !badRate p := by unfold badRate; simp

/-- May these be permits, whatever the ground? -/
def plainPs (m : Nat) (Q : Nat → Pm) : Bool := decide (m ≤ 6) && !anyTo badP Q m

theorem validP_eq (g : Gr) (n : Nat) (P : Nat → Wt) (m : Nat) (Q : Nat → Pm) : validP g n P m Q = (validO g n P && (plainPs m Q && !anyTo (fun p => !isCI g p.cel) Q m)) := by
  unfold validP plainPs
  rw [Bool.and_assoc (decide (m ≤ 6))]
  congr 2
  apply Bool.eq_iff_iff.2
  simp only [Bool.not_eq_true', Bool.and_eq_true, anyTo_false]
  constructor
  · intro h
    refine ⟨fun i hi => ?_, fun i hi => ?_⟩
    · have h1 := h i hi
      unfold badPG at h1
      unfold badP
      simp only [Bool.or_eq_false_iff, Bool.not_eq_false'] at h1 ⊢
      refine ⟨h1.1, h1.2.1, ?_⟩
      have := h1.2.2
      unfold isCI at this
      exact (Bool.and_eq_true_iff.1 this).1
    · have h1 := h i hi
      unfold badPG at h1
      simp only [Bool.or_eq_false_iff] at h1
      exact h1.2.2
  · rintro ⟨h, h'⟩ i hi
    have h1 := h i hi
    have h2 := h' i hi
    unfold badP at h1
    unfold badPG
    simp only [Bool.or_eq_false_iff] at h1 ⊢
    exact ⟨h1.1, h1.2.1, h2⟩

end Go.Proofs.YtglimhkpndfjgaaGreatDoor
