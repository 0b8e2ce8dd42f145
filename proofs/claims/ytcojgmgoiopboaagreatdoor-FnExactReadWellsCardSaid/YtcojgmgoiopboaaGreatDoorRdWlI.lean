/- ReadWells, in the program: the walks. -/
import Derived.Test.YtcojgmgoiopboaaGreatDoorRdWlS
import Derived.Test.YtcojgmgoiopboaaGreatDoorRdRgI
namespace Go.Proofs.YtcojgmgoiopboaaGreatDoor
open Go.ChangeShapes Go.WideShapes Go.ChangeAt Go.RowKit
set_option linter.unusedVariables false
set_option linter.unusedSimpArgs false
attribute [local irreducible] Calls

theorem isPlaceW_any (n : Int) (w : World) :
    Calls Tryz.prog 72 #[.int .i64 n] w fun e w' => e = .returned (.bool (in100 n)) ∧ w' = w := by
  unfold in100
  go_enter Tryz.func72, Tryz.ntmps72
  go_wp2_with (go_at_call 44; refine (in_any _ _ _ _).mono ?_; rintro e w' ⟨rfl, rfl⟩)
  go_ret
  exact ⟨rfl, rfl⟩
set_option maxRecDepth 100000 in
set_option maxHeartbeats 400000 in
theorem validWell_any (x y : Int) (r : Nat) (hx : -100 ≤ x ∧ x ≤ 100) (hy : -100 ≤ y ∧ y ≤ 100) (w : World) :
    Calls Tryz.prog 46 #[.agg #[.int .i8 x, .int .i8 y, .float .f32 r]] w fun e w' => e = .returned (.bool (plain r)) ∧ Below w.heap.size w w' := by
  have p1 := fun w' => isPlaceW_any x w'
  have p2 := fun w' => isPlaceW_any y w'
  have p3 := fun w' => isPlain_any r w'
  have i1 : in100 x = true := by unfold in100; simp; omega
  have i2 : in100 y = true := by unfold in100; simp; omega
  rw [i1] at p1
  rw [i2] at p2
  clear i1 i2
  generalize plain r = b at *
  go_enter Tryz.func46, Tryz.ntmps46
  go_wp2_with (first | (go_at_call 72; first | (refine (p1 _).mono ?_; rintro e w' ⟨rfl, hw⟩; rw [hw]; clear hw w' p1) | (refine (p2 _).mono ?_; rintro e w' ⟨rfl, hw⟩; rw [hw]; clear hw w' p2)) | (go_at_call 73; refine (p3 _).mono ?_; rintro e w' ⟨rfl, hw⟩; rw [hw]; clear hw w'))
  go_ret
  exact ⟨rfl, below1 _ _⟩
set_option maxRecDepth 100000 in
set_option maxHeartbeats 400000 in
theorem badWell_any (p : Wl) (hx : -100 ≤ p.px ∧ p.px ≤ 100) (hy : -100 ≤ p.py ∧ p.py ≤ 100) (w : World) :
    Calls Tryz.prog 19 #[.agg p.cells] w fun e w' => e = .returned (.bool (badL p)) ∧ Below w.heap.size w w' := by
  have hv := fun w' => validWell_any p.px p.py p.rt hx hy w'
  have hB : badL p = !plain p.rt := rfl
  rw [p.cells_eq, hB]
  generalize plain p.rt = b at *
  clear hB
  go_enter Tryz.func19, Tryz.ntmps19
  go_wp2_with (go_at_call 46; refine (hv _).mono ?_; rintro e w2 ⟨rfl, hb⟩)
  go_ret
  exact ⟨rfl, (below1 _ _).trans (hb.mono (by simp))⟩
theorem callBadWell : Callable Tryz.prog 19 := ⟨_, Tryz.func19, by kernel_rfl, by kernel_rfl⟩
set_option maxRecDepth 100000 in
set_option maxHeartbeats 400000 in
theorem indexWl_any (q : Wl → Bool) (fid : Nat) (cap : Array Value) (n : Nat) (P : Nat → Wl) (v : Value) (w : World) (hv : WSl w v n P) (hf : Callable Tryz.prog fid)
    (hcall : ∀ i w', i < n → Below w.heap.size w w' → Calls Tryz.prog fid (#[.agg (P i).cells] ++ cap) w' fun e w'' => e = .returned (.bool (q (P i))) ∧ Below w'.heap.size w' w'') :
    Calls Tryz.prog 45 #[v, .func (.func fid) #[] cap] w fun e w' => ∃ r : Int, e = .returned (.int .i64 r) ∧ firstTo q P n r ∧ Below w.heap.size w w' := by
  obtain ⟨a, c, rfl, hc1, hc2, hcell⟩ := hv
  unfold maxLen at hc2
  go_enter Tryz.func45, Tryz.ntmps45
  go_wp2
  go_loopw [8] (fun i wr => ∃ k : Nat, k ≤ n ∧ i = .int .i64 k ∧ Hid (∀ j, j < k → q (P j) = false) ∧ Below w.heap.size w wr) (fun i _ => n - (intOf i).toNat)
  case atStart => exact ⟨0, by omega, rfl, Lib.hid fun j hj => by omega, Below.refl _ _⟩
  case round =>
    obtain ⟨k, hk, rfl, hq, hbel⟩ := hrel
    by_cases hlt : k < n
    · obtain ⟨b, o, rfl, hb, hcell⟩ := hcell.resolve_left (by omega)
      have e0 : wr.cell? ⟨b, o + k * 3, none⟩ = some (.int .i8 (P k).px) := (hbel.cell (p := ⟨b, _, none⟩) hb).trans ((hcell k 0 hlt (by omega)).trans (P k).get0)
      have e1 : wr.cell? ⟨b, o + k * 3 + 1, none⟩ = some (.int .i8 (P k).py) := (hbel.cell (p := ⟨b, _, none⟩) hb).trans ((hcell k 1 hlt (by omega)).trans (P k).get1)
      have e2 : wr.cell? ⟨b, o + k * 3 + 2, none⟩ = some (.float .f32 (P k).rt) := (hbel.cell (p := ⟨b, _, none⟩) hb).trans ((hcell k 2 hlt (by omega)).trans (P k).get2)
      have hcall := hcall k wr hlt hbel
      rw [(P k).cells_eq] at hcall
      have hpos : (0 : Int) ≤ k := by omega
      go_wp2_with (refine wpList_callv (cap := cap) (l := [.agg #[.int .i8 (P k).px, .int .i8 (P k).py, .float .f32 (P k).rt]]) rfl rfl rfl rfl hf ?_; refine hcall.mono ?_; rintro e w1 ⟨rfl, hb1⟩; refine ⟨_, rfl, ?_⟩)
      · have hqk : q (P k) = true := by assumption
        go_ret
        exact ⟨k, rfl, .inr ⟨k, rfl, hlt, hqk, hq.out⟩, hbel.trans (hb1.mono hbel.size)⟩
      · have hqk : q (P k) = false := by assumption
        go_roundw
        case rel => exact ⟨k + 1, by omega, by go_num, Lib.hid (all_step hq.out hqk), hbel.trans (hb1.mono hbel.size)⟩
        case measure => simp [intOf]; omega
    · go_wp2
      go_ret
      exact ⟨-1, rfl, .inl ⟨rfl, fun i hi => hq.out i (by omega)⟩, hbel⟩

set_option maxRecDepth 100000 in
set_option maxHeartbeats 400000 in
theorem containsWl_any (q : Wl → Bool) (fid : Nat) (cap : Array Value) (n : Nat) (P : Nat → Wl) (v : Value) (w : World) (hv : WSl w v n P) (hf : Callable Tryz.prog fid)
    (hcall : ∀ i w', i < n → Below w.heap.size w w' → Calls Tryz.prog fid (#[.agg (P i).cells] ++ cap) w' fun e w'' => e = .returned (.bool (q (P i))) ∧ Below w'.heap.size w' w'') :
    Calls Tryz.prog 18 #[v, .func (.func fid) #[] cap] w fun e w' => e = .returned (.bool (anyTo q P n)) ∧ Below w.heap.size w w' := by
  have hi := indexWl_any q fid cap n P v w hv hf hcall
  clear hcall
  go_enter Tryz.func18, Tryz.ntmps18
  go_wp2_with (go_at_call 45; refine hi.mono ?_; rintro e w1 ⟨r, rfl, hr, hb⟩)
  go_ret
  exact ⟨bool_eq (firstTo_any hr), hb⟩

theorem txtWl_len {P : Nat → Wl} : ∀ {k : Nat}, (∀ i, i < k → (-100 ≤ (P i).px ∧ (P i).px ≤ 100) ∧ (-100 ≤ (P i).py ∧ (P i).py ≤ 100) ∧ (P i).rt < 4294967296) → (txtWl P k).length ≤ 32 * k
  | 0, _ => by simp [txtWl]
  | k + 1, h => by
    have ih := txtWl_len (P := P) (k := k) (fun i hi => h i (by omega))
    have h0 := h k (by omega)
    have h1 := itoa_len (z := (P k).px) (by omega)
    have h2 := itoa_len (z := (P k).py) (by omega)
    have h3 := txt_length (P k).rt
    unfold txtWl rowV glue glue glue; simp; omega
set_option maxRecDepth 100000 in
set_option maxHeartbeats 4000000 in
theorem wellsText_any (n : Nat) (hn : n ≤ 12) (P : Nat → Wl) (hP : ∀ i, i < n → (-100 ≤ (P i).px ∧ (P i).px ≤ 100) ∧ (-100 ≤ (P i).py ∧ (P i).py ≤ 100) ∧ (P i).rt < 4294967296) (v : Value) (w : World) (hv : WSl w v n P) (hV : NumVars w) (htab : Lib.TabIs Tryz.prog w "internal/strconv.uint64pow10" .u64 Lib.pow10Tab) :
    Calls Tryz.prog 20 #[v] w fun e w' => e = .returned (.string ⟨(txtWl P n).toArray⟩) ∧ Below w.heap.size w w' := by
  obtain ⟨a, c, rfl, hc1, hc2, hcell⟩ := hv
  unfold maxLen at hc2
  have HC := Lib.hid hcell
  have HB := Lib.hid hP
  have HT := Lib.hid htab
  have HV := Lib.hid hV
  clear hcell hP htab hV
  go_enter Tryz.func20, Tryz.ntmps20
  go_upto_region 2 with fail
  have hbd := Lib.fresh_isBuilder 92 5 w
  have hbel := below1 w (.cells #[.pointer none, .slice none 0 0] 92)
  have hq : w.heap.size ≤ (w.alloc (.cells #[.pointer none, .slice none 0 0] 92)).heap.size := by simp
  have hz : w.heap.size ≤ w.heap.size := Nat.le_refl _
  generalize w.alloc (.cells #[.pointer none, .slice none 0 0] 92) = W0 at *
  generalize hq0 : w.heap.size = q0 at hbd hq
  go_upto_region 3 with fail
  go_loopw [9] (fun i wr => ∃ k : Nat, k ≤ n ∧ i = .int .i64 k ∧ Lib.IsBuilder 92 5 q0 q0 (Lib.byteCells (txtWl P k)) wr ∧ q0 ≤ wr.heap.size ∧ Below w.heap.size w wr) (fun i _ => n - (intOf i).toNat)
  case atStart => exact ⟨0, by omega, rfl, hbd, hq, hbel⟩
  case round =>
    clear hbd hbel hq
    obtain ⟨k, hk, rfl, hbu, hq, hbel⟩ := hrel
    have bk : (0 : Int) ≤ k := by omega
    by_cases hlt : k < n
    · have bl : (k : Int) < n := by omega
      obtain ⟨b, o, rfl, hb, hcell⟩ := HC.out.resolve_left (by omega)
      have e0 : wr.cell? ⟨b, o + k * 3, none⟩ = some (.int .i8 (P k).px) := (hbel.cell (p := ⟨b, _, none⟩) hb).trans ((hcell k 0 hlt (by omega)).trans (P k).get0)
      have e1 : wr.cell? ⟨b, o + k * 3 + 1, none⟩ = some (.int .i8 (P k).py) := (hbel.cell (p := ⟨b, _, none⟩) hb).trans ((hcell k 1 hlt (by omega)).trans (P k).get1)
      have e2 : wr.cell? ⟨b, o + k * 3 + 2, none⟩ = some (.float .f32 (P k).rt) := (hbel.cell (p := ⟨b, _, none⟩) hb).trans ((hcell k 2 hlt (by omega)).trans (P k).get2)
      clear hcell
      have hrw := HB.out k hlt
      have htl := txtWl_len (P := P) (k := k) (fun i hi => HB.out i (by omega))
      have hT : txtWl P (k + 1) = txtWl P k ++ (((((Lib.itoa (P k).px ++ ([32] : List UInt8)) ++ Lib.itoa (P k).py) ++ ([32] : List UInt8)) ++ txt (P k).rt) ++ ([10] : List UInt8)) := by
        show txtWl P k ++ (rowV (P k) ++ [10]) = _
        simp [rowV, glue]
      obtain ⟨⟨o1, o2⟩, ⟨c1, c2⟩, r1⟩ := hrw
      go_upto_region 5 with fail
      have hX := Blk.new wr #[.int .i8 (P k).px, .int .i8 (P k).py, .float .f32 (P k).rt] 41
      have hbu := isBuilder_below hbu ((Below.refl _ _).alloc (Nat.le_refl _) (.cells #[.int .i8 (P k).px, .int .i8 (P k).py, .float .f32 (P k).rt] 41))
      have hbel := hbel.alloc hbel.size (.cells #[.int .i8 (P k).px, .int .i8 (P k).py, .float .f32 (P k).rt] 41)
      have hqW : q0 ≤ (wr.alloc (.cells #[.int .i8 (P k).px, .int .i8 (P k).py, .float .f32 (P k).rt] 41)).heap.size := by simp; omega
      generalize wr.alloc (.cells #[.int .i8 (P k).px, .int .i8 (P k).py, .float .f32 (P k).rt] 41) = W at *
      have x0 := hX.cell 0
      have x1 := hX.cell 1
      have x2 := hX.cell 2
      have l_q := hX.lt
      generalize wr.heap.size = q at *
      have hd1 := fun w' (hb' : Below W.heap.size W w') => decimalZ_any (P k).px (by omega) w' (tab_below (tab_below HT.out hbel) hb')
      have hd2 := fun w' (hb' : Below W.heap.size W w') => decimalZ_any (P k).py (by omega) w' (tab_below (tab_below HT.out hbel) hb')
      have hd3 := fun w' (hb' : Below W.heap.size W w') => numberText_any (P k).rt r1 w' ((HV.out.below hbel).below hb')
      have q1 := itoa_len (z := (P k).px) (by omega)
      have q2 := itoa_len (z := (P k).py) (by omega)
      have q3 := txt_length (P k).rt
      clear hX e0 e1 e2 r1
      generalize Lib.itoa (P k).px = D1 at *
      generalize Lib.itoa (P k).py = D2 at *
      generalize txt (P k).rt = D3 at *
      generalize txtWl P k = T at *
      have u1 := IntWalk.i64_in (P k).px (by omega)
      have u2 := IntWalk.i64_in (P k).py (by omega)
      refine wp_splitK 16 (C := fun w' => Below W.heap.size W w') (R := fun w w' => Below w.heap.size w w') (F := fun _ dd vv => match dd, vv with
        | 13, vv => vv = .pointer (some ⟨q, 0, none⟩)
        | 14, vv => vv = .int .i8 ((P k).px)
        | 15, vv => vv = .int .i64 ((P k).px)
        | 16, vv => vv = .string ⟨(D1).toArray⟩
        | 17, vv => vv = .string ⟨((D1 ++ ([32] : List UInt8))).toArray⟩
        | 18, vv => vv = .pointer (some ⟨q, 1, none⟩)
        | 19, vv => vv = .int .i8 ((P k).py)
        | 20, vv => vv = .int .i64 ((P k).py)
        | 21, vv => vv = .string ⟨(D2).toArray⟩
        | 22, vv => vv = .string ⟨(((D1 ++ ([32] : List UInt8)) ++ D2)).toArray⟩
        | 23, vv => vv = .string ⟨((((D1 ++ ([32] : List UInt8)) ++ D2) ++ ([32] : List UInt8))).toArray⟩
        | 24, vv => vv = .pointer (some ⟨q, 2, none⟩)
        | 25, vv => vv = .float .f32 ((P k).rt)
        | 26, vv => vv = .string ⟨(D3).toArray⟩
        | 27, vv => vv = .string ⟨(((((D1 ++ ([32] : List UInt8)) ++ D2) ++ ([32] : List UInt8)) ++ D3)).toArray⟩
        | 28, vv => vv = .string ⟨((((((D1 ++ ([32] : List UInt8)) ++ D2) ++ ([32] : List UInt8)) ++ D3) ++ ([10] : List UInt8))).toArray⟩
        | _, _ => True) (fun _ _ _ _ _ h => h) (by kernel_rfl) (by kernel_rfl) (by kernel_rfl) (Below.refl _ _).drew ?_ ?_
      · refine ⟨step_go rfl fun ev w1 hC kn => ?_, ?_⟩
        · have e1 : ev (.tmp 5) = .pointer (some ⟨q, 0, none⟩) := kn.out 5 rfl rfl rfl
          exact good_of (v := .pointer (some ⟨q, 0, none⟩)) rfl (by simp only [execOp, e1]; rfl) hC (Below.refl _ _) rfl
        refine ⟨step_go rfl fun ev w1 hC kn => ?_, ?_⟩
        · have e1 : ev (.tmp 13) = .pointer (some ⟨q, 0, none⟩) := kn.inn 13 rfl rfl
          have c1 := (hC.cell (p := ⟨q, 0, none⟩) l_q).trans x0
          exact good_of (v := .int .i8 ((P k).px)) rfl (by simp [execOp, e1, go_sem, c1]) hC (Below.refl _ _) rfl
        refine ⟨step_go rfl fun ev w1 hC kn => ?_, ?_⟩
        · have e1 : ev (.tmp 14) = .int .i8 ((P k).px) := kn.inn 14 rfl rfl
          exact good_of (v := .int .i64 ((P k).px)) rfl (by simp [execOp, e1, go_sem, u1]) hC (Below.refl _ _) rfl
        refine ⟨step_go rfl fun ev w1 hC kn => ?_, ?_⟩
        · have e1 : ev (.tmp 15) = .int .i64 ((P k).px) := kn.inn 15 rfl rfl
          refine good_call (f := 48) (args := #[.int .i64 ((P k).px)]) rfl (by simp [execOp, e1, kn.fn, kn.con, go_sem]) ((hd1 w1 hC).mono fun e w2 ⟨he, hb⟩ => ⟨_, he, hC.trans (hb.mono hC.size), hb, rfl⟩)
        refine ⟨step_go rfl fun ev w1 hC kn => ?_, ?_⟩
        · have e1 : ev (.tmp 16) = .string ⟨(D1).toArray⟩ := kn.inn 16 rfl rfl
          exact good_of (v := .string ⟨((D1 ++ ([32] : List UInt8))).toArray⟩) rfl (by exact exec_addS (A := D1) (B := ([32] : List UInt8)) rfl e1 (kn.con _) (by simp; omega) _) hC (Below.refl _ _) rfl
        refine ⟨step_go rfl fun ev w1 hC kn => ?_, ?_⟩
        · have e1 : ev (.tmp 5) = .pointer (some ⟨q, 0, none⟩) := kn.out 5 rfl rfl rfl
          exact good_of (v := .pointer (some ⟨q, 1, none⟩)) rfl (by simp only [execOp, e1]; rfl) hC (Below.refl _ _) rfl
        refine ⟨step_go rfl fun ev w1 hC kn => ?_, ?_⟩
        · have e1 : ev (.tmp 18) = .pointer (some ⟨q, 1, none⟩) := kn.inn 18 rfl rfl
          have c1 := (hC.cell (p := ⟨q, 1, none⟩) l_q).trans x1
          exact good_of (v := .int .i8 ((P k).py)) rfl (by simp [execOp, e1, go_sem, c1]) hC (Below.refl _ _) rfl
        refine ⟨step_go rfl fun ev w1 hC kn => ?_, ?_⟩
        · have e1 : ev (.tmp 19) = .int .i8 ((P k).py) := kn.inn 19 rfl rfl
          exact good_of (v := .int .i64 ((P k).py)) rfl (by simp [execOp, e1, go_sem, u2]) hC (Below.refl _ _) rfl
        refine ⟨step_go rfl fun ev w1 hC kn => ?_, ?_⟩
        · have e1 : ev (.tmp 20) = .int .i64 ((P k).py) := kn.inn 20 rfl rfl
          refine good_call (f := 48) (args := #[.int .i64 ((P k).py)]) rfl (by simp [execOp, e1, kn.fn, kn.con, go_sem]) ((hd2 w1 hC).mono fun e w2 ⟨he, hb⟩ => ⟨_, he, hC.trans (hb.mono hC.size), hb, rfl⟩)
        refine ⟨step_go rfl fun ev w1 hC kn => ?_, ?_⟩
        · have e1 : ev (.tmp 17) = .string ⟨((D1 ++ ([32] : List UInt8))).toArray⟩ := kn.inn 17 rfl rfl
          have e2 : ev (.tmp 21) = .string ⟨(D2).toArray⟩ := kn.inn 21 rfl rfl
          exact good_of (v := .string ⟨(((D1 ++ ([32] : List UInt8)) ++ D2)).toArray⟩) rfl (by exact exec_addS (A := (D1 ++ ([32] : List UInt8))) (B := D2) rfl e1 e2 (by simp; omega) _) hC (Below.refl _ _) rfl
        refine ⟨step_go rfl fun ev w1 hC kn => ?_, ?_⟩
        · have e1 : ev (.tmp 22) = .string ⟨(((D1 ++ ([32] : List UInt8)) ++ D2)).toArray⟩ := kn.inn 22 rfl rfl
          exact good_of (v := .string ⟨((((D1 ++ ([32] : List UInt8)) ++ D2) ++ ([32] : List UInt8))).toArray⟩) rfl (by exact exec_addS (A := ((D1 ++ ([32] : List UInt8)) ++ D2)) (B := ([32] : List UInt8)) rfl e1 (kn.con _) (by simp; omega) _) hC (Below.refl _ _) rfl
        refine ⟨step_go rfl fun ev w1 hC kn => ?_, ?_⟩
        · have e1 : ev (.tmp 5) = .pointer (some ⟨q, 0, none⟩) := kn.out 5 rfl rfl rfl
          exact good_of (v := .pointer (some ⟨q, 2, none⟩)) rfl (by simp only [execOp, e1]; rfl) hC (Below.refl _ _) rfl
        refine ⟨step_go rfl fun ev w1 hC kn => ?_, ?_⟩
        · have e1 : ev (.tmp 24) = .pointer (some ⟨q, 2, none⟩) := kn.inn 24 rfl rfl
          have c1 := (hC.cell (p := ⟨q, 2, none⟩) l_q).trans x2
          exact good_of (v := .float .f32 ((P k).rt)) rfl (by simp [execOp, e1, go_sem, c1]) hC (Below.refl _ _) rfl
        refine ⟨step_go rfl fun ev w1 hC kn => ?_, ?_⟩
        · have e1 : ev (.tmp 25) = .float .f32 ((P k).rt) := kn.inn 25 rfl rfl
          refine good_call (f := 42) (args := #[.float .f32 ((P k).rt)]) rfl (by simp [execOp, e1, kn.fn, kn.con, go_sem]) ((hd3 w1 hC).mono fun e w2 ⟨he, hb⟩ => ⟨_, he, hC.trans (hb.mono hC.size), hb, rfl⟩)
        refine ⟨step_go rfl fun ev w1 hC kn => ?_, ?_⟩
        · have e1 : ev (.tmp 23) = .string ⟨((((D1 ++ ([32] : List UInt8)) ++ D2) ++ ([32] : List UInt8))).toArray⟩ := kn.inn 23 rfl rfl
          have e2 : ev (.tmp 26) = .string ⟨(D3).toArray⟩ := kn.inn 26 rfl rfl
          exact good_of (v := .string ⟨(((((D1 ++ ([32] : List UInt8)) ++ D2) ++ ([32] : List UInt8)) ++ D3)).toArray⟩) rfl (by exact exec_addS (A := (((D1 ++ ([32] : List UInt8)) ++ D2) ++ ([32] : List UInt8))) (B := D3) rfl e1 e2 (by simp; omega) _) hC (Below.refl _ _) rfl
        refine ⟨step_go rfl fun ev w1 hC kn => ?_, ?_⟩
        · have e1 : ev (.tmp 27) = .string ⟨(((((D1 ++ ([32] : List UInt8)) ++ D2) ++ ([32] : List UInt8)) ++ D3)).toArray⟩ := kn.inn 27 rfl rfl
          exact good_of (v := .string ⟨((((((D1 ++ ([32] : List UInt8)) ++ D2) ++ ([32] : List UInt8)) ++ D3) ++ ([10] : List UInt8))).toArray⟩) rfl (by exact exec_addS (A := ((((D1 ++ ([32] : List UInt8)) ++ D2) ++ ([32] : List UInt8)) ++ D3)) (B := ([10] : List UInt8)) rfl e1 (kn.con _) (by simp; omega) _) hC (Below.refl _ _) rfl
        exact trivial
      rintro xv w1 hxv hC
      have y28 : xv 28 = .string ⟨((((((D1 ++ ([32] : List UInt8)) ++ D2) ++ ([32] : List UInt8)) ++ D3) ++ ([10] : List UInt8))).toArray⟩ := hxv 28 (by decide)
      simp only [fill, dstsOf, List.filterMap_cons, List.filterMap_nil, List.foldl_cons, List.foldl_nil, List.set_cons_succ, List.set_cons_zero, List.take_succ_cons, List.take_zero, List.drop_succ_cons, List.drop_zero, y28]
      clear hxv y28
      have hbu := isBuilder_below hbu hC
      have hq2 : q0 ≤ w1.heap.size := Nat.le_trans hqW hC.size
      have hSl : (D1 ++ ([32] : List UInt8) ++ D2 ++ ([32] : List UInt8) ++ D3 ++ ([10] : List UInt8)).length ≤ 32 := by simp; omega
      generalize (D1 ++ ([32] : List UInt8) ++ D2 ++ ([32] : List UInt8) ++ D3 ++ ([10] : List UInt8)) = S at *
      have hw := writeString_any q0 q0 _ ⟨S.toArray⟩ w1 hbu (by rw [byteCells_len]; simp [ByteArray.size]; omega) hq2
      rw [strCells_eq, byteCells_app, ← hT] at hw
      have hbelC := hbel.trans (hC.mono hbel.size)
      go_wp2_with (go_at_call 47; refine hw.mono ?_; rintro e w2 ⟨rfl, hbu2, hb2⟩)
      go_roundw
      case rel => exact ⟨k + 1, by omega, by go_num, .inr hbu2, Nat.le_trans hq2 hb2.size, hbelC.trans (hb2.mono (by omega))⟩
      case measure => simp [intOf]; omega
    · obtain rfl : k = n := by omega
      have hst := sh_Builder_String_any q0 q0 (txtWl P k) wr hbu hq
      go_wp2_with (go_at_call 49; refine hst.mono ?_; rintro e w2 ⟨rfl, hb2⟩)
      go_ret
      exact ⟨rfl, hbel.trans (hb2.mono (by omega))⟩
end Go.Proofs.YtcojgmgoiopboaaGreatDoor
