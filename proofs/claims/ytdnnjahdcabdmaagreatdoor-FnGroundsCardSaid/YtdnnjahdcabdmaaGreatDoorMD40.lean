import Derived.Test.YtdnnjahdcabdmaaGreatDoorMD32
import Derived.Lib.AppendIntMem
/- The text of permits, in the program and in the reference: the walks, continued. -/
namespace Go.Proofs.YtdnnjahdcabdmaaGreatDoor
open Go.ChangeShapes Go.WideShapes Go.ChangeAt Go.RowKit
set_option linter.unusedVariables false
set_option linter.unusedSimpArgs false
attribute [local irreducible] Calls
theorem str_nil : (⟨#[]⟩ : ByteArray) = ⟨([] : List UInt8).toArray⟩ := rfl
/-- The library's table of powers of ten lies as its initialiser lays it. -/
theorem tab_below {w w' : World} (h : Lib.TabIs Tryz.prog w "internal/strconv.uint64pow10" .u64 Lib.pow10Tab) (hb : Below w.heap.size w w') : Lib.TabIs Tryz.prog w' "internal/strconv.uint64pow10" .u64 Lib.pow10Tab :=
  Lib.tabBelow_of_tabIs h w' hb
set_option maxRecDepth 100000 in
set_option maxHeartbeats 4000000 in
theorem permitsTextI_any (n : Nat) (P : Nat → Pm) (hP : ∀ i, i < n → (P i).ok) (v : Value) (w : World) (hv : PSl w v n P) (htab : Lib.TabIs Tryz.prog w "internal/strconv.uint64pow10" .u64 Lib.pow10Tab) :
    Calls Tryz.prog 9 #[v] w fun e w' => e = .returned (.string ⟨(if plainPt n P then txtPm P n else []).toArray⟩) ∧ Below w.heap.size w w' := by
  have hp := permitsOk_any n P hP v w hv
  obtain ⟨a, c, rfl, hc1, hc2, hcell⟩ := hv
  unfold maxLen at hc2
  have HC := Lib.hid hcell
  clear hcell
  cases h1 : plainPt n P <;> rw [h1] at hp
  · clear h1
    go_enter Tryz.func9, Tryz.ntmps9
    go_wp2_with (go_at_call 48; refine hp.mono ?_; rintro e w1 ⟨rfl, hb⟩)
    go_ret
    exact ⟨rfl, hb⟩
  · obtain ⟨hn6, hbd⟩ := plainPt_parts h1
    have HB := Lib.hid hbd
    have HT := Lib.hid htab
    rw [if_pos rfl]
    clear hbd h1 htab
    go_enter Tryz.func9, Tryz.ntmps9
    go_upto_region 4 with (go_at_call 48; refine hp.mono ?_; rintro e w1 ⟨rfl, hb⟩)
    have hbd := Lib.fresh_isBuilder 94 5 w1
    have hbel := hb.alloc hb.size (.cells #[.pointer none, .slice none 0 0] 94)
    have hq : w1.heap.size ≤ (w1.alloc (.cells #[.pointer none, .slice none 0 0] 94)).heap.size := by simp
    have hz : w.heap.size ≤ w1.heap.size := hb.size
    generalize w1.alloc (.cells #[.pointer none, .slice none 0 0] 94) = W0 at *
    generalize w1.heap.size = q0 at *
    clear hp hb
    go_upto_region 5 with fail
    go_loopw [12] (fun i wr => ∃ k : Nat, k ≤ n ∧ i = .int .i64 k ∧ Lib.IsBuilder 94 5 q0 q0 (Lib.byteCells (txtPm P k)) wr ∧ q0 ≤ wr.heap.size ∧ Below w.heap.size w wr) (fun i _ => n - (intOf i).toNat)
    case atStart => exact ⟨0, by omega, rfl, hbd, hq, hbel⟩
    case round =>
      clear hbd hbel hq
      obtain ⟨k, hk, rfl, hbu, hq, hbel⟩ := hrel
      have bk : (0 : Int) ≤ k := by omega
      by_cases hlt : k < n
      · have bl : (k : Int) < n := by omega
        obtain ⟨b, o, rfl, hb, hcell⟩ := HC.out.resolve_left (by omega)
        have e0 : wr.cell? ⟨b, o + k * 3, none⟩ = some (.int .i8 (P k).own) := (hbel.cell (p := ⟨b, _, none⟩) hb).trans ((hcell k 0 hlt (by omega)).trans (P k).get0)
        have e1 : wr.cell? ⟨b, o + k * 3 + 1, none⟩ = some (.int .i8 (P k).cel) := (hbel.cell (p := ⟨b, _, none⟩) hb).trans ((hcell k 1 hlt (by omega)).trans (P k).get1)
        have e2 : wr.cell? ⟨b, o + k * 3 + 2, none⟩ = some (.int .i16 (P k).rat) := (hbel.cell (p := ⟨b, _, none⟩) hb).trans ((hcell k 2 hlt (by omega)).trans (P k).get2)
        clear hcell
        have hrw := HB.out k hlt
        have hlen := rowPm_len hrw
        have htl := txtPm_len (P := P) (k := k) (fun i hi => HB.out i (by omega))
        have hT : txtPm P (k + 1) = txtPm P k ++ rowPm (P k) := rfl
        obtain ⟨⟨o1, o2⟩, ⟨c1, c2⟩, r1, r2⟩ := hrw
        go_upto_region 7 with fail
        have hX := Blk.new wr #[.int .i8 (P k).own, .int .i8 (P k).cel, .int .i16 (P k).rat] 59
        have hbu := isBuilder_below hbu ((Below.refl _ _).alloc (Nat.le_refl _) (.cells #[.int .i8 (P k).own, .int .i8 (P k).cel, .int .i16 (P k).rat] 59))
        have hbel := hbel.alloc hbel.size (.cells #[.int .i8 (P k).own, .int .i8 (P k).cel, .int .i16 (P k).rat] 59)
        have hqW : q0 ≤ (wr.alloc (.cells #[.int .i8 (P k).own, .int .i8 (P k).cel, .int .i16 (P k).rat] 59)).heap.size := by simp; omega
        generalize wr.alloc (.cells #[.int .i8 (P k).own, .int .i8 (P k).cel, .int .i16 (P k).rat] 59) = W at *
        have x0 := hX.cell 0
        have x1 := hX.cell 1
        have x2 := hX.cell 2
        have l_q := hX.lt
        generalize wr.heap.size = q at *
        have hd1 := fun w' (hb' : Below W.heap.size W w') => decimalI_any (P k).own (by omega) (by omega) w' (tab_below (tab_below HT.out hbel) hb')
        have hd2 := fun w' (hb' : Below W.heap.size W w') => decimalI_any (P k).cel (by omega) (by omega) w' (tab_below (tab_below HT.out hbel) hb')
        have hd3 := fun w' (hb' : Below W.heap.size W w') => decimalI_any (P k).rat (by omega) (by omega) w' (tab_below (tab_below HT.out hbel) hb')
        have q1 := dec_len (x := (P k).own) (by omega)
        have q2 := dec_len (x := (P k).cel) (by omega)
        have q3 := dec_len (x := (P k).rat) (by omega)
        unfold rowPm at hT
        clear hX e0 e1 e2
        generalize Lib.decDigits (P k).own.toNat = D1 at *
        generalize Lib.decDigits (P k).cel.toNat = D2 at *
        generalize Lib.decDigits (P k).rat.toNat = D3 at *
        generalize txtPm P k = T at *
        have u1 := IntWalk.i64_in (P k).own (by omega)
        have u2 := IntWalk.i64_in (P k).cel (by omega)
        have u3 := IntWalk.i64_in (P k).rat (by omega)
        refine wp_splitK 17 (C := fun w' => Below W.heap.size W w') (R := fun w w' => Below w.heap.size w w') (F := fun _ dd vv => match dd, vv with
          | 16, vv => vv = .pointer (some ⟨q, 0, none⟩)
          | 17, vv => vv = .int .i8 ((P k).own)
          | 18, vv => vv = .int .i64 ((P k).own)
          | 19, vv => vv = .string ⟨(D1).toArray⟩
          | 20, vv => vv = .string ⟨((D1 ++ ([32] : List UInt8))).toArray⟩
          | 21, vv => vv = .pointer (some ⟨q, 1, none⟩)
          | 22, vv => vv = .int .i8 ((P k).cel)
          | 23, vv => vv = .int .i64 ((P k).cel)
          | 24, vv => vv = .string ⟨(D2).toArray⟩
          | 25, vv => vv = .string ⟨(((D1 ++ ([32] : List UInt8)) ++ D2)).toArray⟩
          | 26, vv => vv = .string ⟨((((D1 ++ ([32] : List UInt8)) ++ D2) ++ ([32] : List UInt8))).toArray⟩
          | 27, vv => vv = .pointer (some ⟨q, 2, none⟩)
          | 28, vv => vv = .int .i16 ((P k).rat)
          | 29, vv => vv = .int .i64 ((P k).rat)
          | 30, vv => vv = .string ⟨(D3).toArray⟩
          | 31, vv => vv = .string ⟨(((((D1 ++ ([32] : List UInt8)) ++ D2) ++ ([32] : List UInt8)) ++ D3)).toArray⟩
          | 32, vv => vv = .string ⟨((((((D1 ++ ([32] : List UInt8)) ++ D2) ++ ([32] : List UInt8)) ++ D3) ++ ([10] : List UInt8))).toArray⟩
          | _, _ => True) (fun _ _ _ _ _ h => h) (by kernel_rfl) (by kernel_rfl) (by kernel_rfl) (Below.refl _ _).drew ?_ ?_
        · refine ⟨step_go rfl fun ev w1 hC kn => ?_, ?_⟩
          · have e1 : ev (.tmp 5) = .pointer (some ⟨q, 0, none⟩) := kn.out 5 rfl rfl rfl
            exact good_of (v := .pointer (some ⟨q, 0, none⟩)) rfl (by simp only [execOp, e1]; rfl) hC (Below.refl _ _) rfl
          refine ⟨step_go rfl fun ev w1 hC kn => ?_, ?_⟩
          · have e1 : ev (.tmp 16) = .pointer (some ⟨q, 0, none⟩) := kn.inn 16 rfl rfl
            have c1 := (hC.cell (p := ⟨q, 0, none⟩) l_q).trans x0
            exact good_of (v := .int .i8 ((P k).own)) rfl (by simp [execOp, e1, go_sem, c1]) hC (Below.refl _ _) rfl
          refine ⟨step_go rfl fun ev w1 hC kn => ?_, ?_⟩
          · have e1 : ev (.tmp 17) = .int .i8 ((P k).own) := kn.inn 17 rfl rfl
            exact good_of (v := .int .i64 ((P k).own)) rfl (by simp [execOp, e1, go_sem, u1]) hC (Below.refl _ _) rfl
          refine ⟨step_go rfl fun ev w1 hC kn => ?_, ?_⟩
          · have e1 : ev (.tmp 18) = .int .i64 ((P k).own) := kn.inn 18 rfl rfl
            refine good_call (f := 50) (args := #[.int .i64 ((P k).own)]) rfl (by simp [execOp, e1, kn.fn, kn.con, go_sem]) ((hd1 w1 hC).mono fun e w2 ⟨he, hb⟩ => ⟨_, he, hC.trans (hb.mono hC.size), hb, rfl⟩)
          refine ⟨step_go rfl fun ev w1 hC kn => ?_, ?_⟩
          · have e1 : ev (.tmp 19) = .string ⟨(D1).toArray⟩ := kn.inn 19 rfl rfl
            exact good_of (v := .string ⟨((D1 ++ ([32] : List UInt8))).toArray⟩) rfl (by exact exec_addS (A := D1) (B := ([32] : List UInt8)) rfl e1 (kn.con _) (by simp; omega) _) hC (Below.refl _ _) rfl
          refine ⟨step_go rfl fun ev w1 hC kn => ?_, ?_⟩
          · have e1 : ev (.tmp 5) = .pointer (some ⟨q, 0, none⟩) := kn.out 5 rfl rfl rfl
            exact good_of (v := .pointer (some ⟨q, 1, none⟩)) rfl (by simp only [execOp, e1]; rfl) hC (Below.refl _ _) rfl
          refine ⟨step_go rfl fun ev w1 hC kn => ?_, ?_⟩
          · have e1 : ev (.tmp 21) = .pointer (some ⟨q, 1, none⟩) := kn.inn 21 rfl rfl
            have c1 := (hC.cell (p := ⟨q, 1, none⟩) l_q).trans x1
            exact good_of (v := .int .i8 ((P k).cel)) rfl (by simp [execOp, e1, go_sem, c1]) hC (Below.refl _ _) rfl
          refine ⟨step_go rfl fun ev w1 hC kn => ?_, ?_⟩
          · have e1 : ev (.tmp 22) = .int .i8 ((P k).cel) := kn.inn 22 rfl rfl
            exact good_of (v := .int .i64 ((P k).cel)) rfl (by simp [execOp, e1, go_sem, u2]) hC (Below.refl _ _) rfl
          refine ⟨step_go rfl fun ev w1 hC kn => ?_, ?_⟩
          · have e1 : ev (.tmp 23) = .int .i64 ((P k).cel) := kn.inn 23 rfl rfl
            refine good_call (f := 50) (args := #[.int .i64 ((P k).cel)]) rfl (by simp [execOp, e1, kn.fn, kn.con, go_sem]) ((hd2 w1 hC).mono fun e w2 ⟨he, hb⟩ => ⟨_, he, hC.trans (hb.mono hC.size), hb, rfl⟩)
          refine ⟨step_go rfl fun ev w1 hC kn => ?_, ?_⟩
          · have e1 : ev (.tmp 20) = .string ⟨((D1 ++ ([32] : List UInt8))).toArray⟩ := kn.inn 20 rfl rfl
            have e2 : ev (.tmp 24) = .string ⟨(D2).toArray⟩ := kn.inn 24 rfl rfl
            exact good_of (v := .string ⟨(((D1 ++ ([32] : List UInt8)) ++ D2)).toArray⟩) rfl (by exact exec_addS (A := (D1 ++ ([32] : List UInt8))) (B := D2) rfl e1 e2 (by simp; omega) _) hC (Below.refl _ _) rfl
          refine ⟨step_go rfl fun ev w1 hC kn => ?_, ?_⟩
          · have e1 : ev (.tmp 25) = .string ⟨(((D1 ++ ([32] : List UInt8)) ++ D2)).toArray⟩ := kn.inn 25 rfl rfl
            exact good_of (v := .string ⟨((((D1 ++ ([32] : List UInt8)) ++ D2) ++ ([32] : List UInt8))).toArray⟩) rfl (by exact exec_addS (A := ((D1 ++ ([32] : List UInt8)) ++ D2)) (B := ([32] : List UInt8)) rfl e1 (kn.con _) (by simp; omega) _) hC (Below.refl _ _) rfl
          refine ⟨step_go rfl fun ev w1 hC kn => ?_, ?_⟩
          · have e1 : ev (.tmp 5) = .pointer (some ⟨q, 0, none⟩) := kn.out 5 rfl rfl rfl
            exact good_of (v := .pointer (some ⟨q, 2, none⟩)) rfl (by simp only [execOp, e1]; rfl) hC (Below.refl _ _) rfl
          refine ⟨step_go rfl fun ev w1 hC kn => ?_, ?_⟩
          · have e1 : ev (.tmp 27) = .pointer (some ⟨q, 2, none⟩) := kn.inn 27 rfl rfl
            have c1 := (hC.cell (p := ⟨q, 2, none⟩) l_q).trans x2
            exact good_of (v := .int .i16 ((P k).rat)) rfl (by simp [execOp, e1, go_sem, c1]) hC (Below.refl _ _) rfl
          refine ⟨step_go rfl fun ev w1 hC kn => ?_, ?_⟩
          · have e1 : ev (.tmp 28) = .int .i16 ((P k).rat) := kn.inn 28 rfl rfl
            exact good_of (v := .int .i64 ((P k).rat)) rfl (by simp [execOp, e1, go_sem, u3]) hC (Below.refl _ _) rfl
          refine ⟨step_go rfl fun ev w1 hC kn => ?_, ?_⟩
          · have e1 : ev (.tmp 29) = .int .i64 ((P k).rat) := kn.inn 29 rfl rfl
            refine good_call (f := 50) (args := #[.int .i64 ((P k).rat)]) rfl (by simp [execOp, e1, kn.fn, kn.con, go_sem]) ((hd3 w1 hC).mono fun e w2 ⟨he, hb⟩ => ⟨_, he, hC.trans (hb.mono hC.size), hb, rfl⟩)
          refine ⟨step_go rfl fun ev w1 hC kn => ?_, ?_⟩
          · have e1 : ev (.tmp 26) = .string ⟨((((D1 ++ ([32] : List UInt8)) ++ D2) ++ ([32] : List UInt8))).toArray⟩ := kn.inn 26 rfl rfl
            have e2 : ev (.tmp 30) = .string ⟨(D3).toArray⟩ := kn.inn 30 rfl rfl
            exact good_of (v := .string ⟨(((((D1 ++ ([32] : List UInt8)) ++ D2) ++ ([32] : List UInt8)) ++ D3)).toArray⟩) rfl (by exact exec_addS (A := (((D1 ++ ([32] : List UInt8)) ++ D2) ++ ([32] : List UInt8))) (B := D3) rfl e1 e2 (by simp; omega) _) hC (Below.refl _ _) rfl
          refine ⟨step_go rfl fun ev w1 hC kn => ?_, ?_⟩
          · have e1 : ev (.tmp 31) = .string ⟨(((((D1 ++ ([32] : List UInt8)) ++ D2) ++ ([32] : List UInt8)) ++ D3)).toArray⟩ := kn.inn 31 rfl rfl
            exact good_of (v := .string ⟨((((((D1 ++ ([32] : List UInt8)) ++ D2) ++ ([32] : List UInt8)) ++ D3) ++ ([10] : List UInt8))).toArray⟩) rfl (by exact exec_addS (A := ((((D1 ++ ([32] : List UInt8)) ++ D2) ++ ([32] : List UInt8)) ++ D3)) (B := ([10] : List UInt8)) rfl e1 (kn.con _) (by simp; omega) _) hC (Below.refl _ _) rfl
          exact trivial
        rintro xv w1 hxv hC
        have y32 : xv 32 = .string ⟨((((((D1 ++ ([32] : List UInt8)) ++ D2) ++ ([32] : List UInt8)) ++ D3) ++ ([10] : List UInt8))).toArray⟩ := hxv 32 (by decide)
        simp only [fill, dstsOf, List.filterMap_cons, List.filterMap_nil, List.foldl_cons, List.foldl_nil, List.set_cons_succ, List.set_cons_zero, List.take_succ_cons, List.take_zero, List.drop_succ_cons, List.drop_zero, y32]
        clear hxv y32
        have hbu := isBuilder_below hbu hC
        have hq2 : q0 ≤ w1.heap.size := Nat.le_trans hqW hC.size
        have hSl : (D1 ++ ([32] : List UInt8) ++ D2 ++ ([32] : List UInt8) ++ D3 ++ ([10] : List UInt8)).length ≤ 12 := by simp; omega
        generalize (D1 ++ ([32] : List UInt8) ++ D2 ++ ([32] : List UInt8) ++ D3 ++ ([10] : List UInt8)) = S at *
        have hw := writeString_any q0 q0 _ ⟨S.toArray⟩ w1 hbu (by rw [byteCells_len]; simp [ByteArray.size]; omega) hq2
        rw [strCells_eq, byteCells_app, ← hT] at hw
        have hbelC := hbel.trans (hC.mono hbel.size)
        go_wp2_with (go_at_call 49; refine hw.mono ?_; rintro e w2 ⟨rfl, hbu2, hb2⟩)
        go_roundw
        case rel => exact ⟨k + 1, by omega, by go_num, .inr hbu2, Nat.le_trans hq2 hb2.size, hbelC.trans (hb2.mono hz)⟩
        case measure => simp [intOf]; omega
      · obtain rfl : k = n := by omega
        have hst := sh_Builder_String_any q0 q0 (txtPm P k) wr hbu hq
        go_wp2_with (go_at_call 51; refine hst.mono ?_; rintro e w2 ⟨rfl, hb2⟩)
        go_ret
        exact ⟨rfl, hbel.trans (hb2.mono hz)⟩
end Go.Proofs.YtdnnjahdcabdmaaGreatDoor
