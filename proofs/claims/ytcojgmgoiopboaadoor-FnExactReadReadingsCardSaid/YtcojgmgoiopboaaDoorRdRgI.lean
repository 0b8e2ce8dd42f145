/- ReadReadings, in the program: the walk. -/
import Derived.Test.YtcojgmgoiopboaaDoorRdRgS
import Derived.Test.YtcojgmgoiopboaaDoorRdPmI
namespace Go.Proofs.YtcojgmgoiopboaaDoor
open Go.ChangeShapes Go.WideShapes Go.ChangeAt Go.RowKit
set_option linter.unusedVariables false
set_option linter.unusedSimpArgs false
attribute [local irreducible] Calls

theorem decimalZ_any (n : Int) (h : -32768 ≤ n ∧ n ≤ 100000) (w : World) (htab : Lib.TabIs Tryd.prog w "internal/strconv.uint64pow10" .u64 Lib.pow10Tab) :
    Calls Tryd.prog 25 #[.int .i64 n] w fun e w' => e = .returned (.string ⟨(Lib.itoa n).toArray⟩) ∧ Below w.heap.size w w' := by
  have hf := sh_strconv_FormatInt_10 n (by omega) (by omega) w htab
  generalize Lib.itoa n = D at *
  clear h
  go_enter Tryd.func25, Tryd.ntmps25
  go_wp2_with (go_at_call 45; refine hf.mono ?_; rintro e w1 ⟨rfl, k, os, rfl⟩)
  go_ret
  exact ⟨rfl, below_grow w k os⟩
theorem itoa_len {z : Int} (h : -32768 ≤ z ∧ z ≤ 100000) : (Lib.itoa z).length ≤ 7 := by
  by_cases hz : 0 ≤ z
  · rw [itoa_pos hz]; have := decDigits_len_le 5 z.toNat (by omega); omega
  · rw [itoa_neg (by omega)]; have := decDigits_len_le 5 (-z).toNat (by omega); simp; omega
theorem txtRg_len {P : Nat → Rg} : ∀ {k : Nat}, (∀ i, i < k → (1 ≤ (P i).tim ∧ (P i).tim ≤ 100000) ∧ (-32768 ≤ (P i).lev ∧ (P i).lev ≤ 32767)) → (txtRg P k).length ≤ 16 * k
  | 0, _ => by simp [txtRg]
  | k + 1, h => by
    have ih := txtRg_len (P := P) (k := k) (fun i hi => h i (by omega))
    have h0 := h k (by omega)
    have h1 := itoa_len (z := (P k).tim) (by omega)
    have h2 := itoa_len (z := (P k).lev) (by omega)
    unfold txtRg rowG glue glue; simp; omega
/-- The list of times. -/
def tls (P : Nat → Rg) : Nat → List Value
  | 0 => []
  | k + 1 => tls P k ++ [.int .i64 (P k).tim]
theorem tls_len (P : Nat → Rg) : ∀ k, (tls P k).length = k
  | 0 => rfl
  | k + 1 => by unfold tls; simp [tls_len P k]
theorem tls_get (P : Nat → Rg) : ∀ (n i : Nat), i < n → (tls P n)[i]? = some (.int .i64 (P i).tim)
  | n + 1, i, h => by
    unfold tls
    by_cases hi : i < n
    · rw [List.getElem?_append_left (by rw [tls_len]; exact hi)]; exact tls_get P n i hi
    · obtain rfl : i = n := by omega
      rw [List.getElem?_append_right (by rw [tls_len]; exact Nat.le_refl _), tls_len, Nat.sub_self]; rfl
theorem elT64 : ElemTy Tryd.prog 82 2 1 8 := elem_of (z := .int .i64 0) Tryd.underlying82 (by kernel_rfl) rfl
theorem isMomentT_any (n : Int) (w : World) :
    Calls Tryd.prog 62 #[.int .i64 n] w fun e w' => e = .returned (.bool (decide (1 ≤ n) && decide (n ≤ 100000))) ∧ w' = w := by
  go_enter Tryd.func62, Tryd.ntmps62
  go_wp2_with (go_at_call 43; refine (in_any _ _ _ _).mono ?_; rintro e w' ⟨rfl, rfl⟩)
  go_ret
  exact ⟨rfl, rfl⟩
set_option maxRecDepth 100000 in
set_option maxHeartbeats 4000000 in
theorem timesOk_any (n g : Nat) (hn : n ≤ 40) (P : Nat → Rg) (v : Value) (w : World) (hv : Own w g 2 1 v n (tls P n)) :
    Calls Tryd.prog 50 #[v] w fun e w' => e = .returned (.bool (okT P n)) ∧ w' = w := by
  obtain ⟨cap, rfl, hc1, hc2⟩ := hv.form
  unfold maxLen at hc2
  have HV := Lib.hid (fun i (h : i < n) => (hv.cell i (by omega)).trans (tls_get P n i h))
  clear hv
  have i40 : (n : Int) ≤ 40 := by omega
  go_enter Tryd.func50, Tryd.ntmps50
  go_upto_region 2 with fail
  go_loopw [7] (fun vi wr => ∃ k : Nat, k ≤ n ∧ vi = .int .i64 k ∧ Hid (okT P k = true) ∧ wr = w) (fun vi _ => n - (intOf vi).toNat)
  case atStart => exact ⟨0, by omega, rfl, Lib.hid rfl, rfl⟩
  case round =>
    obtain ⟨k, hk, rfl, hok, rfl⟩ := hrel
    have bk : (0 : Int) ≤ k := by omega
    by_cases hlt : k < n
    · have bl : (k : Int) < n := by omega
      have e0 := HV.out k hlt
      have hm := fun w' => isMomentT_any (P k).tim w'
      have hst : okT P (k + 1) = (okT P k && (decide (prevT P k < (P k).tim) && decide ((P k).tim ≤ 100000))) := rfl
      rw [hok.out, Bool.true_and] at hst
      have q0 := okT_prev hok.out
      have q1 := okT_prev2 hok.out
      by_cases hmo : 1 ≤ (P k).tim ∧ (P k).tim ≤ 100000
      · have hmd : (decide (1 ≤ (P k).tim) && decide ((P k).tim ≤ 100000)) = true := by simp; omega
        rw [hmd] at hm
        rw [decide_eq_true hmo.2, Bool.and_true] at hst
        cases k with
        | zero =>
          have hpr : prevT P 0 = 0 := rfl
          have HF : Hid (okT P (0 + 1) = true) := Lib.hid (by rw [hst, hpr]; simp; omega)
          clear hst hmd hmo hpr q0 q1
          go_wp2_with (go_at_call 62; refine (hm _).mono ?_; rintro e w' ⟨rfl, hw⟩; rw [hw]; clear hw w')
          go_roundw
          case rel => exact ⟨0 + 1, by omega, by go_num, HF, by first | rfl | trivial⟩
          case measure => simp [intOf]; omega
        | succ j =>
          have hpr : prevT P (j + 1) = (P j).tim := rfl
          have ep := HV.out j (by omega)
          rw [hpr] at hst
          have bj : (0 : Int) ≤ j := by omega
          have bj2 : (j : Int) < n := by omega
          have bj3 : (0 : Int) < (j : Int) + 1 := by omega
          have bj4 : (j : Int) + 1 < n := by omega
          by_cases hlt2 : (P j).tim < (P (j + 1)).tim
          · have HF : Hid (okT P (j + 1 + 1) = true) := Lib.hid (by rw [hst]; simpa using hlt2)
            have il : ¬ (P (j + 1)).tim ≤ (P j).tim := by omega
            clear hst hmd hmo hpr q0 q1
            go_wp2_with (go_at_call 62; refine (hm _).mono ?_; rintro e w' ⟨rfl, hw⟩; rw [hw]; clear hw w')
            go_roundw
            case rel => exact ⟨j + 1 + 1, by omega, by go_num, HF, by first | rfl | trivial⟩
            case measure => simp [intOf]; omega
          · have HF : Hid (okT P n = false) := Lib.hid (okT_false (k := j + 1 + 1) (by rw [hst]; simpa using hlt2) (by omega))
            have il : (P (j + 1)).tim ≤ (P j).tim := by omega
            clear hst hmd hmo hpr q0 q1 hlt2
            go_wp2_with (go_at_call 62; refine (hm _).mono ?_; rintro e w' ⟨rfl, hw⟩; rw [hw]; clear hw w')
            go_ret
            exact ⟨bool_eq HF.out.symm, rfl⟩
      · have hmd : (decide (1 ≤ (P k).tim) && decide ((P k).tim ≤ 100000)) = false := by simp; omega
        rw [hmd] at hm
        have HF : Hid (okT P n = false) := Lib.hid (okT_false (k := k + 1) (by rw [hst]; simp; omega) (by omega))
        clear hst hmd hmo q0 q1
        go_wp2_with (go_at_call 62; refine (hm _).mono ?_; rintro e w' ⟨rfl, hw⟩; rw [hw]; clear hw w')
        go_ret
        exact ⟨bool_eq HF.out.symm, rfl⟩
    · obtain rfl : k = n := by omega
      have HF : Hid (okT P k = true) := hok
      go_wp2_with fail
      go_ret
      exact ⟨bool_eq HF.out.symm, rfl⟩
set_option maxRecDepth 100000 in
set_option maxHeartbeats 4000000 in
theorem validReadings_any (n : Nat) (hn : n ≤ 40) (P : Nat → Rg) (v : Value) (w : World) (hv : RSl w v n P) :
    Calls Tryd.prog 35 #[v] w fun e w' => e = .returned (.bool (okT P n)) ∧ Below w.heap.size w w' := by
  obtain ⟨a, c, rfl, hc1, hc2, hcell⟩ := hv
  unfold maxLen at hc2
  have HC := Lib.hid hcell
  clear hcell
  go_enter Tryd.func35, Tryd.ntmps35
  go_upto_region 2 with fail
  have hO : Own (w.alloc (.cells #[] 2)) w.heap.size 2 1 (.slice (some ⟨w.heap.size, 0, none⟩) 0 0) 0 (tls P 0) := own_blk (Blk.new _ _ _) rfl (by decide) rfl
  have hbel := below1 w (.cells #[] 2)
  generalize w.alloc (.cells #[] 2) = W at *
  go_upto_region 3 with fail
  go_loopw [3, 9] (fun vt vi wr => ∃ k : Nat, k ≤ n ∧ vi = .int .i64 k ∧ Below w.heap.size w wr ∧ ∃ g, Own wr g 2 1 vt k (tls P k) ∧ w.heap.size ≤ g) (fun _ vi _ => n - (intOf vi).toNat)
  case atStart => exact ⟨0, by omega, rfl, hbel, _, hO, Nat.le_refl _⟩
  case round =>
    clear hO hbel
    obtain ⟨k, hk, rfl, hbel, g, hO, hg⟩ := hrel
    have bk : (0 : Int) ≤ k := by omega
    have hz := hbel.size
    by_cases hlt : k < n
    · have bl : (k : Int) < n := by omega
      obtain ⟨b, o, rfl, hb, hcell⟩ := HC.out.resolve_left (by omega)
      have e0 : wr.cell? ⟨b, o + k * 2, none⟩ = some (.int .i64 (P k).tim) := (hbel.cell (p := ⟨b, _, none⟩) hb).trans ((hcell k 0 hlt (by omega)).trans (P k).get0)
      have e1 : wr.cell? ⟨b, o + k * 2 + 1, none⟩ = some (.int .i16 (P k).lev) := (hbel.cell (p := ⟨b, _, none⟩) hb).trans ((hcell k 1 hlt (by omega)).trans (P k).get1)
      clear hcell
      go_upto_region 5 with fail
      have hX := Blk.new wr #[.int .i64 (P k).tim, .int .i16 (P k).lev] 66
      have hO := hO.alloc (.cells #[.int .i64 (P k).tim, .int .i16 (P k).lev] 66)
      have hbel := hbel.alloc hz (.cells #[.int .i64 (P k).tim, .int .i16 (P k).lev] 66)
      have hzz : wr.heap.size < (wr.alloc (.cells #[.int .i64 (P k).tim, .int .i16 (P k).lev] 66)).heap.size := by simp
      generalize wr.alloc (.cells #[.int .i64 (P k).tim, .int .i16 (P k).lev] 66) = W2 at *
      have x0 := hX.cell 0
      generalize wr.heap.size = q at *
      clear e0 e1
      go_wp2_with (at_builtin; refine wpList_app elT64 rfl rfl rfl rfl (by decide) (hO.alloc _) (Blk.new _ _ _) rfl ?_ ?_ ?_ ?_; (· intro u hu; simp at hu; subst hu; rfl); (· unfold maxLen; omega); (· omega); intro v1 w3 g1 hown hgr hg1)
      have hb3 := (hbel.alloc (by omega) (.cells #[.int .i64 (P k).tim] 2)).grown hgr (by simp; omega) (fun q hq => by injection hq with hq; omega)
      go_roundw
      case rel => exact ⟨k + 1, by omega, by go_num, hb3, g1, hown, by simp at hg1; omega⟩
      case measure => simp [intOf]; omega
    · obtain rfl : k = n := by omega
      have ht := timesOk_any k g hn P _ wr hO
      obtain ⟨cp, rfl, hcp1, hcp2⟩ := hO.form
      go_wp2_with (go_at_call 50; refine ht.mono ?_; rintro e w' ⟨rfl, hw⟩; rw [hw]; clear hw w')
      go_ret
      exact ⟨rfl, hbel⟩
set_option maxRecDepth 100000 in
set_option maxHeartbeats 4000000 in
theorem readingsText_any (n : Nat) (hn : n ≤ 40) (P : Nat → Rg) (hP : ∀ i, i < n → (1 ≤ (P i).tim ∧ (P i).tim ≤ 100000) ∧ (-32768 ≤ (P i).lev ∧ (P i).lev ≤ 32767)) (v : Value) (w : World) (hv : RSl w v n P) (htab : Lib.TabIs Tryd.prog w "internal/strconv.uint64pow10" .u64 Lib.pow10Tab) :
    Calls Tryd.prog 36 #[v] w fun e w' => e = .returned (.string ⟨(txtRg P n).toArray⟩) ∧ Below w.heap.size w w' := by
  obtain ⟨a, c, rfl, hc1, hc2, hcell⟩ := hv
  unfold maxLen at hc2
  have HC := Lib.hid hcell
  have HB := Lib.hid hP
  have HT := Lib.hid htab
  clear hcell hP htab
  go_enter Tryd.func36, Tryd.ntmps36
  go_upto_region 2 with fail
  have hbd := Lib.fresh_isBuilder 48 5 w
  have hbel := below1 w (.cells #[.pointer none, .slice none 0 0] 48)
  have hq : w.heap.size ≤ (w.alloc (.cells #[.pointer none, .slice none 0 0] 48)).heap.size := by simp
  have hz : w.heap.size ≤ w.heap.size := Nat.le_refl _
  generalize w.alloc (.cells #[.pointer none, .slice none 0 0] 48) = W0 at *
  generalize hq0 : w.heap.size = q0 at hbd hq
  go_upto_region 3 with fail
  go_loopw [9] (fun i wr => ∃ k : Nat, k ≤ n ∧ i = .int .i64 k ∧ Lib.IsBuilder 48 5 q0 q0 (Lib.byteCells (txtRg P k)) wr ∧ q0 ≤ wr.heap.size ∧ Below w.heap.size w wr) (fun i _ => n - (intOf i).toNat)
  case atStart => exact ⟨0, by omega, rfl, hbd, hq, hbel⟩
  case round =>
    clear hbd hbel hq
    obtain ⟨k, hk, rfl, hbu, hq, hbel⟩ := hrel
    have bk : (0 : Int) ≤ k := by omega
    by_cases hlt : k < n
    · have bl : (k : Int) < n := by omega
      obtain ⟨b, o, rfl, hb, hcell⟩ := HC.out.resolve_left (by omega)
      have e0 : wr.cell? ⟨b, o + k * 2, none⟩ = some (.int .i64 (P k).tim) := (hbel.cell (p := ⟨b, _, none⟩) hb).trans ((hcell k 0 hlt (by omega)).trans (P k).get0)
      have e1 : wr.cell? ⟨b, o + k * 2 + 1, none⟩ = some (.int .i16 (P k).lev) := (hbel.cell (p := ⟨b, _, none⟩) hb).trans ((hcell k 1 hlt (by omega)).trans (P k).get1)
      clear hcell
      have hrw := HB.out k hlt
      have htl := txtRg_len (P := P) (k := k) (fun i hi => HB.out i (by omega))
      have hT : txtRg P (k + 1) = txtRg P k ++ (((Lib.itoa (P k).tim ++ ([32] : List UInt8)) ++ Lib.itoa (P k).lev) ++ ([10] : List UInt8)) := by
        show txtRg P k ++ (rowG (P k) ++ [10]) = _
        simp [rowG, glue]
      obtain ⟨⟨o1, o2⟩, c1, c2⟩ := hrw
      go_upto_region 5 with fail
      have hX := Blk.new wr #[.int .i64 (P k).tim, .int .i16 (P k).lev] 66
      have hbu := isBuilder_below hbu ((Below.refl _ _).alloc (Nat.le_refl _) (.cells #[.int .i64 (P k).tim, .int .i16 (P k).lev] 66))
      have hbel := hbel.alloc hbel.size (.cells #[.int .i64 (P k).tim, .int .i16 (P k).lev] 66)
      have hqW : q0 ≤ (wr.alloc (.cells #[.int .i64 (P k).tim, .int .i16 (P k).lev] 66)).heap.size := by simp; omega
      generalize wr.alloc (.cells #[.int .i64 (P k).tim, .int .i16 (P k).lev] 66) = W at *
      have x0 := hX.cell 0
      have x1 := hX.cell 1
      have l_q := hX.lt
      generalize wr.heap.size = q at *
      have hd1 := fun w' (hb' : Below W.heap.size W w') => decimalZ_any (P k).tim (by omega) w' (tab_below (tab_below HT.out hbel) hb')
      have hd2 := fun w' (hb' : Below W.heap.size W w') => decimalZ_any (P k).lev (by omega) w' (tab_below (tab_below HT.out hbel) hb')
      have q1 := itoa_len (z := (P k).tim) (by omega)
      have q2 := itoa_len (z := (P k).lev) (by omega)
      clear hX e0 e1
      generalize Lib.itoa (P k).tim = D1 at *
      generalize Lib.itoa (P k).lev = D2 at *
      generalize txtRg P k = T at *
      have u2 := IntWalk.i64_in (P k).lev (by omega)
      refine wp_splitK 10 (C := fun w' => Below W.heap.size W w') (R := fun w w' => Below w.heap.size w w') (F := fun _ dd vv => match dd, vv with
        | 13, vv => vv = .pointer (some ⟨q, 0, none⟩)
        | 14, vv => vv = .int .i64 ((P k).tim)
        | 15, vv => vv = .string ⟨(D1).toArray⟩
        | 16, vv => vv = .string ⟨((D1 ++ ([32] : List UInt8))).toArray⟩
        | 17, vv => vv = .pointer (some ⟨q, 1, none⟩)
        | 18, vv => vv = .int .i16 ((P k).lev)
        | 19, vv => vv = .int .i64 ((P k).lev)
        | 20, vv => vv = .string ⟨(D2).toArray⟩
        | 21, vv => vv = .string ⟨(((D1 ++ ([32] : List UInt8)) ++ D2)).toArray⟩
        | 22, vv => vv = .string ⟨((((D1 ++ ([32] : List UInt8)) ++ D2) ++ ([10] : List UInt8))).toArray⟩
        | _, _ => True) (fun _ _ _ _ _ h => h) (by kernel_rfl) (by kernel_rfl) (by kernel_rfl) (Below.refl _ _).drew ?_ ?_
      · refine ⟨step_go rfl fun ev w1 hC kn => ?_, ?_⟩
        · have e1 : ev (.tmp 5) = .pointer (some ⟨q, 0, none⟩) := kn.out 5 rfl rfl rfl
          exact good_of (v := .pointer (some ⟨q, 0, none⟩)) rfl (by simp only [execOp, e1]; rfl) hC (Below.refl _ _) rfl
        refine ⟨step_go rfl fun ev w1 hC kn => ?_, ?_⟩
        · have e1 : ev (.tmp 13) = .pointer (some ⟨q, 0, none⟩) := kn.inn 13 rfl rfl
          have c1 := (hC.cell (p := ⟨q, 0, none⟩) l_q).trans x0
          exact good_of (v := .int .i64 ((P k).tim)) rfl (by simp [execOp, e1, go_sem, c1]) hC (Below.refl _ _) rfl
        refine ⟨step_go rfl fun ev w1 hC kn => ?_, ?_⟩
        · have e1 : ev (.tmp 14) = .int .i64 ((P k).tim) := kn.inn 14 rfl rfl
          refine good_call (f := 25) (args := #[.int .i64 ((P k).tim)]) rfl (by simp [execOp, e1, kn.fn, kn.con, go_sem]) ((hd1 w1 hC).mono fun e w2 ⟨he, hb⟩ => ⟨_, he, hC.trans (hb.mono hC.size), hb, rfl⟩)
        refine ⟨step_go rfl fun ev w1 hC kn => ?_, ?_⟩
        · have e1 : ev (.tmp 15) = .string ⟨(D1).toArray⟩ := kn.inn 15 rfl rfl
          exact good_of (v := .string ⟨((D1 ++ ([32] : List UInt8))).toArray⟩) rfl (by exact exec_addS (A := D1) (B := ([32] : List UInt8)) rfl e1 (kn.con _) (by simp; omega) _) hC (Below.refl _ _) rfl
        refine ⟨step_go rfl fun ev w1 hC kn => ?_, ?_⟩
        · have e1 : ev (.tmp 5) = .pointer (some ⟨q, 0, none⟩) := kn.out 5 rfl rfl rfl
          exact good_of (v := .pointer (some ⟨q, 1, none⟩)) rfl (by simp only [execOp, e1]; rfl) hC (Below.refl _ _) rfl
        refine ⟨step_go rfl fun ev w1 hC kn => ?_, ?_⟩
        · have e1 : ev (.tmp 17) = .pointer (some ⟨q, 1, none⟩) := kn.inn 17 rfl rfl
          have c1 := (hC.cell (p := ⟨q, 1, none⟩) l_q).trans x1
          exact good_of (v := .int .i16 ((P k).lev)) rfl (by simp [execOp, e1, go_sem, c1]) hC (Below.refl _ _) rfl
        refine ⟨step_go rfl fun ev w1 hC kn => ?_, ?_⟩
        · have e1 : ev (.tmp 18) = .int .i16 ((P k).lev) := kn.inn 18 rfl rfl
          exact good_of (v := .int .i64 ((P k).lev)) rfl (by simp [execOp, e1, go_sem, u2]) hC (Below.refl _ _) rfl
        refine ⟨step_go rfl fun ev w1 hC kn => ?_, ?_⟩
        · have e1 : ev (.tmp 19) = .int .i64 ((P k).lev) := kn.inn 19 rfl rfl
          refine good_call (f := 25) (args := #[.int .i64 ((P k).lev)]) rfl (by simp [execOp, e1, kn.fn, kn.con, go_sem]) ((hd2 w1 hC).mono fun e w2 ⟨he, hb⟩ => ⟨_, he, hC.trans (hb.mono hC.size), hb, rfl⟩)
        refine ⟨step_go rfl fun ev w1 hC kn => ?_, ?_⟩
        · have e1 : ev (.tmp 16) = .string ⟨((D1 ++ ([32] : List UInt8))).toArray⟩ := kn.inn 16 rfl rfl
          have e2 : ev (.tmp 20) = .string ⟨(D2).toArray⟩ := kn.inn 20 rfl rfl
          exact good_of (v := .string ⟨(((D1 ++ ([32] : List UInt8)) ++ D2)).toArray⟩) rfl (by exact exec_addS (A := (D1 ++ ([32] : List UInt8))) (B := D2) rfl e1 e2 (by simp; omega) _) hC (Below.refl _ _) rfl
        refine ⟨step_go rfl fun ev w1 hC kn => ?_, ?_⟩
        · have e1 : ev (.tmp 21) = .string ⟨(((D1 ++ ([32] : List UInt8)) ++ D2)).toArray⟩ := kn.inn 21 rfl rfl
          exact good_of (v := .string ⟨((((D1 ++ ([32] : List UInt8)) ++ D2) ++ ([10] : List UInt8))).toArray⟩) rfl (by exact exec_addS (A := ((D1 ++ ([32] : List UInt8)) ++ D2)) (B := ([10] : List UInt8)) rfl e1 (kn.con _) (by simp; omega) _) hC (Below.refl _ _) rfl
        exact trivial
      rintro xv w1 hxv hC
      have y22 : xv 22 = .string ⟨((((D1 ++ ([32] : List UInt8)) ++ D2) ++ ([10] : List UInt8))).toArray⟩ := hxv 22 (by decide)
      simp only [fill, dstsOf, List.filterMap_cons, List.filterMap_nil, List.foldl_cons, List.foldl_nil, List.set_cons_succ, List.set_cons_zero, List.take_succ_cons, List.take_zero, List.drop_succ_cons, List.drop_zero, y22]
      clear hxv y22
      have hbu := isBuilder_below hbu hC
      have hq2 : q0 ≤ w1.heap.size := Nat.le_trans hqW hC.size
      have hSl : (D1 ++ ([32] : List UInt8) ++ D2 ++ ([10] : List UInt8)).length ≤ 16 := by simp; omega
      generalize (D1 ++ ([32] : List UInt8) ++ D2 ++ ([10] : List UInt8)) = S at *
      have hw := writeString_any q0 q0 _ ⟨S.toArray⟩ w1 hbu (by rw [byteCells_len]; simp [ByteArray.size]; omega) hq2
      rw [strCells_eq, byteCells_app, ← hT] at hw
      have hbelC := hbel.trans (hC.mono hbel.size)
      go_wp2_with (go_at_call 24; refine hw.mono ?_; rintro e w2 ⟨rfl, hbu2, hb2⟩)
      go_roundw
      case rel => exact ⟨k + 1, by omega, by go_num, .inr hbu2, Nat.le_trans hq2 hb2.size, hbelC.trans (hb2.mono (by omega))⟩
      case measure => simp [intOf]; omega
    · obtain rfl : k = n := by omega
      have hst := sh_Builder_String_any q0 q0 (txtRg P k) wr hbu hq
      go_wp2_with (go_at_call 26; refine hst.mono ?_; rintro e w2 ⟨rfl, hb2⟩)
      go_ret
      exact ⟨rfl, hbel.trans (hb2.mono (by omega))⟩
end Go.Proofs.YtcojgmgoiopboaaDoor
