import Derived.Test.YtglimhkpndfjgaaGreatDoorMW21
import Derived.Test.YtglimhkpndfjgaaGreatDoorMW12
import Derived.Test.YtglimhkpndfjgaaGreatDoorMW11
import Derived.Test.YtglimhkpndfjgaaGreatDoorMW19
/- The lists of drawdowns: the program's walk. -/
namespace Go.Proofs.YtglimhkpndfjgaaGreatDoor
open Go.ChangeShapes Go.WideShapes Go.ChangeAt Go.RowKit
set_option linter.unusedVariables false
set_option linter.unusedSimpArgs false
attribute [local irreducible] Calls
/-- The drawdown of the well i. -/
def ddF (T S : Nat) (P : Nat → Wl) (x y : Int) (time : Nat) (i : Nat) : Nat := ddX T S (P i).rt (x - (P i).px) (y - (P i).py) time
/-- What both lists are. -/
def GotDd (w : World) (n : Nat) (F : Nat → Nat) (e : Ending) (w' : World) : Prop := ∃ (v : Value) (g : Nat), e = .returned v ∧ w.heap.size ≤ g ∧ Own w' g 24 1 v n (fls n F) ∧ Below w.heap.size w w'
theorem elFW : ElemTy Tryz.prog 34 24 1 4 := elem_of (z := .float .f32 0) Tryz.underlying34 (by kernel_rfl) rfl
set_option maxRecDepth 100000 in
set_option maxHeartbeats 1000000 in
theorem drawdowns_any (T S : Nat) (hA : Aq T S) (n : Nat) (hn : n ≤ 12) (P : Nat → Wl) (hP : ∀ i, i < n → WlD (P i)) (v : Value) (x y : Int) (hx : 0 ≤ x ∧ x ≤ 7) (hy : 0 ≤ y ∧ y ≤ 7) (time : Nat) (h1 : 1 ≤ time) (h2 : time ≤ 100000) (w : World) (hv : LSl w v n P) :
    Calls Tryz.prog 66 #[.agg #[.float .f32 T, .float .f32 S], v, .int .i64 x, .int .i64 y, .int .i64 time] w (GotDd w n (ddF T S P x y time)) := by
  have hA0 := Blk.new w #[.float .f32 T, .float .f32 S] 26
  have hbel := below1 w (.cells #[.float .f32 T, .float .f32 S] 26)
  have hv := hv.below hbel
  obtain ⟨a, c, rfl, hc1, hc2, hcell⟩ := hv
  unfold maxLen at hc2
  have hdd := fun i (hi : i < n) w' => drawdown_any T S (P i) x y time hA ⟨(hP i hi).ok.1, (hP i hi).ok.2.1⟩ (hP i hi).mg (by have := (hP i hi).1; omega) (by have := (hP i hi).2.1; omega) h1 h2 w'
  have HC := Lib.hid hcell
  have HD := Lib.hid hdd
  clear hcell hdd hP
  obtain ⟨F, hF⟩ : ∃ F, ddF T S P x y time = F := ⟨_, rfl⟩
  rw [hF]
  have HF := Lib.hid fun i => (congrFun hF i).symm
  clear hF
  go_enter Tryz.func66, Tryz.ntmps66
  go_upto_region 1 with fail
  generalize w.alloc (.cells #[.float .f32 T, .float .f32 S] 26) = W at *
  have lA := hA0.lt
  go_upto_region 2 with fail
  have hG : Own (W.alloc (.cells #[] 24)) W.heap.size 24 1 (.slice (some ⟨W.heap.size, 0, none⟩) 0 0) 0 (fls 0 F) := own_blk (Blk.new _ _ _) rfl (by decide) (by rw [fls_zero])
  have hA1 := hA0.alloc (.cells #[] 24)
  have hb1 := hbel.alloc hbel.size (.cells #[] 24)
  have hbW := below1 W (.cells #[] 24)
  generalize W.alloc (.cells #[] 24) = W2 at *
  obtain ⟨g0, hg0⟩ : ∃ g, W.heap.size = g := ⟨_, rfl⟩
  rw [hg0] at hG ⊢
  go_wp2_with fail
  go_loopw [11, 17] (fun y i wr => ∃ (k gb : Nat), k ≤ n ∧ i = .int .i64 k ∧ Own wr gb 24 1 y k (fls k F) ∧ g0 ≤ gb ∧ Below w.heap.size w wr ∧ Below W.heap.size W wr ∧ Blk wr w.heap.size #[.float .f32 T, .float .f32 S] 26) (fun _ i _ => n - (intOf i).toNat)
  case atStart => exact ⟨0, g0, by omega, rfl, hG, Nat.le_refl _, hb1, hbW, hA1⟩
  case round =>
    clear hG hb1 hbW hA1
    obtain ⟨k, gb, hk, rfl, hG, hgb, hbs, hbW, hA1⟩ := hrel
    have bk : (0 : Int) ≤ k := by omega
    by_cases hlt : k < n
    · have bl : (k : Int) < n := by omega
      obtain ⟨b, o, rfl, hb, hcell⟩ := HC.out.resolve_left (by omega)
      have e0 : wr.cell? ⟨b, o + k * 3, none⟩ = some (.int .i8 (P k).px) := (hbW.cell (p := ⟨b, _, none⟩) hb).trans ((hcell k 0 hlt (by omega)).trans (P k).get0)
      have e1 : wr.cell? ⟨b, o + k * 3 + 1, none⟩ = some (.int .i8 (P k).py) := (hbW.cell (p := ⟨b, _, none⟩) hb).trans ((hcell k 1 hlt (by omega)).trans (P k).get1)
      have e2 : wr.cell? ⟨b, o + k * 3 + 2, none⟩ = some (.float .f32 (P k).rt) := (hbW.cell (p := ⟨b, _, none⟩) hb).trans ((hcell k 2 hlt (by omega)).trans (P k).get2)
      have hd := HD.out k hlt
      rw [(P k).cells_eq] at hd
      have hfk : ddX T S (P k).rt (x - (P k).px) (y - (P k).py) time = F k := (HF.out k).symm
      rw [hfk] at hd
      clear hcell
      go_upto_region 5 with fail
      have hW0 := Blk.new wr #[.int .i8 (P k).px, .int .i8 (P k).py, .float .f32 (P k).rt] 51
      have hA2 := hA1.alloc (.cells #[.int .i8 (P k).px, .int .i8 (P k).py, .float .f32 (P k).rt] 51)
      have hG2 := hG.alloc (.cells #[.int .i8 (P k).px, .int .i8 (P k).py, .float .f32 (P k).rt] 51)
      have sr := hbs.size
      have sW := hbW.size
      have hb2 := hbs.alloc sr (.cells #[.int .i8 (P k).px, .int .i8 (P k).py, .float .f32 (P k).rt] 51)
      have hbW2 := hbW.alloc sW (.cells #[.int .i8 (P k).px, .int .i8 (P k).py, .float .f32 (P k).rt] 51)
      generalize wr.alloc (.cells #[.int .i8 (P k).px, .int .i8 (P k).py, .float .f32 (P k).rt] 51) = W3 at *
      go_wp2_with (first | (refine wpList_load_blk rfl rfl rfl rowAq hA2 rfl ?_) | (refine wpList_load_blk rfl rfl rfl rowWl hW0 rfl ?_) | (go_at_call 76; refine (hd _).mono ?_; rintro e w4 ⟨rfl, hb4⟩; have hG4 := hG2.below hb4 hG2.lt; have hA4 := hA2.below hb4 hA2.lt; have hb5 := hb2.trans (hb4.mono hb2.size); have hbW5 := hbW2.trans (hb4.mono hbW2.size)) | (at_builtin; refine wpList_app elFW rfl rfl rfl rfl (by decide) (hG4.alloc _) (Blk.new _ _ _) rfl ?_ ?_ ?_ ?_; (· intro u hu; simp at hu; subst hu; rfl); (· unfold maxLen; omega); (· omega); intro v1 w7 g2 hown1 hgr1 hg1))
      have s5 := hb5.size
      have t5 := hbW5.size
      go_roundw
      case rel =>
        refine ⟨k + 1, g2, by omega, by go_num, ?_, ?_, ?_, ?_, ?_⟩
        · rw [fls_succ]; exact hown1
        · rcases hg1 with h | h
          · omega
          · rw [h]; simp; omega
        · exact (hb5.alloc s5 _).grown hgr1 (by simp; omega) (fun k e => by injection e; omega)
        · exact (hbW5.alloc t5 _).grown hgr1 (by simp; omega) (fun k e => by injection e; omega)
        · exact (hA4.alloc _).grown hgr1 (fun e => by injection e; omega)
      case measure => simp [intOf]; omega
    · obtain rfl : k = n := by omega
      go_wp2_with fail
      go_ret
      exact ⟨_, gb, rfl, by omega, hG, hbs⟩
end Go.Proofs.YtglimhkpndfjgaaGreatDoor
/- The wells' series: the reference's walks. -/
namespace Go.Proofs.YtglimhkpndfjgaaGreatDoor
open Go.ChangeShapes Go.WideShapes Go.ChangeAt Go.RowKit
set_option linter.unusedVariables false
set_option linter.unusedSimpArgs false
attribute [local irreducible] Calls
set_option maxRecDepth 100000 in
theorem l03Ratio_any (n : Int) (c : Nat) (h : floatBits .quo .f32 (floatOfInt .f32 1) (floatOfInt .f32 n) = some c) (w : World) : Calls Tryz.prog 111 #[.int .i64 1, .int .i64 n] w fun e w' => e = .returned (.float .f32 c) ∧ w' = w := by
  obtain ⟨c1, r1⟩ := Opr.told h
  go_enter Tryz.func111, Tryz.ntmps111
  go_wp2_with fail
  go_ret
  exact ⟨rfl, rfl⟩
set_option maxRecDepth 100000 in
set_option maxHeartbeats 1000000 in
theorem l03Ln_any (u : Nat) (h1 : 562036736 ≤ u) (h2 : u ≤ 1568669696) (w : World) :
    Calls Tryz.prog 105 #[.float .f32 u] w fun e w' => e = .returned (.float .f32 (lnX u)) ∧ ∃ n, w' = w.drewN n := by
  obtain ⟨X, hX0⟩ : ∃ X, lnX u = X := ⟨_, rfl⟩
  rw [hX0]
  have q1 := fun w' => l03Ratio_any 7 1041385765 (by decide +kernel) w'
  have q2 := fun w' => l03Ratio_any 5 1045220557 (by decide +kernel) w'
  have q3 := fun w' => l03Ratio_any 3 1051372203 (by decide +kernel) w'
  go_enter Tryz.func105, Tryz.ntmps105
  go_wp2_with fail
  go_loopw [3, 4] (fun y e wr => ∃ (m : Nat) (z : Int), y = .float .f32 m ∧ e = .int .i64 z ∧ (m : Int) = (u : Int) - z * 8388608 ∧ 0 ≤ z ∧ (z = 0 ∨ 1061158912 ≤ m) ∧ ∃ n, wr = w.drewN n) (fun y _ _ => (match y with | .float _ m => m | _ => 0))
  case atStart => exact ⟨u, 0, rfl, rfl, by omega, by omega, .inl rfl, 0, rfl⟩
  case round =>
    obtain ⟨m, z, rfl, rfl, hm, hz, hm2, n0, rfl⟩ := hrel
    have k1 := fge_eq m 1069547520
    rw [fge_norm (by omega) (by omega) (by omega) (by omega)] at k1
    by_cases hlt : 1069547520 ≤ m
    · rw [decide_eq_true hlt] at k1
      obtain ⟨o1, o2⟩ := opr_half (m := m) (by omega) (by omega)
      have z1 : z < 100 := by omega
      go_wp2_with fail
      exact ⟨⟨m - 8388608, z + 1, rfl, by go_num, by omega, by omega, .inr (by omega), n0, rfl⟩, by show m - 8388608 < m; omega⟩
    · rw [decide_eq_false hlt] at k1
      go_wp2_with fail
      clear k1
      go_loopw [3, 4] (fun y e wr => ∃ (m : Nat) (z : Int), y = .float .f32 m ∧ e = .int .i64 z ∧ (m : Int) = (u : Int) - z * 8388608 ∧ m < 1069547520 ∧ (0 < z → 1061158912 ≤ m) ∧ 562036736 ≤ m ∧ ∃ n, wr = w.drewN n) (fun y _ _ => (match y with | .float _ m => 1069547520 - m | _ => 0))
      case atStart => exact ⟨m, z, rfl, rfl, hm, by omega, by omega, by omega, n0, rfl⟩
      case round =>
        clear hm hz hm2 hlt
        obtain ⟨m, z, rfl, rfl, hm, hm1, hm2, hm3, n0, rfl⟩ := hrel
        have k1 := flt_eq m 1061158912
        rw [flt_norm (by omega) (by omega) (by omega) (by omega)] at k1
        by_cases hlt : m < 1061158912
        · rw [decide_eq_true hlt] at k1
          obtain ⟨o1, o2⟩ := opr_twice (m := m) (by omega) (by omega)
          have z1 : -100 < z ∧ z < 100 := by omega
          go_wp2_with fail
          exact ⟨⟨m + 8388608, z - 1, rfl, by go_num, by omega, by omega, by omega, by omega, n0, rfl⟩, by show 1069547520 - (m + 8388608) < 1069547520 - m; omega⟩
        · rw [decide_eq_false hlt] at k1
          obtain ⟨q4, q5⟩ := ln_end hm (by omega) hm1
          have he := fI_mg (z := z) (by omega) (by omega)
          have hX : lnX u = lnS m (fI z) := by unfold lnX; rw [q4, q5]
          rw [hX0] at hX
          obtain ⟨a, b, t, q, q7, p1, p1q, p2, p2q, p3, tp, y, el, ⟨c1, r1⟩, ⟨c2, r2⟩, ⟨c3, r3⟩, ⟨c4, r4⟩, ⟨c5, r5⟩, ⟨c6, r6⟩, ⟨c7, r7⟩, ⟨c8, r8⟩, ⟨c9, r9⟩, ⟨c10, r10⟩, ⟨c11, r11⟩, ⟨c12, r12⟩, ⟨c13, r13⟩, ⟨c14, r14⟩⟩ := lnS_steps (m := m) (e := fI z) ⟨by omega, by omega⟩ he
          generalize lnS m (fI z) = R at *
          unfold fI at c13 r13
          subst hX
          clear q4 q5 he hX0 hm hm1 hm2 hm3 hlt
          go_wp2_with (go_at_call 111; first | (refine (q1 _).mono ?_; rintro e w' ⟨rfl, hw⟩; rw [hw]; clear hw w') | (refine (q2 _).mono ?_; rintro e w' ⟨rfl, hw⟩; rw [hw]; clear hw w') | (refine (q3 _).mono ?_; rintro e w' ⟨rfl, hw⟩; rw [hw]; clear hw w'))
          go_ret
          exact ⟨rfl, n0, rfl⟩
set_option maxRecDepth 100000 in
set_option maxHeartbeats 1000000 in
theorem l03Exp_any (u : Nat) (hu : Nrm u 127 134) (w : World) :
    Calls Tryz.prog 195 #[.float .f32 u] w fun e w' => e = .returned (.float .f32 (exX u)) ∧ ∃ n, w' = w.drewN n := by
  have h1 := hu.lo (by omega)
  obtain ⟨v, a, p, b, q, c, ⟨c1, r1⟩, ⟨c2, r2⟩, ⟨c3, r3⟩, ⟨c4, r4⟩, ⟨c5, r5⟩, ⟨c6, r6⟩, ⟨c7, r7⟩⟩ := exP_steps hu
  have hp := exP_pge hu
  have hx := exX_step hu
  have q1 := fun w' => l03Ratio_any 6 1042983595 (by decide +kernel) w'
  generalize exX u = X at *
  generalize exP u = p0 at *
  go_enter Tryz.func195, Tryz.ntmps195
  go_wp2_with (go_at_call 111; first | (refine (q1 _).mono ?_; rintro e w' ⟨rfl, hw⟩; rw [hw]; clear hw w'))
  clear c1 r1 c2 r2 c3 r3 c4 r4 c5 r5 c6 r6 c7 r7
  go_loopw [4, 5] (fun y i wr => ∃ k : Nat, k ≤ 8 ∧ y = .float .f32 (sqN p0 k) ∧ i = .int .i64 k ∧ ∃ n, wr = w.drewN n) (fun _ i _ => 8 - (intOf i).toNat)
  case atStart => exact ⟨0, by omega, rfl, rfl, 0, rfl⟩
  case round =>
    obtain ⟨k, hk, rfl, rfl, n0, rfl⟩ := hrel
    have bk : (0 : Int) ≤ k := by omega
    by_cases hlt : k < 8
    · have bl : (k : Int) < 8 := by omega
      obtain ⟨o1, o2⟩ := sqN_step hp k
      go_wp2_with fail
      exact ⟨⟨k + 1, by omega, rfl, by go_num, n0, rfl⟩, by simp [intOf]; omega⟩
    · obtain rfl : k = 8 := by omega
      obtain ⟨c1, r1⟩ := hx
      go_wp2_with fail
      go_ret
      exact ⟨rfl, n0, rfl⟩
theorem kI : ∀ j : Nat, j < 8 → floatOfInt .f32 (8 - (j : Int)) = fI (8 - (j : Int)) := fun _ _ => rfl
set_option maxRecDepth 100000 in
set_option maxHeartbeats 1000000 in
theorem l03Well_any (u : Nat) (h1 : 562036736 ≤ u) (h2 : u ≤ 1117782016) (w : World) :
    Calls Tryz.prog 158 #[.float .f32 u] w fun e w' => e = .returned (.float .f32 (wfX u)) ∧ ∃ n, w' = w.drewN n := by
  have t3 := fle_eq u 1065353216
  rw [fle_norm (by omega) (by omega) (by omega) (by omega)] at t3
  by_cases hlow : u ≤ 1065353216
  · rw [decide_eq_true hlow] at t3
    have hln := fun w' => l03Ln_any u h1 (by omega) w'
    have hu : Mg u 127 := by unfold Mg; rw [Nat.mod_eq_of_lt (by omega)]; omega
    obtain ⟨a, x1, b, x2, c, x3, d, ⟨c1, r1⟩, ⟨c2, r2⟩, ⟨c3, r3⟩, ⟨c4, r4⟩, ⟨c5, r5⟩, ⟨c6, r6⟩, ⟨c7, r7⟩, ⟨c8, r8⟩⟩ := wfH_steps hu
    obtain ⟨y, z, ⟨c9, r9⟩, ⟨c10, r10⟩, ⟨c11, r11⟩⟩ := wfX_low h1 hlow
    obtain ⟨c12, r12⟩ := Opr.told (op := .sub) (a := 0) (b := 1058260072) (r := 3205743720) (by decide +kernel)
    have q1 := fun w' => l03Ratio_any 600 987395086 (by decide +kernel) w'
    have q2 := fun w' => l03Ratio_any 96 1009429163 (by decide +kernel) w'
    have q3 := fun w' => l03Ratio_any 18 1029934649 (by decide +kernel) w'
    have q4 := fun w' => l03Ratio_any 4 1048576000 (by decide +kernel) w'
    generalize wfX u = X at *
    generalize wfH u = H at *
    generalize lnX u = L at *
    go_enter Tryz.func158, Tryz.ntmps158
    go_wp2_with (first | (go_at_call 111; first | (refine (q1 _).mono ?_; rintro e w' ⟨rfl, hw⟩; rw [hw]; clear hw w') | (refine (q2 _).mono ?_; rintro e w' ⟨rfl, hw⟩; rw [hw]; clear hw w') | (refine (q3 _).mono ?_; rintro e w' ⟨rfl, hw⟩; rw [hw]; clear hw w') | (refine (q4 _).mono ?_; rintro e w' ⟨rfl, hw⟩; rw [hw]; clear hw w')) | (go_at_call 105; refine (hln _).mono ?_; rintro e w' ⟨rfl, n0, rfl⟩))
    go_ret
    exact ⟨rfl, n0, rfl⟩
  · rw [decide_eq_false hlow] at t3
    obtain ⟨hu, c1, r1⟩ := wfX_high (by omega) h2
    have hex := fun w' => l03Exp_any u hu w'
    have HS := Lib.hid fun k (hk : k < 8) => wfI_step hu hk
    generalize wfX u = X at *
    generalize exX u = E at *
    go_enter Tryz.func158, Tryz.ntmps158
    go_wp2_with fail
    clear t3
    go_loopw [6, 7] (fun f k wr => ∃ j : Nat, j ≤ 8 ∧ f = .float .f32 (wfI u j) ∧ k = .int .i64 (8 - (j : Int)) ∧ ∃ n, wr = w.drewN n) (fun f k _ => (intOf k).toNat)
    case atStart => exact ⟨0, by omega, rfl, rfl, 0, rfl⟩
    case round =>
      obtain ⟨j, hj, rfl, rfl, n0, rfl⟩ := hrel
      have bj : (0 : Int) ≤ j := by omega
      by_cases hlt : j < 8
      · have bl : (j : Int) < 8 := by omega
        obtain ⟨a, b, c, ⟨o1, o2⟩, ⟨o3, o4⟩, ⟨o5, o6⟩, ⟨o7, o8⟩⟩ := HS.out j hlt
        unfold fI at o1 o2 o5 o6
        go_wp2_with fail
        exact ⟨⟨j + 1, by omega, rfl, by go_num, n0, rfl⟩, by simp [intOf]; omega⟩
      · obtain rfl : j = 8 := by omega
        go_wp2_with (go_at_call 195; refine (hex _).mono ?_; rintro e w' ⟨rfl, n1, rfl⟩)
        go_ret
        exact ⟨rfl, _, rfl⟩
end Go.Proofs.YtglimhkpndfjgaaGreatDoor
/- The argument and the drawdown of a well: the reference's walks. -/
namespace Go.Proofs.YtglimhkpndfjgaaGreatDoor
open Go.ChangeShapes Go.WideShapes Go.ChangeAt Go.RowKit
set_option linter.unusedVariables false
set_option linter.unusedSimpArgs false
attribute [local irreducible] Calls
theorem sq_bd {d : Int} (h : -15 ≤ d ∧ d ≤ 15) : 0 ≤ d * d ∧ d * d ≤ 225 := by
  obtain ⟨a, rfl | rfl⟩ : ∃ a : Nat, d = a ∨ d = -(a : Int) := ⟨d.natAbs, by omega⟩
  · have : a ≤ 15 := by omega
    have := Nat.mul_le_mul this this
    rw [← Int.natCast_mul]; omega
  · have : a ≤ 15 := by omega
    have := Nat.mul_le_mul this this
    rw [Int.neg_mul_neg, ← Int.natCast_mul]; omega
set_option maxRecDepth 100000 in
set_option maxHeartbeats 1000000 in
theorem l03Argument_any (T S : Nat) (p : Wl) (x y : Int) (time : Nat) (h : Aq T S) (hp : (-100 ≤ p.px ∧ p.px ≤ 100) ∧ (-100 ≤ p.py ∧ p.py ≤ 100)) (hx : -15 ≤ x - p.px ∧ x - p.px ≤ 15) (hy : -15 ≤ y - p.py ∧ y - p.py ≤ 15) (h1 : 1 ≤ time) (h2 : time ≤ 100000) (w : World) :
    Calls Tryz.prog 78 #[.agg #[.float .f32 T, .float .f32 S], .agg p.cells, .int .i64 x, .int .i64 y, .int .i64 time] w fun e w' => e = .returned (.float .f32 (argV T S (x - p.px) (y - p.py) time)) ∧ Below w.heap.size w w' := by
  rw [p.cells_eq]
  have w1 : wrap64 p.px = p.px := by unfold wrap64; omega
  have w2 : wrap64 p.py = p.py := by unfold wrap64; omega
  have w3 : wrap64 (x - p.px) = x - p.px := by unfold wrap64; omega
  have w4 : wrap64 (y - p.py) = y - p.py := by unfold wrap64; omega
  have b1 := sq_bd hx
  have b2 := sq_bd hy
  have w5 : wrap64 ((x - p.px) * (x - p.px)) = (x - p.px) * (x - p.px) := by unfold wrap64; omega
  have w6 : wrap64 ((y - p.py) * (y - p.py)) = (y - p.py) * (y - p.py) := by unfold wrap64; omega
  have w7 : wrap64 ((x - p.px) * (x - p.px) + (y - p.py) * (y - p.py)) = (x - p.px) * (x - p.px) + (y - p.py) * (y - p.py) := by unfold wrap64; omega
  obtain ⟨c, d, f, ⟨c4, r4⟩, ⟨c5, r5⟩, ⟨c6, r6⟩, ⟨c7, r7⟩⟩ := argX_steps h hx hy h1 h2
  have hn := argX_nrm h hx hy h1 h2
  have t := flt_eq (argX T S (x - p.px) (y - p.py) time) 562036736
  rw [flt_norm (hn.lo (by omega)) (hn.hi (by omega)) (by omega) (by omega)] at t
  have hV : argV T S (x - p.px) (y - p.py) time = if argX T S (x - p.px) (y - p.py) time < 562036736 then 562036736 else argX T S (x - p.px) (y - p.py) time := rfl
  clear hn b1 b2
  generalize argV T S (x - p.px) (y - p.py) time = V at *
  generalize argX T S (x - p.px) (y - p.py) time = U at *
  unfold sqD at c4 r4
  unfold fI at *
  have hbel := below2 w (.cells #[.float .f32 T, .float .f32 S] 26) (.cells #[.int .i8 p.px, .int .i8 p.py, .float .f32 p.rt] 51)
  by_cases hz : x - p.px = 0 ∧ y - p.py = 0
  · rw [if_pos hz] at c4 r4
    obtain ⟨z1, z2⟩ := hz
    by_cases hl : U < 562036736
    · rw [decide_eq_true hl] at t
      rw [if_pos hl] at hV
      subst hV
      clear h hl
      go_enter Tryz.func78, Tryz.ntmps78
      go_wp2_with fail
      go_ret
      exact ⟨rfl, hbel⟩
    · rw [decide_eq_false hl] at t
      rw [if_neg hl] at hV
      subst hV
      clear h hl
      go_enter Tryz.func78, Tryz.ntmps78
      go_wp2_with fail
      go_ret
      exact ⟨rfl, hbel⟩
  · rw [if_neg hz] at c4 r4
    by_cases z1 : x - p.px = 0
    · have z2 : ¬ y - p.py = 0 := fun e => hz ⟨z1, e⟩
      simp only [z1, Int.mul_zero, Int.zero_mul, Int.zero_add] at c4 r4
      by_cases hl : U < 562036736
      · rw [decide_eq_true hl] at t
        rw [if_pos hl] at hV
        subst hV
        clear h hl hz
        go_enter Tryz.func78, Tryz.ntmps78
        go_wp2_with fail
        go_ret
        exact ⟨rfl, hbel⟩
      · rw [decide_eq_false hl] at t
        rw [if_neg hl] at hV
        subst hV
        clear h hl hz
        go_enter Tryz.func78, Tryz.ntmps78
        go_wp2_with fail
        go_ret
        exact ⟨rfl, hbel⟩
    · skip
      by_cases hl : U < 562036736
      · rw [decide_eq_true hl] at t
        rw [if_pos hl] at hV
        subst hV
        clear h hl hz
        go_enter Tryz.func78, Tryz.ntmps78
        go_wp2_with fail
        go_ret
        exact ⟨rfl, hbel⟩
      · rw [decide_eq_false hl] at t
        rw [if_neg hl] at hV
        subst hV
        clear h hl hz
        go_enter Tryz.func78, Tryz.ntmps78
        go_wp2_with fail
        go_ret
        exact ⟨rfl, hbel⟩
set_option maxRecDepth 100000 in
set_option maxHeartbeats 1000000 in
theorem l03Drawdown_any (T S : Nat) (p : Wl) (x y : Int) (time : Nat) (h : Aq T S) (hp : (-100 ≤ p.px ∧ p.px ≤ 100) ∧ (-100 ≤ p.py ∧ p.py ≤ 100)) (hR : Mg p.rt 147) (hx : -15 ≤ x - p.px ∧ x - p.px ≤ 15) (hy : -15 ≤ y - p.py ∧ y - p.py ≤ 15) (h1 : 1 ≤ time) (h2 : time ≤ 100000) (w : World) :
    Calls Tryz.prog 131 #[.agg #[.float .f32 T, .float .f32 S], .agg p.cells, .int .i64 x, .int .i64 y, .int .i64 time] w fun e w' => e = .returned (.float .f32 (ddX T S p.rt (x - p.px) (y - p.py) time)) ∧ Below w.heap.size w w' := by
  have harg := fun w' => l03Argument_any T S p x y time h hp hx hy h1 h2 w'
  have hv := argV_in h hx hy h1 h2
  have hst := ddX_steps h hR hx hy h1 h2
  have h0 : 1117782016 < argV T S (x - p.px) (y - p.py) time → ddX T S p.rt (x - p.px) (y - p.py) time = 0 := fun h => by unfold ddX; rw [if_pos h]
  generalize ddX T S p.rt (x - p.px) (y - p.py) time = D at *
  generalize argV T S (x - p.px) (y - p.py) time = V at *
  rw [p.cells_eq] at harg ⊢
  have t := fgt_eq V 1117782016
  rw [fgt_norm (by omega) (by omega) (by omega) (by omega)] at t
  have hbel := below2 w (.cells #[.float .f32 T, .float .f32 S] 26) (.cells #[.int .i8 p.px, .int .i8 p.py, .float .f32 p.rt] 51)
  by_cases hbig : 1117782016 < V
  · rw [decide_eq_true hbig] at t
    obtain rfl := h0 hbig
    clear hst h0 hv hbig
    go_enter Tryz.func131, Tryz.ntmps131
    go_wp2_with (go_at_call 78; refine (harg _).mono ?_; rintro e w1 ⟨rfl, hb1⟩)
    go_ret
    exact ⟨rfl, hbel.trans (hb1.mono hbel.size)⟩
  · rw [decide_eq_false hbig] at t
    obtain ⟨a, b, ⟨c1, r1⟩, ⟨c2, r2⟩, ⟨c3, r3⟩⟩ := hst (by omega)
    have hwf := fun w' => l03Well_any V hv.1 (by omega) w'
    generalize wfX V = F at *
    clear h0 hbig
    have hA : Blk ((w.alloc (.cells #[.float .f32 T, .float .f32 S] 26)).alloc (.cells #[.int .i8 p.px, .int .i8 p.py, .float .f32 p.rt] 51)) w.heap.size #[.float .f32 T, .float .f32 S] 26 := (Blk.new _ _ _).alloc _
    have hB : Blk ((w.alloc (.cells #[.float .f32 T, .float .f32 S] 26)).alloc (.cells #[.int .i8 p.px, .int .i8 p.py, .float .f32 p.rt] 51)) (w.heap.size + 1) #[.int .i8 p.px, .int .i8 p.py, .float .f32 p.rt] 51 := Blk.new1 _ _ _ _
    go_enter Tryz.func131, Tryz.ntmps131
    go_upto_region 1 with fail
    generalize (w.alloc (.cells #[.float .f32 T, .float .f32 S] 26)).alloc (.cells #[.int .i8 p.px, .int .i8 p.py, .float .f32 p.rt] 51) = W at *
    go_upto_region 2 with (first | (refine wpList_load_blk rfl rfl rfl rowAq hA rfl ?_) | (refine wpList_load_blk rfl rfl rfl rowWl hB rfl ?_) | (go_at_call 78; refine (harg _).mono ?_; rintro e w1 ⟨rfl, hb1⟩; replace hA := hA.below hb1 hA.lt; replace hB := hB.below hb1 hB.lt))
    have x1 : w1.cell? ⟨w.heap.size, 0, none⟩ = some (.float .f32 T) := hA.cell 0
    have x2 : w1.cell? ⟨w.heap.size + 1, 2, none⟩ = some (.float .f32 p.rt) := hB.cell 2
    go_wp2_with (go_at_call 158; refine (hwf _).mono ?_; rintro e w' ⟨rfl, n1, rfl⟩)
    go_ret
    exact ⟨rfl, below_drewN (hbel.trans (hb1.mono hbel.size)) _⟩
end Go.Proofs.YtglimhkpndfjgaaGreatDoor
/- Wells: what the reference asks of an aquifer, wells, a place and a time. -/
namespace Go.Proofs.YtglimhkpndfjgaaGreatDoor
open Go.ChangeShapes Go.WideShapes Go.ChangeAt Go.RowKit
set_option linter.unusedVariables false
set_option linter.unusedSimpArgs false
attribute [local irreducible] Calls
set_option maxRecDepth 100000 in
set_option maxHeartbeats 400000 in
theorem l03Aquifer_any (T S : Nat) (h : aqOk T S = true) (w : World) :
    Calls Tryz.prog 88 #[.agg #[.float .f32 T, .float .f32 S]] w fun e w' => e = .returned (.bool true) ∧ Below w.heap.size w w' := by
  unfold aqOk at h
  simp only [Bool.and_eq_true] at h
  obtain ⟨⟨⟨h1, h2⟩, h3⟩, h4⟩ := h
  have t1 := fge_eq T 981467136
  have t2 := fle_eq T 1233125376
  have t3 := fge_eq S 897581056
  have t4 := fle_eq S 1065353216
  rw [h1] at t1
  rw [h2] at t2
  rw [h3] at t3
  rw [h4] at t4
  clear h1 h2 h3 h4
  have q1 := fun w' => l03Ratio_any 1024 981467136 (by decide +kernel) w'
  have q2 := fun w' => l03Ratio_any 1048576 897581056 (by decide +kernel) w'
  have hbel := below1 w (.cells #[.float .f32 T, .float .f32 S] 26)
  have hA := Blk.new w #[.float .f32 T, .float .f32 S] 26
  go_enter Tryz.func88, Tryz.ntmps88
  go_upto_region 1 with fail
  generalize w.alloc (.cells #[.float .f32 T, .float .f32 S] 26) = W at *
  have x1 : W.cell? ⟨w.heap.size, 0, none⟩ = some (.float .f32 T) := hA.cell 0
  have x2 : W.cell? ⟨w.heap.size, 1, none⟩ = some (.float .f32 S) := hA.cell 1
  go_quiet ((go_at_call 111; first | exact Calls.quiet_of_same (q1 _) | exact Calls.quiet_of_same (q2 _)))
  go_wp2_with fail
  go_ret
  exact ⟨rfl, below_drewN hbel _⟩
set_option maxRecDepth 100000 in
set_option maxHeartbeats 400000 in
theorem l03Moment_any (n : Int) (h : 1 ≤ n ∧ n ≤ 100000) (w : World) :
    Calls Tryz.prog 130 #[.int .i64 n] w fun e w' => e = .returned (.bool true) ∧ w' = w := by
  have hin := fun w' => l00In_any n 1 100000 w'
  have e : (decide (1 ≤ n) && decide (n ≤ 100000)) = true := by simp; omega
  rw [e] at hin
  go_enter Tryz.func130, Tryz.ntmps130
  go_wp2_with (go_at_call 90; refine (hin _).mono ?_; rintro e w' ⟨rfl, hw⟩; rw [hw]; clear hw w')
  go_ret
  exact ⟨rfl, rfl⟩
set_option maxRecDepth 100000 in
set_option maxHeartbeats 400000 in
/-- What the reference asks of drawn wells is met. -/
theorem l03Asked_any (T S : Nat) (hA : aqOk T S = true) (n : Nat) (hn : n ≤ 12) (P : Nat → Wl) (hP : ∀ i, i < n → WlD (P i)) (v : Value) (x y time : Int) (hx : -100 ≤ x ∧ x ≤ 100) (hy : -100 ≤ y ∧ y ≤ 100) (ht : 1 ≤ time ∧ time ≤ 100000) (w : World) (hv : LSl w v n P) :
    Calls Tryz.prog 67 #[.agg #[.float .f32 T, .float .f32 S], v, .int .i64 x, .int .i64 y, .int .i64 time] w fun e w' => e = .returned (.int .i64 0) ∧ Below w.heap.size w w' := by
  have hA0 := Blk.new w #[.float .f32 T, .float .f32 S] 26
  have hbel := below1 w (.cells #[.float .f32 T, .float .f32 S] 26)
  have hv := hv.below hbel
  obtain ⟨a, c, rfl, hc1, hc2, hcell⟩ := hv
  unfold maxLen at hc2
  have hva := fun w' => l03Aquifer_any T S hA w'
  have hok : ∀ i, i < n → ∀ w', Calls Tryz.prog 128 #[.agg #[.int .i8 (P i).px, .int .i8 (P i).py, .float .f32 (P i).rt]] w' fun e w'' => e = .returned (.bool true) ∧ Below w'.heap.size w' w'' := fun i hi w' => by
    have h := l03Ok_any (P i).px (P i).py (P i).rt (hP i hi).ok.1 (hP i hi).ok.2.1 w'
    rw [(hP i hi).ok.2.2.1] at h
    exact h
  have HC := Lib.hid hcell
  have HOK := Lib.hid hok
  have hpx := fun w' => l03Place_any x w'
  have hpy := fun w' => l03Place_any y w'
  have hmo := fun w' => l03Moment_any time ht w'
  rw [show in100 x = true by unfold in100; simp; omega] at hpx
  rw [show in100 y = true by unfold in100; simp; omega] at hpy
  have bn : (n : Int) ≤ 12 := by omega
  clear hP hA hcell hok
  go_enter Tryz.func67, Tryz.ntmps67
  go_upto_region 1 with fail
  generalize w.alloc (.cells #[.float .f32 T, .float .f32 S] 26) = W at *
  go_upto_region 2 with (first | (refine wpList_load_blk rfl rfl rfl rowAq hA0 rfl ?_) | (go_at_call 88; refine (hva _).mono ?_; rintro e w1 ⟨rfl, hb1⟩))
  clear hva hA0
  go_wp2_with fail
  go_loopw [11, 12] (fun o i wr => ∃ k : Nat, k ≤ n ∧ o = .bool true ∧ i = .int .i64 k ∧ Below W.heap.size W wr) (fun _ i _ => n - (intOf i).toNat)
  case atStart => exact ⟨0, by omega, rfl, rfl, hb1⟩
  case round =>
    clear hb1
    obtain ⟨k, hk, rfl, rfl, hbW⟩ := hrel
    have bk : (0 : Int) ≤ k := by omega
    by_cases hlt : k < n
    · have bl : (k : Int) < n := by omega
      obtain ⟨b, o, rfl, hb, hcell⟩ := HC.out.resolve_left (by omega)
      have e0 : wr.cell? ⟨b, o + k * 3, none⟩ = some (.int .i8 (P k).px) := (hbW.cell (p := ⟨b, _, none⟩) hb).trans ((hcell k 0 hlt (by omega)).trans (P k).get0)
      have e1 : wr.cell? ⟨b, o + k * 3 + 1, none⟩ = some (.int .i8 (P k).py) := (hbW.cell (p := ⟨b, _, none⟩) hb).trans ((hcell k 1 hlt (by omega)).trans (P k).get1)
      have e2 : wr.cell? ⟨b, o + k * 3 + 2, none⟩ = some (.float .f32 (P k).rt) := (hbW.cell (p := ⟨b, _, none⟩) hb).trans ((hcell k 2 hlt (by omega)).trans (P k).get2)
      have hd := HOK.out k hlt
      clear hcell
      go_wp2_with (go_at_call 128; refine (hd _).mono ?_; rintro e w4 ⟨rfl, hb4⟩)
      go_roundw
      case rel => exact ⟨k + 1, by omega, rfl, by go_num, hbW.trans (hb4.mono hbW.size)⟩
      case measure => simp [intOf]; omega
    · obtain rfl : k = n := by omega
      go_wp2_with (first | (go_at_call 129; first | (refine (hpx _).mono ?_; rintro e w' ⟨rfl, hw⟩; rw [hw]; clear hw w' hpx) | (refine (hpy _).mono ?_; rintro e w' ⟨rfl, hw⟩; rw [hw]; clear hw w')) | (go_at_call 130; refine (hmo _).mono ?_; rintro e w' ⟨rfl, hw⟩; rw [hw]; clear hw w'))
      go_ret
      exact ⟨rfl, hbel.trans (hbW.mono hbel.size)⟩
end Go.Proofs.YtglimhkpndfjgaaGreatDoor
