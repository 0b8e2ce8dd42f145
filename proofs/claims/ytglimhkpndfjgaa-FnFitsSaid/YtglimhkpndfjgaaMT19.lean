import Derived.Test.YtglimhkpndfjgaaMT12
import Derived.Test.YtglimhkpndfjgaaMT16
import Derived.Test.YtglimhkpndfjgaaMT18
import Derived.Test.YtglimhkpndfjgaaMT02
import Derived.Test.YtglimhkpndfjgaaMT10
import Derived.Test.YtglimhkpndfjgaaMT07
import Derived.Test.YtglimhkpndfjgaaMT06
import Derived.Test.YtglimhkpndfjgaaMT08
import Derived.Test.YtglimhkpndfjgaaMT14
/- The wells' series: the reference's walks. -/
namespace Go.Proofs.Ytglimhkpndfjgaa
open Go.ChangeShapes Go.WideShapes Go.ChangeAt Go.RowKit
set_option linter.unusedVariables false
set_option linter.unusedSimpArgs false
attribute [local irreducible] Calls
set_option maxRecDepth 100000 in
theorem l03Ratio_any (n : Int) (c : Nat) (h : floatBits .quo .f32 (floatOfInt .f32 1) (floatOfInt .f32 n) = some c) (w : World) : Calls Try.prog 55 #[.int .i64 1, .int .i64 n] w fun e w' => e = .returned (.float .f32 c) ∧ w' = w := by
  obtain ⟨c1, r1⟩ := Opr.told h
  go_enter Try.func55, Try.ntmps55
  go_wp2_with fail
  go_ret
  exact ⟨rfl, rfl⟩
set_option maxRecDepth 100000 in
set_option maxHeartbeats 1000000 in
theorem l03Ln_any (u : Nat) (h1 : 562036736 ≤ u) (h2 : u ≤ 1568669696) (w : World) :
    Calls Try.prog 80 #[.float .f32 u] w fun e w' => e = .returned (.float .f32 (lnX u)) ∧ ∃ n, w' = w.drewN n := by
  obtain ⟨X, hX0⟩ : ∃ X, lnX u = X := ⟨_, rfl⟩
  rw [hX0]
  have q1 := fun w' => l03Ratio_any 7 1041385765 (by decide +kernel) w'
  have q2 := fun w' => l03Ratio_any 5 1045220557 (by decide +kernel) w'
  have q3 := fun w' => l03Ratio_any 3 1051372203 (by decide +kernel) w'
  go_enter Try.func80, Try.ntmps80
  go_wp2_with fail
  go_loopw [3, 4] (fun y e wr => ∃ (m : Nat) (z : Int), y = .float .f32 m ∧ e = .int .i64 z ∧ (m : Int) = (u : Int) - z * 8388608 ∧ 0 ≤ z ∧ (z = 0 ∨ 1061158912 ≤ m) ∧ ∃ n, wr = w.drewN n) (fun y _ _ => (match y with | .float _ m => m | _ => 0))
  case atStart => exact ⟨u, 0, rfl, rfl, by omega, by omega, .inl rfl, 0, rfl⟩
  case round =>
    obtain ⟨m, z, rfl, rfl, hm, hz, hm2, n0, rfl⟩ := hrel
    have k1 := fge_eq m 1069547520
    rw [fge_norm (by omega) (by omega) (by omega) (by omega)] at k1
    by_cases hlt : 1069547520 ≤ m
    · rw [decide_eq_true hlt] at k1
      obtain ⟨o1, o2⟩ := opr_half (m := m) (by omega) (by omega)
      have z1 : z < 100 := by omega
      go_wp2_with fail
      exact ⟨⟨m - 8388608, z + 1, rfl, by go_num, by omega, by omega, .inr (by omega), n0, rfl⟩, by show m - 8388608 < m; omega⟩
    · rw [decide_eq_false hlt] at k1
      go_wp2_with fail
      clear k1
      go_loopw [3, 4] (fun y e wr => ∃ (m : Nat) (z : Int), y = .float .f32 m ∧ e = .int .i64 z ∧ (m : Int) = (u : Int) - z * 8388608 ∧ m < 1069547520 ∧ (0 < z → 1061158912 ≤ m) ∧ 562036736 ≤ m ∧ ∃ n, wr = w.drewN n) (fun y _ _ => (match y with | .float _ m => 1069547520 - m | _ => 0))
      case atStart => exact ⟨m, z, rfl, rfl, hm, by omega, by omega, by omega, n0, rfl⟩
      case round =>
        clear hm hz hm2 hlt
        obtain ⟨m, z, rfl, rfl, hm, hm1, hm2, hm3, n0, rfl⟩ := hrel
        have k1 := flt_eq m 1061158912
        rw [flt_norm (by omega) (by omega) (by omega) (by omega)] at k1
        by_cases hlt : m < 1061158912
        · rw [decide_eq_true hlt] at k1
          obtain ⟨o1, o2⟩ := opr_twice (m := m) (by omega) (by omega)
          have z1 : -100 < z ∧ z < 100 := by omega
          go_wp2_with fail
          exact ⟨⟨m + 8388608, z - 1, rfl, by go_num, by omega, by omega, by omega, by omega, n0, rfl⟩, by show 1069547520 - (m + 8388608) < 1069547520 - m; omega⟩
        · rw [decide_eq_false hlt] at k1
          obtain ⟨q4, q5⟩ := ln_end hm (by omega) hm1
          have he := fI_mg (z := z) (by omega) (by omega)
          have hX : lnX u = lnS m (fI z) := by unfold lnX; rw [q4, q5]
          rw [hX0] at hX
          obtain ⟨a, b, t, q, q7, p1, p1q, p2, p2q, p3, tp, y, el, ⟨c1, r1⟩, ⟨c2, r2⟩, ⟨c3, r3⟩, ⟨c4, r4⟩, ⟨c5, r5⟩, ⟨c6, r6⟩, ⟨c7, r7⟩, ⟨c8, r8⟩, ⟨c9, r9⟩, ⟨c10, r10⟩, ⟨c11, r11⟩, ⟨c12, r12⟩, ⟨c13, r13⟩, ⟨c14, r14⟩⟩ := lnS_steps (m := m) (e := fI z) ⟨by omega, by omega⟩ he
          generalize lnS m (fI z) = R at *
          unfold fI at c13 r13
          subst hX
          clear q4 q5 he hX0 hm hm1 hm2 hm3 hlt
          go_wp2_with (go_at_call 55; first | (refine (q1 _).mono ?_; rintro e w' ⟨rfl, hw⟩; rw [hw]; clear hw w') | (refine (q2 _).mono ?_; rintro e w' ⟨rfl, hw⟩; rw [hw]; clear hw w') | (refine (q3 _).mono ?_; rintro e w' ⟨rfl, hw⟩; rw [hw]; clear hw w'))
          go_ret
          exact ⟨rfl, n0, rfl⟩
set_option maxRecDepth 100000 in
set_option maxHeartbeats 1000000 in
theorem l03Exp_any (u : Nat) (hu : Nrm u 127 134) (w : World) :
    Calls Try.prog 81 #[.float .f32 u] w fun e w' => e = .returned (.float .f32 (exX u)) ∧ ∃ n, w' = w.drewN n := by
  have h1 := hu.lo (by omega)
  obtain ⟨v, a, p, b, q, c, ⟨c1, r1⟩, ⟨c2, r2⟩, ⟨c3, r3⟩, ⟨c4, r4⟩, ⟨c5, r5⟩, ⟨c6, r6⟩, ⟨c7, r7⟩⟩ := exP_steps hu
  have hp := exP_pge hu
  have hx := exX_step hu
  have q1 := fun w' => l03Ratio_any 6 1042983595 (by decide +kernel) w'
  generalize exX u = X at *
  generalize exP u = p0 at *
  go_enter Try.func81, Try.ntmps81
  go_wp2_with (go_at_call 55; first | (refine (q1 _).mono ?_; rintro e w' ⟨rfl, hw⟩; rw [hw]; clear hw w'))
  clear c1 r1 c2 r2 c3 r3 c4 r4 c5 r5 c6 r6 c7 r7
  go_loopw [4, 5] (fun y i wr => ∃ k : Nat, k ≤ 8 ∧ y = .float .f32 (sqN p0 k) ∧ i = .int .i64 k ∧ ∃ n, wr = w.drewN n) (fun _ i _ => 8 - (intOf i).toNat)
  case atStart => exact ⟨0, by omega, rfl, rfl, 0, rfl⟩
  case round =>
    obtain ⟨k, hk, rfl, rfl, n0, rfl⟩ := hrel
    have bk : (0 : Int) ≤ k := by omega
    by_cases hlt : k < 8
    · have bl : (k : Int) < 8 := by omega
      obtain ⟨o1, o2⟩ := sqN_step hp k
      go_wp2_with fail
      exact ⟨⟨k + 1, by omega, rfl, by go_num, n0, rfl⟩, by simp [intOf]; omega⟩
    · obtain rfl : k = 8 := by omega
      obtain ⟨c1, r1⟩ := hx
      go_wp2_with fail
      go_ret
      exact ⟨rfl, n0, rfl⟩
theorem kI : ∀ j : Nat, j < 8 → floatOfInt .f32 (8 - (j : Int)) = fI (8 - (j : Int)) := fun _ _ => rfl
set_option maxRecDepth 100000 in
set_option maxHeartbeats 1000000 in
theorem l03Well_any (u : Nat) (h1 : 562036736 ≤ u) (h2 : u ≤ 1117782016) (w : World) :
    Calls Try.prog 73 #[.float .f32 u] w fun e w' => e = .returned (.float .f32 (wfX u)) ∧ ∃ n, w' = w.drewN n := by
  have t3 := fle_eq u 1065353216
  rw [fle_norm (by omega) (by omega) (by omega) (by omega)] at t3
  by_cases hlow : u ≤ 1065353216
  · rw [decide_eq_true hlow] at t3
    have hln := fun w' => l03Ln_any u h1 (by omega) w'
    have hu : Mg u 127 := by unfold Mg; rw [Nat.mod_eq_of_lt (by omega)]; omega
    obtain ⟨a, x1, b, x2, c, x3, d, ⟨c1, r1⟩, ⟨c2, r2⟩, ⟨c3, r3⟩, ⟨c4, r4⟩, ⟨c5, r5⟩, ⟨c6, r6⟩, ⟨c7, r7⟩, ⟨c8, r8⟩⟩ := wfH_steps hu
    obtain ⟨y, z, ⟨c9, r9⟩, ⟨c10, r10⟩, ⟨c11, r11⟩⟩ := wfX_low h1 hlow
    obtain ⟨c12, r12⟩ := Opr.told (op := .sub) (a := 0) (b := 1058260072) (r := 3205743720) (by decide +kernel)
    have q1 := fun w' => l03Ratio_any 600 987395086 (by decide +kernel) w'
    have q2 := fun w' => l03Ratio_any 96 1009429163 (by decide +kernel) w'
    have q3 := fun w' => l03Ratio_any 18 1029934649 (by decide +kernel) w'
    have q4 := fun w' => l03Ratio_any 4 1048576000 (by decide +kernel) w'
    generalize wfX u = X at *
    generalize wfH u = H at *
    generalize lnX u = L at *
    go_enter Try.func73, Try.ntmps73
    go_wp2_with (first | (go_at_call 55; first | (refine (q1 _).mono ?_; rintro e w' ⟨rfl, hw⟩; rw [hw]; clear hw w') | (refine (q2 _).mono ?_; rintro e w' ⟨rfl, hw⟩; rw [hw]; clear hw w') | (refine (q3 _).mono ?_; rintro e w' ⟨rfl, hw⟩; rw [hw]; clear hw w') | (refine (q4 _).mono ?_; rintro e w' ⟨rfl, hw⟩; rw [hw]; clear hw w')) | (go_at_call 80; refine (hln _).mono ?_; rintro e w' ⟨rfl, n0, rfl⟩))
    go_ret
    exact ⟨rfl, n0, rfl⟩
  · rw [decide_eq_false hlow] at t3
    obtain ⟨hu, c1, r1⟩ := wfX_high (by omega) h2
    have hex := fun w' => l03Exp_any u hu w'
    have HS := Lib.hid fun k (hk : k < 8) => wfI_step hu hk
    generalize wfX u = X at *
    generalize exX u = E at *
    go_enter Try.func73, Try.ntmps73
    go_wp2_with fail
    clear t3
    go_loopw [6, 7] (fun f k wr => ∃ j : Nat, j ≤ 8 ∧ f = .float .f32 (wfI u j) ∧ k = .int .i64 (8 - (j : Int)) ∧ ∃ n, wr = w.drewN n) (fun f k _ => (intOf k).toNat)
    case atStart => exact ⟨0, by omega, rfl, rfl, 0, rfl⟩
    case round =>
      obtain ⟨j, hj, rfl, rfl, n0, rfl⟩ := hrel
      have bj : (0 : Int) ≤ j := by omega
      by_cases hlt : j < 8
      · have bl : (j : Int) < 8 := by omega
        obtain ⟨a, b, c, ⟨o1, o2⟩, ⟨o3, o4⟩, ⟨o5, o6⟩, ⟨o7, o8⟩⟩ := HS.out j hlt
        unfold fI at o1 o2 o5 o6
        go_wp2_with fail
        exact ⟨⟨j + 1, by omega, rfl, by go_num, n0, rfl⟩, by simp [intOf]; omega⟩
      · obtain rfl : j = 8 := by omega
        go_wp2_with (go_at_call 81; refine (hex _).mono ?_; rintro e w' ⟨rfl, n1, rfl⟩)
        go_ret
        exact ⟨rfl, _, rfl⟩
end Go.Proofs.Ytglimhkpndfjgaa
/- The argument and the drawdown of a well: the reference's walks. -/
namespace Go.Proofs.Ytglimhkpndfjgaa
open Go.ChangeShapes Go.WideShapes Go.ChangeAt Go.RowKit
set_option linter.unusedVariables false
set_option linter.unusedSimpArgs false
attribute [local irreducible] Calls
theorem sq_bd {d : Int} (h : -15 ≤ d ∧ d ≤ 15) : 0 ≤ d * d ∧ d * d ≤ 225 := by
  obtain ⟨a, rfl | rfl⟩ : ∃ a : Nat, d = a ∨ d = -(a : Int) := ⟨d.natAbs, by omega⟩
  · have : a ≤ 15 := by omega
    have := Nat.mul_le_mul this this
    rw [← Int.natCast_mul]; omega
  · have : a ≤ 15 := by omega
    have := Nat.mul_le_mul this this
    rw [Int.neg_mul_neg, ← Int.natCast_mul]; omega
set_option maxRecDepth 100000 in
set_option maxHeartbeats 1000000 in
theorem l03Argument_any (T S : Nat) (p : Wl) (x y : Int) (time : Nat) (h : Aq T S) (hp : (-100 ≤ p.px ∧ p.px ≤ 100) ∧ (-100 ≤ p.py ∧ p.py ≤ 100)) (hx : -15 ≤ x - p.px ∧ x - p.px ≤ 15) (hy : -15 ≤ y - p.py ∧ y - p.py ≤ 15) (h1 : 1 ≤ time) (h2 : time ≤ 100000) (w : World) :
    Calls Try.prog 72 #[.agg #[.float .f32 T, .float .f32 S], .agg p.cells, .int .i64 x, .int .i64 y, .int .i64 time] w fun e w' => e = .returned (.float .f32 (argV T S (x - p.px) (y - p.py) time)) ∧ Below w.heap.size w w' := by
  rw [p.cells_eq]
  have w1 : wrap64 p.px = p.px := by unfold wrap64; omega
  have w2 : wrap64 p.py = p.py := by unfold wrap64; omega
  have w3 : wrap64 (x - p.px) = x - p.px := by unfold wrap64; omega
  have w4 : wrap64 (y - p.py) = y - p.py := by unfold wrap64; omega
  have b1 := sq_bd hx
  have b2 := sq_bd hy
  have w5 : wrap64 ((x - p.px) * (x - p.px)) = (x - p.px) * (x - p.px) := by unfold wrap64; omega
  have w6 : wrap64 ((y - p.py) * (y - p.py)) = (y - p.py) * (y - p.py) := by unfold wrap64; omega
  have w7 : wrap64 ((x - p.px) * (x - p.px) + (y - p.py) * (y - p.py)) = (x - p.px) * (x - p.px) + (y - p.py) * (y - p.py) := by unfold wrap64; omega
  obtain ⟨c, d, f, ⟨c4, r4⟩, ⟨c5, r5⟩, ⟨c6, r6⟩, ⟨c7, r7⟩⟩ := argX_steps h hx hy h1 h2
  have hn := argX_nrm h hx hy h1 h2
  have t := flt_eq (argX T S (x - p.px) (y - p.py) time) 562036736
  rw [flt_norm (hn.lo (by omega)) (hn.hi (by omega)) (by omega) (by omega)] at t
  have hV : argV T S (x - p.px) (y - p.py) time = if argX T S (x - p.px) (y - p.py) time < 562036736 then 562036736 else argX T S (x - p.px) (y - p.py) time := rfl
  clear hn b1 b2
  generalize argV T S (x - p.px) (y - p.py) time = V at *
  generalize argX T S (x - p.px) (y - p.py) time = U at *
  unfold sqD at c4 r4
  unfold fI at *
  have hbel := below2 w (.cells #[.float .f32 T, .float .f32 S] 26) (.cells #[.int .i8 p.px, .int .i8 p.py, .float .f32 p.rt] 30)
  by_cases hz : x - p.px = 0 ∧ y - p.py = 0
  · rw [if_pos hz] at c4 r4
    obtain ⟨z1, z2⟩ := hz
    by_cases hl : U < 562036736
    · rw [decide_eq_true hl] at t
      rw [if_pos hl] at hV
      subst hV
      clear h hl
      go_enter Try.func72, Try.ntmps72
      go_wp2_with fail
      go_ret
      exact ⟨rfl, hbel⟩
    · rw [decide_eq_false hl] at t
      rw [if_neg hl] at hV
      subst hV
      clear h hl
      go_enter Try.func72, Try.ntmps72
      go_wp2_with fail
      go_ret
      exact ⟨rfl, hbel⟩
  · rw [if_neg hz] at c4 r4
    by_cases z1 : x - p.px = 0
    · have z2 : ¬ y - p.py = 0 := fun e => hz ⟨z1, e⟩
      simp only [z1, Int.mul_zero, Int.zero_mul, Int.zero_add] at c4 r4
      by_cases hl : U < 562036736
      · rw [decide_eq_true hl] at t
        rw [if_pos hl] at hV
        subst hV
        clear h hl hz
        go_enter Try.func72, Try.ntmps72
        go_wp2_with fail
        go_ret
        exact ⟨rfl, hbel⟩
      · rw [decide_eq_false hl] at t
        rw [if_neg hl] at hV
        subst hV
        clear h hl hz
        go_enter Try.func72, Try.ntmps72
        go_wp2_with fail
        go_ret
        exact ⟨rfl, hbel⟩
    · skip
      by_cases hl : U < 562036736
      · rw [decide_eq_true hl] at t
        rw [if_pos hl] at hV
        subst hV
        clear h hl hz
        go_enter Try.func72, Try.ntmps72
        go_wp2_with fail
        go_ret
        exact ⟨rfl, hbel⟩
      · rw [decide_eq_false hl] at t
        rw [if_neg hl] at hV
        subst hV
        clear h hl hz
        go_enter Try.func72, Try.ntmps72
        go_wp2_with fail
        go_ret
        exact ⟨rfl, hbel⟩
set_option maxRecDepth 100000 in
set_option maxHeartbeats 1000000 in
theorem l03Drawdown_any (T S : Nat) (p : Wl) (x y : Int) (time : Nat) (h : Aq T S) (hp : (-100 ≤ p.px ∧ p.px ≤ 100) ∧ (-100 ≤ p.py ∧ p.py ≤ 100)) (hR : Mg p.rt 147) (hx : -15 ≤ x - p.px ∧ x - p.px ≤ 15) (hy : -15 ≤ y - p.py ∧ y - p.py ≤ 15) (h1 : 1 ≤ time) (h2 : time ≤ 100000) (w : World) :
    Calls Try.prog 58 #[.agg #[.float .f32 T, .float .f32 S], .agg p.cells, .int .i64 x, .int .i64 y, .int .i64 time] w fun e w' => e = .returned (.float .f32 (ddX T S p.rt (x - p.px) (y - p.py) time)) ∧ Below w.heap.size w w' := by
  have harg := fun w' => l03Argument_any T S p x y time h hp hx hy h1 h2 w'
  have hv := argV_in h hx hy h1 h2
  have hst := ddX_steps h hR hx hy h1 h2
  have h0 : 1117782016 < argV T S (x - p.px) (y - p.py) time → ddX T S p.rt (x - p.px) (y - p.py) time = 0 := fun h => by unfold ddX; rw [if_pos h]
  generalize ddX T S p.rt (x - p.px) (y - p.py) time = D at *
  generalize argV T S (x - p.px) (y - p.py) time = V at *
  rw [p.cells_eq] at harg ⊢
  have t := fgt_eq V 1117782016
  rw [fgt_norm (by omega) (by omega) (by omega) (by omega)] at t
  have hbel := below2 w (.cells #[.float .f32 T, .float .f32 S] 26) (.cells #[.int .i8 p.px, .int .i8 p.py, .float .f32 p.rt] 30)
  by_cases hbig : 1117782016 < V
  · rw [decide_eq_true hbig] at t
    obtain rfl := h0 hbig
    clear hst h0 hv hbig
    go_enter Try.func58, Try.ntmps58
    go_wp2_with (go_at_call 72; refine (harg _).mono ?_; rintro e w1 ⟨rfl, hb1⟩)
    go_ret
    exact ⟨rfl, hbel.trans (hb1.mono hbel.size)⟩
  · rw [decide_eq_false hbig] at t
    obtain ⟨a, b, ⟨c1, r1⟩, ⟨c2, r2⟩, ⟨c3, r3⟩⟩ := hst (by omega)
    have hwf := fun w' => l03Well_any V hv.1 (by omega) w'
    generalize wfX V = F at *
    clear h0 hbig
    have hA : Blk ((w.alloc (.cells #[.float .f32 T, .float .f32 S] 26)).alloc (.cells #[.int .i8 p.px, .int .i8 p.py, .float .f32 p.rt] 30)) w.heap.size #[.float .f32 T, .float .f32 S] 26 := (Blk.new _ _ _).alloc _
    have hB : Blk ((w.alloc (.cells #[.float .f32 T, .float .f32 S] 26)).alloc (.cells #[.int .i8 p.px, .int .i8 p.py, .float .f32 p.rt] 30)) (w.heap.size + 1) #[.int .i8 p.px, .int .i8 p.py, .float .f32 p.rt] 30 := Blk.new1 _ _ _ _
    go_enter Try.func58, Try.ntmps58
    go_upto_region 1 with fail
    generalize (w.alloc (.cells #[.float .f32 T, .float .f32 S] 26)).alloc (.cells #[.int .i8 p.px, .int .i8 p.py, .float .f32 p.rt] 30) = W at *
    go_upto_region 2 with (first | (refine wpList_load_blk rfl rfl rfl rowAq hA rfl ?_) | (refine wpList_load_blk rfl rfl rfl rowWl hB rfl ?_) | (go_at_call 72; refine (harg _).mono ?_; rintro e w1 ⟨rfl, hb1⟩; replace hA := hA.below hb1 hA.lt; replace hB := hB.below hb1 hB.lt))
    have x1 : w1.cell? ⟨w.heap.size, 0, none⟩ = some (.float .f32 T) := hA.cell 0
    have x2 : w1.cell? ⟨w.heap.size + 1, 2, none⟩ = some (.float .f32 p.rt) := hB.cell 2
    go_wp2_with (go_at_call 73; refine (hwf _).mono ?_; rintro e w' ⟨rfl, n1, rfl⟩)
    go_ret
    exact ⟨rfl, below_drewN (hbel.trans (hb1.mono hbel.size)) _⟩
end Go.Proofs.Ytglimhkpndfjgaa
/- Wells: what the reference asks of an aquifer, wells, a place and a time. -/
namespace Go.Proofs.Ytglimhkpndfjgaa
open Go.ChangeShapes Go.WideShapes Go.ChangeAt Go.RowKit
set_option linter.unusedVariables false
set_option linter.unusedSimpArgs false
attribute [local irreducible] Calls
set_option maxRecDepth 100000 in
set_option maxHeartbeats 400000 in
theorem l03Aquifer_any (T S : Nat) (h : aqOk T S = true) (w : World) :
    Calls Try.prog 28 #[.agg #[.float .f32 T, .float .f32 S]] w fun e w' => e = .returned (.bool true) ∧ Below w.heap.size w w' := by
  unfold aqOk at h
  simp only [Bool.and_eq_true] at h
  obtain ⟨⟨⟨h1, h2⟩, h3⟩, h4⟩ := h
  have t1 := fge_eq T 981467136
  have t2 := fle_eq T 1233125376
  have t3 := fge_eq S 897581056
  have t4 := fle_eq S 1065353216
  rw [h1] at t1
  rw [h2] at t2
  rw [h3] at t3
  rw [h4] at t4
  clear h1 h2 h3 h4
  have q1 := fun w' => l03Ratio_any 1024 981467136 (by decide +kernel) w'
  have q2 := fun w' => l03Ratio_any 1048576 897581056 (by decide +kernel) w'
  have hbel := below1 w (.cells #[.float .f32 T, .float .f32 S] 26)
  have hA := Blk.new w #[.float .f32 T, .float .f32 S] 26
  go_enter Try.func28, Try.ntmps28
  go_upto_region 1 with fail
  generalize w.alloc (.cells #[.float .f32 T, .float .f32 S] 26) = W at *
  have x1 : W.cell? ⟨w.heap.size, 0, none⟩ = some (.float .f32 T) := hA.cell 0
  have x2 : W.cell? ⟨w.heap.size, 1, none⟩ = some (.float .f32 S) := hA.cell 1
  go_quiet ((go_at_call 55; first | exact Calls.quiet_of_same (q1 _) | exact Calls.quiet_of_same (q2 _)))
  go_wp2_with fail
  go_ret
  exact ⟨rfl, below_drewN hbel _⟩
end Go.Proofs.Ytglimhkpndfjgaa
/- The lists of drawdowns: the reference's walk. -/
namespace Go.Proofs.Ytglimhkpndfjgaa
open Go.ChangeShapes Go.WideShapes Go.ChangeAt Go.RowKit
set_option linter.unusedVariables false
set_option linter.unusedSimpArgs false
attribute [local irreducible] Calls
theorem below_cell {w w' : World} {B b i : Nat} {v : Value} (h : Below B w w') (hb : b < B) (c : w.cell? ⟨b, i, none⟩ = some v) : w'.cell? ⟨b, i, none⟩ = some v := (h.cell (p := ⟨b, i, none⟩) hb).trans c
theorem load_well3 {ev : Operand → Value} {w : World} {x : Operand} {b o : Nat} {u v : Int} {r : Nat} {pos : String} {dst : Option Tmp} {tt : TypeId} {af : Array Edge} {gd : Option (Nat × Bool)} (hx : ev x = .pointer (some ⟨b, o, none⟩)) (c0 : w.cell? ⟨b, o, none⟩ = some (.int .i8 u)) (c1 : w.cell? ⟨b, o + 1, none⟩ = some (.int .i8 v)) (c2 : w.cell? ⟨b, o + 2, none⟩ = some (.float .f32 r)) : (execOp ev { dst := dst, op := .load 30 x, type := tt, pos := pos, after := af, guard := gd }).run Try.prog w = .ok (.value (.agg #[.int .i8 u, .int .i8 v, .float .f32 r])) w := by
  simp [execOp, hx, go_sem, c0, c1, c2]
end Go.Proofs.Ytglimhkpndfjgaa
/- Drawdowns, sums, arguments, recovery: the program's answers. -/
namespace Go.Proofs.Ytglimhkpndfjgaa
open Go.ChangeShapes Go.WideShapes Go.ChangeAt Go.RowKit
set_option linter.unusedVariables false
set_option linter.unusedSimpArgs false
attribute [local irreducible] Calls
theorem isl_one {w : World} {q : Nat} {t : Int} {T : TypeId} (h : Blk w q #[.int .i64 t] T) : ISl w (.slice (some ⟨q, 0, none⟩) 1 1) 1 (fun _ => t) :=
  ⟨_, 1, rfl, Nat.le_refl _, by unfold maxLen; omega, .inr ⟨q, 0, rfl, h.lt, fun i hi => by
    obtain rfl : i = 0 := by omega
    exact h.cell 0⟩⟩
theorem isl_two {w : World} {q : Nat} {t s : Int} {T : TypeId} (h : Blk w q #[.int .i64 t, .int .i64 s] T) : ISl w (.slice (some ⟨q, 0, none⟩) 2 2) 2 (fun i => if i = 0 then t else s) :=
  ⟨_, 2, rfl, Nat.le_refl _, by unfold maxLen; omega, .inr ⟨q, 0, rfl, h.lt, fun i hi => by
    obtain rfl | rfl : i = 0 ∨ i = 1 := by omega
    · exact h.cell 0
    · exact h.cell 1⟩⟩
theorem lsl_one {w : World} {q : Nat} {p : Wl} {T : TypeId} (h : Blk w q #[.int .i8 p.px, .int .i8 p.py, .float .f32 p.rt] T) : LSl w (.slice (some ⟨q, 0, none⟩) 1 1) 1 (fun _ => p) :=
  ⟨_, 1, rfl, Nat.le_refl _, by unfold maxLen; omega, .inr ⟨q, 0, rfl, h.lt, fun i c hi hc => by
    obtain rfl : i = 0 := by omega
    have := h.cell c
    rw [p.cells_eq]
    simpa using this⟩⟩
/-- What lists of drawdowns are told with. -/
def GotDt (w : World) (n : Nat) (F : Nat → Nat) (e : Ending) (w' : World) : Prop := ∃ (v : Value) (g : Nat), e = .returned (.tuple #[v, .int .i64 0]) ∧ w.heap.size ≤ g ∧ Own w' g 24 1 v n (fls n F) ∧ Below w.heap.size w w'
/-- The sum of drawdowns. -/
def sumF (T S : Nat) (P : Nat → Wl) (n : Nat) (x y : Int) (time : Nat) : Nat := fsumTo (ddF T S P x y time) n
theorem ddF_mg {T S : Nat} (hA : Aq T S) {n : Nat} {P : Nat → Wl} (hP : ∀ i, i < n → WlD (P i)) {x y : Int} (hx : 0 ≤ x ∧ x ≤ 7) (hy : 0 ≤ y ∧ y ≤ 7) {time : Nat} (h1 : 1 ≤ time) (h2 : time ≤ 100000) : ∀ i, i < n → Mg (ddF T S P x y time i) 240 := fun i hi => by
  have h := hP i hi
  exact ddX_mg hA h.mg (by have := h.1; omega) (by have := h.2.1; omega) h1 h2
set_option maxRecDepth 100000 in
set_option maxHeartbeats 1000000 in
theorem sum_is {F : Nat → Nat} {n : Nat} (hn : n ≤ 4) (hF : ∀ i, i < n → Mg (F i) 240) (g : Nat) (v : Value) (w : World) (hO : Own w g 24 1 v n (fls n F)) :
    Calls Try.prog 64 #[v] w fun e w' => e = .returned (.float .f32 (fsumTo F n)) ∧ ∃ k, w' = w.drewN k := by
  refine (sum_any g v n F (by unfold maxLen; omega) w hO).mono ?_
  rintro e w' ⟨r, rfl, hr, hw⟩
  refine ⟨?_, hw⟩
  have hm := (fsum_mg (f := F) n (by omega) hF).num (by omega)
  have hc : fsumTo (fun i => cn (F i)) n = fsumTo F n := fsumTo_congr n fun i hi => cnk_of_not ((hF i hi).num (by omega))
  rw [hc] at hr
  cases hr0 : isN .f32 r
  · have e : cn r = r := cnk_of_not hr0
    rw [← hr, e]
  · have e : cn r = qn .f32 := cnk_of_nan hr0
    rw [← hr, e, isN_qn] at hm
    cases hm
end Go.Proofs.Ytglimhkpndfjgaa
/- One well's drawdown, argument, recovery: the program's answers. -/
namespace Go.Proofs.Ytglimhkpndfjgaa
open Go.ChangeShapes Go.WideShapes Go.ChangeAt Go.RowKit
set_option linter.unusedVariables false
set_option linter.unusedSimpArgs false
attribute [local irreducible] Calls
end Go.Proofs.Ytglimhkpndfjgaa
/- Drawdowns, sums, arguments: the reference's answers. -/
namespace Go.Proofs.Ytglimhkpndfjgaa
open Go.ChangeShapes Go.WideShapes Go.ChangeAt Go.RowKit
set_option linter.unusedVariables false
set_option linter.unusedSimpArgs false
attribute [local irreducible] Calls
set_option maxRecDepth 100000 in
set_option maxHeartbeats 1000000 in
theorem l03Sum_is {F : Nat → Nat} {n : Nat} (hn : n ≤ 4) (hF : ∀ i, i < n → Mg (F i) 240) (g : Nat) (v : Value) (w : World) (hO : Own w g 24 1 v n (fls n F)) :
    Calls Try.prog 66 #[v] w fun e w' => e = .returned (.float .f32 (fsumTo F n)) ∧ ∃ k, w' = w.drewN k := by
  refine (l03Sum_any g v n F (by unfold maxLen; omega) w hO).mono ?_
  rintro e w' ⟨r, rfl, hr, hw⟩
  refine ⟨?_, hw⟩
  have hm := (fsum_mg (f := F) n (by omega) hF).num (by omega)
  have hc : fsumTo (fun i => cn (F i)) n = fsumTo F n := fsumTo_congr n fun i hi => cnk_of_not ((hF i hi).num (by omega))
  rw [hc] at hr
  cases hr0 : isN .f32 r
  · have e : cn r = r := cnk_of_not hr0
    rw [← hr, e]
  · have e : cn r = qn .f32 := cnk_of_nan hr0
    rw [← hr, e, isN_qn] at hm
    cases hm
end Go.Proofs.Ytglimhkpndfjgaa
/- The greatest size of several finite numbers. Plain laws; no statement is proved here. -/
namespace Go.Proofs.Ytglimhkpndfjgaa
open Ieee
set_option linter.unusedVariables false
set_option linter.unusedSimpArgs false

/-- The first place of the greatest size among the first k. -/
def bestTo (F : Nat → Nat) : Nat → Nat
  | 0 => 0
  | k + 1 => if k = 0 then 0 else if F (bestTo F k) % 2147483648 < F k % 2147483648 then k else bestTo F k
theorem bestTo_lt (F : Nat → Nat) : ∀ k, 0 < k → bestTo F k < k
  | 0, h => by omega
  | k + 1, _ => by
    unfold bestTo
    split
    · omega
    · split
      · omega
      · have := bestTo_lt F k (by omega); omega
theorem bestTo_max (F : Nat → Nat) : ∀ k, ∀ i, i < k → F i % 2147483648 ≤ F (bestTo F k) % 2147483648
  | 0, _, h => by omega
  | k + 1, i, h => by
    unfold bestTo
    split
    · have : i = 0 := by omega
      subst this; exact Nat.le_refl _
    · split
      · rename_i h1 h2
        by_cases e : i = k
        · subst e; exact Nat.le_refl _
        · have := bestTo_max F k i (by omega); omega
      · by_cases e : i = k
        · subst e; omega
        · exact bestTo_max F k i (by omega)
end Go.Proofs.Ytglimhkpndfjgaa
/- The strongest well: both walks. -/
namespace Go.Proofs.Ytglimhkpndfjgaa
open Go.ChangeShapes Go.WideShapes Go.ChangeAt Go.RowKit
set_option linter.unusedVariables false
set_option linter.unusedSimpArgs false
attribute [local irreducible] Calls
theorem fgt_fab {a b : Nat} (ha : Mg a 240) (hb : Mg b 240) : fgt (fab a) (fab b) = decide (b % 2147483648 < a % 2147483648) := fgt_fin (ha.fin (by omega)) (hb.fin (by omega))
theorem bestTo_step (F : Nat → Nat) (k : Nat) (hk : 0 < k) : bestTo F (k + 1) = if F (bestTo F k) % 2147483648 < F k % 2147483648 then k else bestTo F k := by
  rw [bestTo, if_neg (by omega)]
set_option maxRecDepth 100000 in
set_option maxHeartbeats 1000000 in
theorem strongest_any (g : Nat) (v : Value) (n : Nat) (F : Nat → Nat) (hn : n ≤ 12) (hF : ∀ i, i < n → Mg (F i) 240) (w : World) (hO : Own w g 24 1 v n (fls n F)) :
    Calls Try.prog 51 #[v] w fun e w' => e = .returned (.int .i64 (if n = 0 then -1 else (bestTo F n : Nat))) ∧ ∃ k, w' = w.drewN k := by
  obtain ⟨R, hR⟩ : ∃ R, (if n = 0 then (-1 : Int) else (bestTo F n : Nat)) = R := ⟨_, rfl⟩
  rw [hR]
  obtain ⟨c, rfl, hc1, hc2⟩ := hO.form
  unfold maxLen at hc2
  have hcl : ∀ i, i < n → w.cell? ⟨g, i, none⟩ = some (.float .f32 (F i)) := fun i hi => (hO.cell i (by omega)).trans (fls_get n F i hi)
  have HC := Lib.hid hcl
  have HF := Lib.hid hF
  clear hcl hF hO
  go_enter Try.func51, Try.ntmps51
  go_wp2_with fail
  go_loopw [3, 8] (fun b i wr => ∃ k : Nat, k ≤ n ∧ i = .int .i64 k ∧ b = .int .i64 (if k = 0 then -1 else (bestTo F k : Nat)) ∧ ∃ m, wr = w.drewN m) (fun _ i _ => n - (intOf i).toNat)
  case atStart => exact ⟨0, by omega, rfl, rfl, 0, rfl⟩
  case round =>
    obtain ⟨k, hk, rfl, rfl, m, rfl⟩ := hrel
    have bk : (0 : Int) ≤ k := by omega
    by_cases hlt : k < n
    · have bl : (k : Int) < n := by omega
      have e0 := HC.out k hlt
      by_cases hk0 : k = 0
      · subst hk0
        rw [if_pos rfl]
        go_wp2_with fail
        go_quiet (fail)
        go_wp2_with fail
        go_roundw
        case rel => exact ⟨1, by omega, by go_num, rfl, _, rfl⟩
        case measure => simp [intOf]; omega
      · rw [if_neg hk0]
        have hb := bestTo_lt F k (by omega)
        have hstep := bestTo_step F k (by omega)
        have e1 := HC.out (bestTo F k) (by omega)
        have m0 := HF.out k hlt
        have m1 := HF.out (bestTo F k) (by omega)
        have hs1 := fun w' => size_any (F k) (m0.num (by omega)) w'
        have hs2 := fun w' => size_any (F (bestTo F k)) (m1.num (by omega)) w'
        have hcmp := fgt_eq (fab (F k)) (fab (F (bestTo F k)))
        rw [fgt_fab m0 m1] at hcmp
        by_cases hgt : F (bestTo F k) % 2147483648 < F k % 2147483648
        · rw [if_pos hgt] at hstep
          rw [decide_eq_true hgt] at hcmp
          clear m0 m1 hgt
          obtain ⟨b, hbb⟩ : ∃ b, bestTo F k = b := ⟨_, rfl⟩
          rw [hbb] at hb e1 hs2 hcmp ⊢
          have bb : (0 : Int) ≤ b := by omega
          have bb2 : (b : Int) < n := by omega
          clear hbb
          have e0 : (w.drewN m).cell? ⟨g, k, none⟩ = some (.float .f32 (F k)) := e0
          have e1 : (w.drewN m).cell? ⟨g, b, none⟩ = some (.float .f32 (F b)) := e1
          generalize hW : w.drewN m = W at *
          go_wp2_with fail
          go_quiet ((go_at_call 63; first | exact Calls.quiet_of_same (hs1 _) | exact Calls.quiet_of_same (hs2 _)))
          go_wp2_with fail
          go_roundw
          case rel => exact ⟨k + 1, by omega, by go_num, by rw [if_neg (by omega), hstep], _, by rw [← hW]; exact World.drewN_drewN _ _ _⟩
          case measure => simp [intOf]; omega
        · rw [if_neg hgt] at hstep
          rw [decide_eq_false hgt] at hcmp
          clear m0 m1 hgt
          obtain ⟨b, hbb⟩ : ∃ b, bestTo F k = b := ⟨_, rfl⟩
          rw [hbb] at hb e1 hs2 hcmp hstep ⊢
          have bb : (0 : Int) ≤ b := by omega
          have bb2 : (b : Int) < n := by omega
          clear hbb
          have e0 : (w.drewN m).cell? ⟨g, k, none⟩ = some (.float .f32 (F k)) := e0
          have e1 : (w.drewN m).cell? ⟨g, b, none⟩ = some (.float .f32 (F b)) := e1
          generalize hW : w.drewN m = W at *
          go_wp2_with fail
          go_quiet ((go_at_call 63; first | exact Calls.quiet_of_same (hs1 _) | exact Calls.quiet_of_same (hs2 _)))
          go_wp2_with fail
          go_roundw
          case rel => exact ⟨k + 1, by omega, by go_num, by rw [if_neg (by omega), hstep], _, by rw [← hW]; exact World.drewN_drewN _ _ _⟩
          case measure => simp [intOf]; omega
    · obtain rfl : k = n := by omega
      rw [hR]
      clear hR
      go_wp2_with fail
      go_ret
      exact ⟨rfl, m, rfl⟩
/-- What the strongest well is told with. -/
def bestR (n : Nat) (F : Nat → Nat) : Value := if n = 0 then .tuple #[.int .i64 0, .float .f32 0, .int .i64 6] else .tuple #[.int .i64 (bestTo F n : Nat), .float .f32 (F (bestTo F n)), .int .i64 0]
end Go.Proofs.Ytglimhkpndfjgaa
/- The head of a tide at an hour, in the program and in the reference, up to the bits of a number that is none. -/
namespace Go.Proofs.Ytglimhkpndfjgaa
open Go.ChangeShapes Go.WideShapes Go.ChangeAt Go.RowKit
set_option linter.unusedVariables false
set_option linter.unusedSimpArgs false
attribute [local irreducible] Calls
/-- The first part of a product. -/
def reT (a b c d : Nat) : Nat := fop .sub (fop .mul a c) (fop .mul b d)
/-- The head at an hour. -/
def headT (m a b : Nat) (h : Int) : Nat := fop .add m (reT a b (cosT (h % 12).toNat) (sinT (h % 12).toNat))
theorem cn_headT (m a b : Nat) (h : Int) : cn (headT m a b h) = headT m a b h := cn_fop _ _ _
theorem cn_reT (a b c d : Nat) : cn (reT a b c d) = reT a b c d := cn_fop _ _ _
end Go.Proofs.Ytglimhkpndfjgaa
/- A tide step, in the program ((*Ground).tide) and in the reference (l06Tidal). -/
namespace Go.Proofs.Ytglimhkpndfjgaa
open Go.ChangeShapes Go.WideShapes Go.ChangeAt Go.RowKit
set_option linter.unusedVariables false
set_option linter.unusedSimpArgs false
/-! ### A fixed cell is a cell. -/
theorem bv_pow {k i : Nat} (hk : k < 64) (hi : i < 64) : (bv (IntKind.u64.wrap (2 ^ k))).getLsbD i = decide (i = k) := by
  have h1 : (2 : Int) ^ k = ((2 ^ k : Nat) : Int) := by simp
  have h2 : (2 : Nat) ^ k < 2 ^ 64 := Nat.pow_lt_pow_right (by decide) hk
  have h3 : ∀ x : Nat, x < 2 ^ 64 → IntKind.u64.wrap (x : Int) = (x : Int) := fun x hx => by rw [IntKind.wrap_u64]; omega
  have h3 := h3 _ h2
  rw [h1, h3]
  unfold bv
  rw [BitVec.ofInt_natCast, BitVec.getLsbD_ofNat, decide_eq_true hi, Bool.true_and, Nat.testBit_two_pow]
  by_cases h : k = i
  · subst h; simp
  · simp [h, Ne.symm h]
theorem mask_lsb : ∀ (L : List Nat) (x : Int) (i : Nat), (∀ k, k ∈ L → k < 64) → i < 64 → (bv (L.foldl orB x)).getLsbD i = ((bv x).getLsbD i || decide (i ∈ L))
  | [], x, i, _, _ => by simp
  | k :: L, x, i, h, hi => by
    rw [List.foldl_cons, mask_lsb L _ i (fun j hj => h j (List.mem_cons_of_mem _ hj)) hi, orB_bv, bv_nat, BitVec.getLsbD_or, bv_pow (h k List.mem_cons_self) hi]
    simp [Bool.or_assoc]
theorem fx_lsb {g : Gr} (hg : g.ok) {k : Nat} (hk : k < 64) : isFx g k = (bv g.fix).getLsbD k := by
  obtain ⟨n, hn⟩ : ∃ n : Nat, (n : Int) = g.fix := ⟨g.fix.toNat, by have := hg.fix; omega⟩
  have hlt : n < 18446744073709551616 := by have := hg.fix; omega
  unfold isFx bv
  rw [← hn, BitVec.ofInt_natCast, BitVec.getLsbD_ofNat, decide_eq_true hk, Bool.true_and, Nat.testBit_eq_decide_div_mod_eq]
  have e : (n : Int) / 2 ^ k % 2 = ((n / 2 ^ k % 2 : Nat) : Int) := by simp
  rw [e]
  by_cases h : n / 2 ^ k % 2 = 1
  · simp [h]
  · have : n / 2 ^ k % 2 = 0 := by omega
    simp [this]
theorem fx_cell {g : Gr} (hg : g.ok) (hv : validG g = true) {k : Nat} (hk : k < 64) (h : isFx g k = true) : isC g k = true := by
  have hf := (validG_parts hv).2.2.2.2.2
  unfold fixOk at hf
  rw [Bool.and_eq_true] at hf
  have h1 := lsb_and (andNot_zero.1 hf.2) k hk
  rw [← fx_lsb hg hk, h, Bool.true_and] at h1
  unfold maskOf at h1
  rw [mask_lsb _ _ _ (fun j hj => (cellsTo_mem.1 hj).1) hk] at h1
  have h2 : (bv 0).getLsbD k = false := by unfold bv; simp
  rw [h2, Bool.false_or, Bool.not_eq_false', decide_eq_true_eq] at h1
  exact (cellsTo_mem.1 h1).2
/-- The heads with a tide at the fixed cells. -/
def tidH (g : Gr) (H : Nat) (k : Nat) : Nat := if (decide (k < 64) && isC g k) && isFx g k then H else g.hea k
def tidG (g : Gr) (H : Nat) : Gr := { g with hea := tidH g H }
/-- What a tide step gives. -/
def tidR (g : Gr) (H part : Nat) : Gr := if plain H then stepR (tidG g H) part else zeroG
def tidC (g : Gr) (H part : Nat) : Int := if plain H then stepC (tidG g H) part else 4
/-- .. up to some of the cells. -/
def tidA (g : Gr) (H : Nat) (L : List Nat) (k : Nat) : Nat := if decide (k ∈ L) && isFx g k then H else g.hea k
theorem tidA_nil (g : Gr) (H : Nat) : tidA g H [] = g.hea := by funext k; simp [tidA]
theorem tidA_snoc (g : Gr) (H : Nat) (L : List Nat) (k : Nat) (h : isFx g k = true) : tidA g H (L ++ [k]) = upd (tidA g H L) k H := by
  funext i
  unfold upd tidA
  by_cases hik : i = k
  · subst hik; simp [h]
  · rw [if_neg hik]; simp [hik]
theorem tidA_stay (g : Gr) (H : Nat) (L : List Nat) (k : Nat) (h : isFx g k = false) : tidA g H (L ++ [k]) = tidA g H L := by
  funext i
  unfold tidA
  by_cases hik : i = k
  · subst hik; simp [h]
  · simp [hik]
theorem tidA_all (g : Gr) (H : Nat) : tidA g H (cellsTo g 64) = tidH g H := by
  funext i
  unfold tidA tidH
  have : decide (i ∈ cellsTo g 64) = (decide (i < 64) && isC g i) := by
    rw [Bool.eq_iff_iff]
    simp [cellsTo_mem]
  rw [this]
def tidB (g : Gr) (H : Nat) (j k : Nat) : Nat := if decide (k < j) && isFx g k then H else g.hea k
theorem tidB_zero (g : Gr) (H : Nat) : tidB g H 0 = g.hea := by funext k; simp [tidB]
theorem tidB_set (g : Gr) (H : Nat) (j : Nat) (h : isFx g j = true) : tidB g H (j + 1) = upd (tidB g H j) j H := by
  funext i
  unfold upd tidB
  by_cases hik : i = j
  · subst hik; simp [h]
  · rw [if_neg hik]
    have : decide (i < j + 1) = decide (i < j) := by by_cases h : i < j <;> simp [h] <;> omega
    rw [this]
theorem tidB_stay (g : Gr) (H : Nat) (j : Nat) (h : isFx g j = false) : tidB g H (j + 1) = tidB g H j := by
  funext i
  unfold tidB
  by_cases hik : i = j
  · subst hik; simp [h]
  · have : decide (i < j + 1) = decide (i < j) := by by_cases h : i < j <;> simp [h] <;> omega
    rw [this]
theorem tidB_all {g : Gr} (hg : g.ok) (hv : validG g = true) (H : Nat) : tidB g H 64 = tidH g H := by
  funext i
  unfold tidB tidH
  by_cases hi : i < 64
  · cases hf : isFx g i
    · simp
    · rw [fx_cell hg hv hi hf]; simp
  · simp [hi]
attribute [local irreducible] Calls
section
variable {P : Program}
theorem alloc_run {ev : Operand → Value} {w : World} {t : TypeId} {Z : Array Value} {pos : String} {dst : Option Tmp} {tt : TypeId} {af : Array Edge} {gd : Option (Nat × Bool)} (hz : ZeroTy P t Z) : (execOp ev { dst := dst, op := .alloc t, type := tt, pos := pos, after := af, guard := gd }).run P w = .ok (.value (.pointer (some ⟨w.heap.size, 0, none⟩))) (w.alloc (.cells Z t)) := by
  unfold ZeroTy at hz
  cases hq : P.info? t with
  | none => simp [hq] at hz
  | some i =>
    have hz' : i.zero = some (.agg Z) := by simpa [hq] using hz
    have hr : (Instr.alloc t true (.tuple #[])).run P w = .ok (.pointer (some ⟨w.heap.size, 0, none⟩)) (w.alloc (.cells Z t)) := by
      simp [Instr.alloc, zeroValue, typeInfo, hq, hz', newVar, newRow, Value.cells]
    simp [execOp, hr]
theorem load_gat {ev : Operand → Value} {w : World} {ty : TypeId} {x : Operand} {b : Nat} {g : Gr} {pos : String} {dst : Option Tmp} {tt : TypeId} {af : Array Edge} {gd : Option (Nat × Bool)} (hx : ev x = .pointer (some ⟨b, 0, none⟩)) (hr : RowTy P ty 195) (hb : GAt w b g) : (execOp ev { dst := dst, op := .load ty x, type := tt, pos := pos, after := af, guard := gd }).run P w = .ok (.value (.agg g.cells)) w := by
  obtain ⟨d, hu, hd, hi⟩ := hr
  have hl := run_loadVar_mid (P := P) w b 0 ty g.cells.toList d (fun j u hj => by
    have hj2 : j < 195 := by
      rcases Nat.lt_or_ge j g.cells.toList.length with h2 | h2
      · simpa [g.size] using h2
      · rw [List.getElem?_eq_none h2] at hj; cases hj
    have := hb.mem j hj2
    rw [Array.getElem?_toList, g.get j hj2] at hj
    rw [Nat.zero_add, this, hj]) hu hd (by rw [hi]; simp [g.size])
  rw [Array.toArray_toList] at hl
  simp [execOp, hx, Instr.loadAt, Instr.sureAddr, hl]
end
end Go.Proofs.Ytglimhkpndfjgaa
/- TideStep and TideRun where all is valid, in the program and in the reference. -/
namespace Go.Proofs.Ytglimhkpndfjgaa
open Go.ChangeShapes Go.WideShapes Go.ChangeAt Go.RowKit
set_option linter.unusedVariables false
set_option linter.unusedSimpArgs false
attribute [local irreducible] Calls
/-- A ground and the numbers of a tide, all valid. -/
structure TOk (g : Gr) (m a b part : Nat) : Prop where
  ok : g.ok
  valid : validG g = true
  pm : plain m = true
  pa : plain a = true
  pb : plain b = true
  pp : plain part = true
theorem hour_in {h : Int} (h0 : 0 ≤ h) (h1 : h ≤ 100000) : (decide (0 ≤ h) && decide (h ≤ 100000)) = true := by simp; omega
end Go.Proofs.Ytglimhkpndfjgaa
