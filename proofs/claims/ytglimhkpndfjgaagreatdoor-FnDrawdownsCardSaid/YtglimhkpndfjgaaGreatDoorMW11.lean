import Derived.Test.YtglimhkpndfjgaaGreatDoorMW10
import Derived.Test.YtglimhkpndfjgaaGreatDoorMW03
import Derived.IntWalk
import Derived.Test.YtglimhkpndfjgaaGreatDoorMW04
import Derived.Test.YtglimhkpndfjgaaGreatDoorMW08
/- The wells' series: the walks of both sides. -/
namespace Go.Proofs.YtglimhkpndfjgaaGreatDoor
open Go.ChangeShapes Go.WideShapes Go.ChangeAt Go.RowKit
set_option linter.unusedVariables false
set_option linter.unusedSimpArgs false
attribute [local irreducible] Calls
theorem fle_norm {a b : Nat} (ha1 : 8388608 ≤ a) (ha2 : a < 2139095040) (hb1 : 8388608 ≤ b) (hb2 : b < 2139095040) : fle a b = decide (a ≤ b) := by
  unfold fle
  rw [show FloatKind.f32.format.order a b = Ieee.single.order a b from rfl, order_norm ha1 ha2 hb1 hb2, cmp_int]
  rcases Nat.lt_trichotomy a b with h | h | h
  · rw [if_pos (by omega), decide_eq_true (by omega)]; rfl
  · subst h; rw [if_neg (by omega), if_pos rfl]; simp
  · rw [if_neg (by omega), if_neg (by omega), decide_eq_false (by omega)]; rfl
theorem fgt_norm {a b : Nat} (ha1 : 8388608 ≤ a) (ha2 : a < 2139095040) (hb1 : 8388608 ≤ b) (hb2 : b < 2139095040) : fgt a b = decide (b < a) := by
  unfold fgt
  rw [show FloatKind.f32.format.order a b = Ieee.single.order a b from rfl, order_norm ha1 ha2 hb1 hb2, cmp_int]
  rcases Nat.lt_trichotomy a b with h | h | h
  · rw [if_pos (by omega), decide_eq_false (by omega)]; rfl
  · subst h; rw [if_neg (by omega), if_pos rfl]; simp
  · rw [if_neg (by omega), if_neg (by omega), decide_eq_true (by omega)]; rfl
theorem ln_end {u m : Nat} {z : Int} (h : (m : Int) = (u : Int) - z * 8388608) (h1 : 1061158912 ≤ m) (h2 : m < 1069547520) : lnE u = z ∧ lnM u = m := by
  have e : lnE u = z := by unfold lnE; omega
  refine ⟨e, ?_⟩
  unfold lnM; rw [e]; omega
theorem opr_half {m : Nat} (h1 : 16777216 ≤ m) (h2 : m < 2139095040) : Opr .quo m 1073741824 (m - 8388608) := Opr.told (hlf_bits h1 h2)
theorem opr_twice {m : Nat} (h1 : 8388608 ≤ m) (h2 : m < 2130706432) : Opr .mul m 1073741824 (m + 8388608) := Opr.told (dbl_bits h1 h2)
theorem fI_inc {z : Int} (h1 : -64 ≤ z) (h2 : z < 64) : Opr .add (fI z) 1065353216 (fI (z + 1)) := by
  have h := fI_add h1 h2
  have := Opr.of (op := .add) (a := fI z) (b := 1065353216) (j := 134) (by rw [h]; exact fI_mg (by omega) (by omega)) (by omega)
  rw [h] at this; exact this
theorem fI_dec {z : Int} (h1 : -64 < z) (h2 : z ≤ 64) : Opr .sub (fI z) 1065353216 (fI (z - 1)) := by
  have h := fI_sub h1 h2
  have := Opr.of (op := .sub) (a := fI z) (b := 1065353216) (j := 134) (by rw [h]; exact fI_mg (by omega) (by omega)) (by omega)
  rw [h] at this; exact this
set_option maxRecDepth 100000 in
set_option maxHeartbeats 1000000 in
theorem lnOf_any (u : Nat) (h1 : 562036736 ≤ u) (h2 : u ≤ 1568669696) (w : World) :
    Calls Tryz.prog 142 #[.float .f32 u] w fun e w' => e = .returned (.tuple #[.float .f32 (lnX u), .int .i64 0]) ∧ ∃ n, w' = w.drewN n := by
  obtain ⟨X, hX0⟩ : ∃ X, lnX u = X := ⟨_, rfl⟩
  rw [hX0]
  have t1 := fge_eq u 562036736
  have t2 := fgt_eq u 1568669696
  rw [fge_norm (by omega) (by omega) (by omega) (by omega), decide_eq_true (by omega)] at t1
  rw [fgt_norm (by omega) (by omega) (by omega) (by omega), decide_eq_false (by omega)] at t2
  go_enter Tryz.func142, Tryz.ntmps142
  go_wp2_with fail
  clear t1 t2
  go_loopw [4, 5] (fun y e wr => ∃ (m : Nat) (z : Int), y = .float .f32 m ∧ e = .float .f32 (fI z) ∧ (m : Int) = (u : Int) - z * 8388608 ∧ 0 ≤ z ∧ (z = 0 ∨ 1061158912 ≤ m) ∧ ∃ n, wr = w.drewN n) (fun y _ _ => (match y with | .float _ m => m | _ => 0))
  case atStart => exact ⟨u, 0, rfl, rfl, by omega, by omega, .inl rfl, 0, rfl⟩
  case round =>
    obtain ⟨m, z, rfl, rfl, hm, hz, hm2, n0, rfl⟩ := hrel
    have k1 := fge_eq m 1069547520
    rw [fge_norm (by omega) (by omega) (by omega) (by omega)] at k1
    by_cases hlt : 1069547520 ≤ m
    · rw [decide_eq_true hlt] at k1
      obtain ⟨o1, o2⟩ := opr_half (m := m) (by omega) (by omega)
      obtain ⟨o3, o4⟩ := fI_inc (z := z) (by omega) (by omega)
      go_wp2_with fail
      exact ⟨⟨m - 8388608, z + 1, rfl, rfl, by omega, by omega, .inr (by omega), n0, rfl⟩, by show m - 8388608 < m; omega⟩
    · rw [decide_eq_false hlt] at k1
      go_wp2_with fail
      clear k1
      go_loopw [4, 5] (fun y e wr => ∃ (m : Nat) (z : Int), y = .float .f32 m ∧ e = .float .f32 (fI z) ∧ (m : Int) = (u : Int) - z * 8388608 ∧ m < 1069547520 ∧ (0 < z → 1061158912 ≤ m) ∧ 562036736 ≤ m ∧ ∃ n, wr = w.drewN n) (fun y _ _ => (match y with | .float _ m => 1069547520 - m | _ => 0))
      case atStart => exact ⟨m, z, rfl, rfl, hm, by omega, by omega, by omega, n0, rfl⟩
      case round =>
        clear hm hz hm2 hlt
        obtain ⟨m, z, rfl, rfl, hm, hm1, hm2, hm3, n0, rfl⟩ := hrel
        have k1 := flt_eq m 1061158912
        rw [flt_norm (by omega) (by omega) (by omega) (by omega)] at k1
        by_cases hlt : m < 1061158912
        · rw [decide_eq_true hlt] at k1
          obtain ⟨o1, o2⟩ := opr_twice (m := m) (by omega) (by omega)
          obtain ⟨o3, o4⟩ := fI_dec (z := z) (by omega) (by omega)
          go_wp2_with fail
          exact ⟨⟨m + 8388608, z - 1, rfl, rfl, by omega, by omega, by omega, by omega, n0, rfl⟩, by show 1069547520 - (m + 8388608) < 1069547520 - m; omega⟩
        · rw [decide_eq_false hlt] at k1
          obtain ⟨q1, q2⟩ := ln_end hm (by omega) hm1
          have he := fI_mg (z := z) (by omega) (by omega)
          have hX : lnX u = lnS m (fI z) := by unfold lnX; rw [q1, q2]
          rw [hX0] at hX
          obtain ⟨a, b, t, q, q7, p1, p1q, p2, p2q, p3, tp, y, el, ⟨c1, r1⟩, ⟨c2, r2⟩, ⟨c3, r3⟩, ⟨c4, r4⟩, ⟨c5, r5⟩, ⟨c6, r6⟩, ⟨c7, r7⟩, ⟨c8, r8⟩, ⟨c9, r9⟩, ⟨c10, r10⟩, ⟨c11, r11⟩, ⟨c12, r12⟩, ⟨c13, r13⟩, ⟨c14, r14⟩⟩ := lnS_steps (m := m) (e := fI z) ⟨by omega, by omega⟩ he
          generalize lnS m (fI z) = R at *
          generalize fI z = E at *
          subst hX
          clear q1 q2 he hX0 hm hm1 hm2 hm3 hlt
          go_wp2_with fail
          go_ret2
          exact ⟨rfl, n0, rfl⟩
set_option maxRecDepth 100000 in
set_option maxHeartbeats 1000000 in
theorem expDown_any (u : Nat) (hu : Nrm u 127 134) (h2 : u ≤ 1117782016) (w : World) :
    Calls Tryz.prog 159 #[.float .f32 u] w fun e w' => e = .returned (.tuple #[.float .f32 (exX u), .int .i64 0]) ∧ ∃ n, w' = w.drewN n := by
  have h1 := hu.lo (by omega)
  have t1 := fge_eq u 0
  have t2 := fgt_eq u 1117782016
  rw [fge_zero (by omega)] at t1
  rw [fgt_norm h1 (by omega) (by omega) (by omega), decide_eq_false (by omega)] at t2
  obtain ⟨v, a, p, b, q, c, ⟨c1, r1⟩, ⟨c2, r2⟩, ⟨c3, r3⟩, ⟨c4, r4⟩, ⟨c5, r5⟩, ⟨c6, r6⟩, ⟨c7, r7⟩⟩ := exP_steps hu
  have hp := exP_pge hu
  have hx := exX_step hu
  generalize exX u = X at *
  generalize exP u = p0 at *
  go_enter Tryz.func159, Tryz.ntmps159
  go_wp2_with fail
  clear t1 t2 c1 r1 c2 r2 c3 r3 c4 r4 c5 r5 c6 r6 c7 r7
  go_loopw [5, 26] (fun y i wr => ∃ k : Nat, k ≤ 8 ∧ y = .float .f32 (sqN p0 k) ∧ i = .int .i64 k ∧ ∃ n, wr = w.drewN n) (fun _ i _ => 8 - (intOf i).toNat)
  case atStart => exact ⟨0, by omega, rfl, rfl, 0, rfl⟩
  case round =>
    obtain ⟨k, hk, rfl, rfl, n0, rfl⟩ := hrel
    have bk : (0 : Int) ≤ k := by omega
    by_cases hlt : k < 8
    · have bl : (k : Int) < 8 := by omega
      obtain ⟨o1, o2⟩ := sqN_step hp k
      go_wp2_with fail
      exact ⟨⟨k + 1, by omega, rfl, by go_num, n0, rfl⟩, by simp [intOf]; omega⟩
    · obtain rfl : k = 8 := by omega
      obtain ⟨c1, r1⟩ := hx
      go_wp2_with fail
      go_ret2
      exact ⟨rfl, n0, rfl⟩
theorem kE : ∀ j : Nat, j < 8 → fge (fI (8 - (j : Int))) 1065353216 = true ∧ Opr .sub (fI (8 - (j : Int))) 1065353216 (fI (8 - ((j + 1 : Nat) : Int))) ∧ fI (8 - ((j + 1 : Nat) : Int)) < fI (8 - (j : Int)) := by
  have h : ∀ j : Nat, j < 8 → fge (fI (8 - (j : Int))) 1065353216 = true ∧ floatBits .sub .f32 (fI (8 - (j : Int))) 1065353216 = some (fI (8 - ((j + 1 : Nat) : Int))) ∧ fI (8 - ((j + 1 : Nat) : Int)) < fI (8 - (j : Int)) := by decide +kernel
  intro j hj
  obtain ⟨a, b, c⟩ := h j hj
  exact ⟨a, Opr.told b, c⟩
set_option maxRecDepth 100000 in
set_option maxHeartbeats 1000000 in
theorem wellFunction_any (u : Nat) (h1 : 562036736 ≤ u) (h2 : u ≤ 1117782016) (w : World) :
    Calls Tryz.prog 133 #[.float .f32 u] w fun e w' => e = .returned (.tuple #[.float .f32 (wfX u), .int .i64 0]) ∧ ∃ n, w' = w.drewN n := by
  have t1 := fge_eq u 562036736
  have t2 := fgt_eq u 1117782016
  have t3 := fle_eq u 1065353216
  rw [fge_norm (by omega) (by omega) (by omega) (by omega), decide_eq_true (by omega)] at t1
  rw [fgt_norm (by omega) (by omega) (by omega) (by omega), decide_eq_false (by omega)] at t2
  rw [fle_norm (by omega) (by omega) (by omega) (by omega)] at t3
  by_cases hlow : u ≤ 1065353216
  · rw [decide_eq_true hlow] at t3
    have hln := fun w' => lnOf_any u h1 (by omega) w'
    have hu : Mg u 127 := by unfold Mg; rw [Nat.mod_eq_of_lt (by omega)]; omega
    obtain ⟨a, x1, b, x2, c, x3, d, ⟨c1, r1⟩, ⟨c2, r2⟩, ⟨c3, r3⟩, ⟨c4, r4⟩, ⟨c5, r5⟩, ⟨c6, r6⟩, ⟨c7, r7⟩, ⟨c8, r8⟩⟩ := wfH_steps hu
    obtain ⟨y, z, ⟨c9, r9⟩, ⟨c10, r10⟩, ⟨c11, r11⟩⟩ := wfX_low h1 hlow
    generalize wfX u = X at *
    generalize wfH u = H at *
    generalize lnX u = L at *
    go_enter Tryz.func133, Tryz.ntmps133
    go_wp2_with (go_at_call 142; refine (hln _).mono ?_; rintro e w' ⟨rfl, n0, rfl⟩)
    go_ret2
    exact ⟨rfl, n0, rfl⟩
  · rw [decide_eq_false hlow] at t3
    obtain ⟨hu, c1, r1⟩ := wfX_high (by omega) h2
    have hex := fun w' => expDown_any u hu h2 w'
    have HS := Lib.hid fun k (hk : k < 8) => wfI_step hu hk
    generalize wfX u = X at *
    generalize exX u = E at *
    have k0 : (1090519040 : Nat) = fI (8 - ((0 : Nat) : Int)) := by decide +kernel
    go_enter Tryz.func133, Tryz.ntmps133
    go_wp2_with fail
    clear t1 t2 t3
    go_loopw [7, 8] (fun f k wr => ∃ j : Nat, j ≤ 8 ∧ f = .float .f32 (wfI u j) ∧ k = .float .f32 (fI (8 - (j : Int))) ∧ ∃ n, wr = w.drewN n) (fun f k _ => (match k with | .float _ m => m | _ => 0))
    case atStart => exact ⟨0, by omega, rfl, by rw [← k0], 0, rfl⟩
    case round =>
      obtain ⟨j, hj, rfl, rfl, n0, rfl⟩ := hrel
      by_cases hlt : j < 8
      · obtain ⟨d1, d2, d3⟩ := kE j hlt
        have t1 := fge_eq (fI (8 - (j : Int))) 1065353216
        rw [d1] at t1
        obtain ⟨d4, d5⟩ := d2
        obtain ⟨a, b, c, ⟨o1, o2⟩, ⟨o3, o4⟩, ⟨o5, o6⟩, ⟨o7, o8⟩⟩ := HS.out j hlt
        go_wp2_with fail
        exact ⟨⟨j + 1, by omega, rfl, rfl, n0, rfl⟩, d3⟩
      · obtain rfl : j = 8 := by omega
        have t1 := fge_eq (fI (8 - ((8 : Nat) : Int))) 1065353216
        rw [show fge (fI (8 - ((8 : Nat) : Int))) 1065353216 = false by decide +kernel] at t1
        go_wp2_with (go_at_call 159; refine (hex _).mono ?_; rintro e w' ⟨rfl, n1, rfl⟩)
        go_ret2
        exact ⟨rfl, _, rfl⟩
end Go.Proofs.YtglimhkpndfjgaaGreatDoor
/- The permits' rates, scaled; marks that a caller leaves in a list: the walks that FnExactScaledPermits needs. -/
namespace Go.Proofs.YtglimhkpndfjgaaGreatDoor
open Go.ChangeShapes Go.WideShapes Go.ChangeAt Go.RowKit
set_option linter.unusedVariables false

theorem Own.setCell {w : World} {g : Nat} {e : TypeId} {s : Nat} {v : Value} {n : Nat} {xs : List Value} (h : Own w g e s v n xs) (j : Nat) (u : Value) : Own (w.setCell ⟨g, j, none⟩ u) g e s v n (xs.set j u) := by
  obtain ⟨h1, cap, cur, rfl, hb, h2, h3, h4, h5⟩ := h
  refine ⟨by simpa using h1, cap, _, rfl, hb.setCell j u, h2, h3, by simpa using h4, ?_⟩
  have hle : n * s ≤ cur.size := by rw [h4]; exact Nat.mul_le_mul_right s h2
  rw [Array.toList_setIfInBounds, ← h5]
  apply List.ext_getElem?
  intro i
  simp only [List.getElem?_take, List.getElem?_set, List.length_take, Array.length_toList]
  by_cases hi : i < n * s
  · by_cases hj : j = i
    · subst hj; simp [hi, show j < cur.size by omega]; omega
    · simp [hi, hj]
  · by_cases hj : j = i
    · subst hj; simp [hi]; omega
    · simp [hi, hj]
theorem own_full {w : World} {g : Nat} {e : TypeId} {s n : Nat} {xs : List Value} (h : Own w g e s (.slice (some ⟨g, 0, none⟩) n n) n xs) : Blk w g xs.toArray e := by
  obtain ⟨h1, cap, cur, hv, hb, h2, h3, h4, h5⟩ := h
  have hc : cap = n := by injection hv with _ _ h; exact h.symm
  subst hc
  rw [← h5, List.take_of_length_le (by simp [h4])]
  exact hb

/-- P with another permit at i. -/
def updP (P : Nat → Pm) (i : Nat) (p : Pm) : Nat → Pm := fun j => if j = i then p else P j
theorem updP_same (P : Nat → Pm) (i : Nat) (p : Pm) : updP P i p i = p := by simp [updP]
theorem updP_other (P : Nat → Pm) (i : Nat) (p : Pm) (j : Nat) (h : j ≠ i) : updP P i p j = P j := by simp [updP, h]
theorem pls_set (n : Nat) (P : Nat → Pm) (i c : Nat) (u : Value) (p : Pm) (hi : i < n) (hc : c < 3) (hp : (P i).cells.toList.set c u = p.cells.toList) : (pls n P).set (i * 3 + c) u = pls n (updP P i p) := by
  apply List.ext_getElem?
  intro j
  by_cases hj : j < n * 3
  · obtain ⟨k, d, hd, rfl⟩ : ∃ k d, d < 3 ∧ j = k * 3 + d := ⟨j / 3, j % 3, Nat.mod_lt _ (by decide), by omega⟩
    have hk : k < n := by omega
    rw [pls_get n _ k d hk hd, List.getElem?_set, pls_length]
    by_cases hki : k = i
    · subst hki
      rw [updP_same]
      have := congrArg (fun l : List Value => l[d]?) hp
      simp only [List.getElem?_set, Array.getElem?_toList, Array.length_toList, Pm.cells_size] at this
      rw [← this]
      by_cases hcd : c = d
      · subst hcd; simp [hc, hj]
      · rw [if_neg (by omega), if_neg hcd, pls_get n P k d hk hd]
    · rw [updP_other P i p k hki, if_neg (by omega), pls_get n P k d hk hd]
  · rw [List.getElem?_eq_none (by simp [pls_length]; omega), List.getElem?_eq_none (by simp [pls_length]; omega)]

/-- Nothing but block g has turned. -/
structure Only (g : Nat) (w w' : World) : Prop where
  os : w'.os = w.os
  tape : w'.tape = w.tape
  output : w'.output = w.output
  size : w'.heap.size = w.heap.size
  block : ∀ b, b ≠ g → w'.heap[b]? = w.heap[b]?
theorem Only.refl (g : Nat) (w : World) : Only g w w := ⟨rfl, rfl, rfl, rfl, fun _ _ => rfl⟩
theorem Only.setCell {g : Nat} {w w' : World} (h : Only g w w') (j : Nat) (u : Value) : Only g w (w'.setCell ⟨g, j, none⟩ u) :=
  ⟨h.os, h.tape, h.output, by rw [← h.size]; simp [World.setCell], fun b hb => (heap_setCell_other w' ⟨g, j, none⟩ b u hb).trans (h.block b hb)⟩
theorem Only.drew {g : Nat} {w w' : World} (h : Only g w w') : Only g w w'.drew := ⟨h.os, h.tape, h.output, h.size, h.block⟩
theorem Only.drewN {g : Nat} {w w' : World} (h : Only g w w') (k : Nat) : Only g w (w'.drewN k) := ⟨h.os, h.tape, h.output, h.size, h.block⟩
theorem below_only {B g : Nat} {w0 w w' : World} (h : Below B w0 w) (ho : Only g w w') (hg : B ≤ g) : Below B w0 w' :=
  ⟨ho.os.trans h.os, ho.tape.trans h.tape, ho.output.trans h.output, by rw [ho.size]; exact h.size, fun b hb => (ho.block b (by omega)).trans (h.block b hb)⟩

/-- The marks that a list's cells get, from m on. -/
def markP (m : Int) (i : Nat) : Pm := ⟨IntKind.i8.wrap (m + 3 * i), IntKind.i8.wrap (m + 3 * i + 1), IntKind.i16.wrap (m + 3 * i + 2)⟩
/-- .. after k rounds. -/
def marked (m : Int) (P : Nat → Pm) (k : Nat) : Nat → Pm := fun i => if i < k then markP m i else P i

/-- The rate of a permit, scaled. -/
def scl (pc : Int) (p : Pm) : Pm := ⟨p.own, p.cel, p.rat * pc / 100⟩
def scaledTo (pc : Int) (P : Nat → Pm) (k : Nat) : Nat → Pm := fun i => if i < k then scl pc (P i) else P i
/-- What both functions return: how many permits, which, and the code. -/
def scN (n : Nat) (P : Nat → Pm) (pc : Int) : Nat := if ratesAre n P && (decide (0 ≤ pc) && decide (pc ≤ 100)) then n else 0
def scC (n : Nat) (P : Nat → Pm) (pc : Int) : Int := if ratesAre n P then (if decide (0 ≤ pc) && decide (pc ≤ 100) then 0 else 2) else 1
theorem rates_bd {n : Nat} {P : Nat → Pm} (h : ratesAre n P = true) : n ≤ 6 ∧ ∀ i, i < n → 0 ≤ (P i).rat ∧ (P i).rat ≤ 400 := by
  simp [ratesAre] at h
  refine ⟨h.1, fun i hi => ?_⟩
  have h2 := anyTo_false.1 h.2 i hi
  simp [badRate] at h2
  omega

end Go.Proofs.YtglimhkpndfjgaaGreatDoor
/- Numbers of single precision: plain laws; no statement is proved here. -/
namespace Go.Proofs.YtglimhkpndfjgaaGreatDoor
open Go.ChangeShapes Go.WideShapes Go.ChangeAt Go.RowKit Ieee
set_option linter.unusedVariables false
set_option linter.unusedSimpArgs false

theorem run_widen_numW {P : Program} (src dst : TypeId) (b : Nat) (hs : P.underlying src = some (.float .f32)) (hd : P.underlying dst = some (.float .f64)) (h : isN .f32 b = false) (w : World) : (convert src dst (.float .f32 b)).run P w = .ok (.float .f64 (widen b)) w := by
  rw [run_convert_widen w src dst b hs hd]
  have h1 : fwid b w = widen b := by unfold fwid; rw [h]; rfl
  have h2 : wcnt b = 0 := by unfold wcnt; rw [h]; rfl
  rw [h1, h2, World.drewN_zero]
theorem read_f32W (b : Nat) : FloatKind.f32.format.read b = single.read b := rfl
theorem isN_wordW (s : Bool) (r : Nat) (h : r ≤ 2139095040) : isN .f32 (single.word s r) = false := by
  obtain ⟨hb, hi, hl, hs, hf⟩ := single_facts
  unfold isN
  rw [read_f32W, read_word _ _ _ (by rw [hs]; omega), hb, hi, hl]
  split
  · rfl
  · split
    · rfl
    · rw [if_pos (by omega)]; rfl
theorem isN_nearestW (s : Bool) (m : Nat) (e : Int) : isN .f32 (single.nearest s m e) = false := by
  unfold Format.nearest
  split
  · exact isN_wordW _ _ (by omega)
  · exact isN_wordW _ _ (Nat.min_le_right _ _)
theorem plain_numW {a : Nat} (h : plain a = true) : isN .f32 a = false := by
  unfold plain at h; exact fge_num (Bool.and_eq_true_iff.1 h).1
end Go.Proofs.YtglimhkpndfjgaaGreatDoor
/- Wells in memory: lists of them, marks that a caller leaves in a list. Plain laws and the walks of the law's own functions. -/
namespace Go.Proofs.YtglimhkpndfjgaaGreatDoor
open Go.ChangeShapes Go.WideShapes Go.ChangeAt Go.RowKit
set_option linter.unusedVariables false

/-- A well's place and the bits of its rate. -/
structure Wl where
  px : Int
  py : Int
  rt : Nat
@[irreducible] def Wl.cells (p : Wl) : Array Value := #[.int .i8 p.px, .int .i8 p.py, .float .f32 p.rt]
theorem Wl.cells_eq (p : Wl) : p.cells = #[.int .i8 p.px, .int .i8 p.py, .float .f32 p.rt] := by unfold Wl.cells; rfl
theorem Wl.cells_size (p : Wl) : p.cells.size = 3 := by rw [p.cells_eq]; rfl
theorem Wl.get0 (p : Wl) : p.cells[0]? = some (.int .i8 p.px) := by rw [p.cells_eq]; rfl
theorem Wl.get1 (p : Wl) : p.cells[1]? = some (.int .i8 p.py) := by rw [p.cells_eq]; rfl
theorem Wl.get2 (p : Wl) : p.cells[2]? = some (.float .f32 p.rt) := by rw [p.cells_eq]; rfl
theorem Wl.one (p : Wl) : ∀ v ∈ p.cells.toList, v.oneCell' = true := by
  intro v hv; rw [p.cells_eq] at hv; simp at hv; rcases hv with rfl | rfl | rfl <;> rfl
/-- n permits, one behind the other. -/
@[irreducible] def lws (n : Nat) (P : Nat → Wl) : List Value := (List.range n).flatMap fun i => (P i).cells.toList
theorem lws_zero (P : Nat → Wl) : lws 0 P = [] := by simp [lws]
theorem lws_succ (n : Nat) (P : Nat → Wl) : lws (n + 1) P = lws n P ++ (P n).cells.toList := by simp [lws, List.range_succ, List.flatMap_append]
theorem lws_length (n : Nat) (P : Nat → Wl) : (lws n P).length = n * 3 := by
  induction n with
  | zero => simp [lws_zero]
  | succ n ih => rw [lws_succ, List.length_append, ih]; simp [Wl.cells_size]; omega
theorem lws_congr {P P' : Nat → Wl} : ∀ {n : Nat}, (∀ i, i < n → P i = P' i) → lws n P = lws n P'
  | 0, _ => by rw [lws_zero, lws_zero]
  | n + 1, h => by rw [lws_succ, lws_succ, lws_congr (fun i hi => h i (by omega)), h n (by omega)]
theorem lws_get (n : Nat) (P : Nat → Wl) (i c : Nat) (h : i < n) (hc : c < 3) : (lws n P)[i * 3 + c]? = (P i).cells[c]? := by
  induction n with
  | zero => omega
  | succ n ih =>
    rw [lws_succ, List.getElem?_append, lws_length]
    by_cases hi : i < n
    · rw [if_pos (by omega), ih hi]
    · obtain rfl : i = n := by omega
      rw [if_neg (by omega), show i * 3 + c - i * 3 = c by omega]; simp
theorem lws_one (n : Nat) (P : Nat → Wl) : ∀ v ∈ lws n P, v.oneCell' = true := by
  intro v hv; unfold lws at hv; simp only [List.mem_flatMap] at hv; obtain ⟨i, _, hi⟩ := hv; exact (P i).one v hi
theorem lws_drop (n : Nat) (P : Nat → Wl) (k : Nat) (h : k < n) : ((lws n P).drop (k * 3)).take 3 = (P k).cells.toList := by
  apply List.ext_getElem?
  intro c
  rw [List.getElem?_take]
  by_cases hc : c < 3
  · rw [if_pos hc, List.getElem?_drop, lws_get n P k c h hc]; simp
  · rw [if_neg hc, List.getElem?_eq_none]; simp [Wl.cells_size]; omega

/-- The slice v holds n permits, P. -/
def LSl (w : World) (v : Value) (n : Nat) (P : Nat → Wl) : Prop :=
  ∃ a cap, v = .slice a n cap ∧ n ≤ cap ∧ cap ≤ maxLen ∧ (n = 0 ∨ ∃ b o, a = some ⟨b, o, none⟩ ∧ b < w.heap.size ∧ ∀ i c, i < n → c < 3 → w.cell? ⟨b, o + i * 3 + c, none⟩ = (P i).cells[c]?)
theorem LSl.below {w w' : World} {v : Value} {n : Nat} {P : Nat → Wl} (h : LSl w v n P) (hb : Below w.heap.size w w') : LSl w' v n P := by
  obtain ⟨a, cap, rfl, h1, h2, h3⟩ := h
  refine ⟨a, cap, rfl, h1, h2, ?_⟩
  rcases h3 with h3 | ⟨b, o, rfl, hlt, hc⟩
  · exact .inl h3
  · exact .inr ⟨b, o, rfl, Nat.lt_of_lt_of_le hlt hb.size, fun i c hi h3 => (hb.cell (p := ⟨b, _, none⟩) hlt).trans (hc i c hi h3)⟩
theorem Own.lsl {w : World} {g : Nat} {e : TypeId} {v : Value} {n : Nat} {P : Nat → Wl} (h : Own w g e 3 v n (lws n P)) : LSl w v n P := by
  obtain ⟨cap, rfl, h1, h2⟩ := h.form
  exact ⟨_, cap, rfl, h1, h2, .inr ⟨g, 0, rfl, h.lt, fun i c hi hc => by rw [Nat.zero_add, h.cell _ (by omega), lws_get n P i c hi hc]⟩⟩

theorem rowWl : RowTy Tryz.prog 51 3 := ⟨_, Tryz.underlying51, rfl, by kernel_rfl⟩
theorem sizeWl : (Tryz.prog.info? 51).map (·.size) = some 3 := by kernel_rfl
theorem elWl : ElemTy Tryz.prog 28 51 3 8 := elem_of (z := .agg (Wl.cells ⟨0, 0, 0⟩)) Tryz.underlying28 (by unfold Wl.cells; kernel_rfl) (Wl.cells_size _)
theorem isN_int' (n : Int) : isN .f32 (floatOfInt .f32 n) = false := by
  unfold floatOfInt FloatKind.nearest FloatKind.encode Ieee.Format.write
  exact isN_nearestW _ _ _
/-- P with another permit at i. -/
def updL (P : Nat → Wl) (i : Nat) (p : Wl) : Nat → Wl := fun j => if j = i then p else P j
theorem updL_same (P : Nat → Wl) (i : Nat) (p : Wl) : updL P i p i = p := by simp [updL]
theorem updL_other (P : Nat → Wl) (i : Nat) (p : Wl) (j : Nat) (h : j ≠ i) : updL P i p j = P j := by simp [updL, h]
theorem wls_set (n : Nat) (P : Nat → Wl) (i c : Nat) (u : Value) (p : Wl) (hi : i < n) (hc : c < 3) (hp : (P i).cells.toList.set c u = p.cells.toList) : (lws n P).set (i * 3 + c) u = lws n (updL P i p) := by
  apply List.ext_getElem?
  intro j
  by_cases hj : j < n * 3
  · obtain ⟨k, d, hd, rfl⟩ : ∃ k d, d < 3 ∧ j = k * 3 + d := ⟨j / 3, j % 3, Nat.mod_lt _ (by decide), by omega⟩
    have hk : k < n := by omega
    rw [lws_get n _ k d hk hd, List.getElem?_set, lws_length]
    by_cases hki : k = i
    · subst hki
      rw [updL_same]
      have := congrArg (fun l : List Value => l[d]?) hp
      simp only [List.getElem?_set, Array.getElem?_toList, Array.length_toList, Wl.cells_size] at this
      rw [← this]
      by_cases hcd : c = d
      · subst hcd; simp [hc, hj]
      · rw [if_neg (by omega), if_neg hcd, lws_get n P k d hk hd]
    · rw [updL_other P i p k hki, if_neg (by omega), lws_get n P k d hk hd]
  · rw [List.getElem?_eq_none (by simp [lws_length]; omega), List.getElem?_eq_none (by simp [lws_length]; omega)]

/-- A list of permits that a call has made, or none. -/
def ResW (w : World) (g : Nat) (v : Value) (n : Nat) (P : Nat → Wl) : Prop := (n = 0 ∧ ∃ a cap, v = .slice a 0 cap ∧ cap ≤ maxLen) ∨ Own w g 51 3 v n (lws n P)
theorem ResW.wsl {w : World} {g : Nat} {v : Value} {n : Nat} {P : Nat → Wl} (h : ResW w g v n P) : LSl w v n P := by
  rcases h with ⟨rfl, a, cap, rfl, h⟩ | h
  · exact ⟨a, cap, rfl, Nat.zero_le _, h, .inl rfl⟩
  · exact h.lsl
theorem ResW.below {w w' : World} {g : Nat} {v : Value} {n : Nat} {P : Nat → Wl} (h : ResW w g v n P) (hb : Below w.heap.size w w') : ResW w' g v n P := by
  rcases h with h | h
  · exact .inl h
  · exact .inr (h.below hb h.lt)
theorem ResW.only {w w' : World} {g k : Nat} {v : Value} {n : Nat} {P : Nat → Wl} (h : ResW w g v n P) (hb : Only k w w') (hk : n = 0 ∨ g ≠ k) : ResW w' g v n P := by
  rcases h with h | h
  · exact .inl h
  · rcases hk with rfl | hk
    · obtain ⟨cap, rfl, _, hc⟩ := h.form
      exact .inl ⟨rfl, _, cap, rfl, hc⟩
    · exact .inr (h.move (hb.block g hk))
theorem ResW.ne {w : World} {g : Nat} {v : Value} {n : Nat} {P : Nat → Wl} (h : ResW w g v n P) {k : Nat} (hk : w.heap.size ≤ k) : n = 0 ∨ g ≠ k := by
  rcases h with h | h
  · exact .inl h.1
  · have := h.lt; exact .inr (by omega)

def markL (m : Int) (i : Nat) : Wl := ⟨IntKind.i8.wrap (m + 3 * i), IntKind.i8.wrap (m + 3 * i + 1), (floatOfInt .f32 (m + 3 * i + 2))⟩
/-- .. after k rounds. -/
def markedL (m : Int) (P : Nat → Wl) (k : Nat) : Nat → Wl := fun i => if i < k then markL m i else P i

end Go.Proofs.YtglimhkpndfjgaaGreatDoor
/- The argument and the drawdown of a well: the program's walks. -/
namespace Go.Proofs.YtglimhkpndfjgaaGreatDoor
open Go.ChangeShapes Go.WideShapes Go.ChangeAt Go.RowKit
set_option linter.unusedVariables false
set_option linter.unusedSimpArgs false
attribute [local irreducible] Calls
theorem run_max32 {P : Program} (w : World) (ts : Array TypeId) (t : TypeId) {a b : Nat} (ha1 : 8388608 ≤ a) (ha2 : a < 2139095040) (hb1 : 8388608 ≤ b) (hb2 : b < 2139095040) : (Builtin.max_ ts t #[.float .f32 a, .float .f32 b]).run P w = .ok (.float .f32 (if a < b then b else a)) w := by
  have h : FloatKind.f32.format.order a b = some (compare (a : Int) (b : Int)) := order_norm ha1 ha2 hb1 hb2
  rw [cmp_int] at h
  rcases Nat.lt_trichotomy a b with hl | hl | hl
  · rw [if_pos (by omega)] at h
    rw [if_pos hl]
    simp [Builtin.max_, Builtin.max2, h]
  · subst hl
    rw [if_neg (by omega), if_pos rfl] at h
    simp [Builtin.max_, Builtin.max2, h]
  · rw [if_neg (by omega), if_neg (by omega)] at h
    rw [if_neg (by omega)]
    simp [Builtin.max_, Builtin.max2, h]
theorem sq_zero {x y : Int} (hx : -15 ≤ x ∧ x ≤ 15) (hy : -15 ≤ y ∧ y ≤ 15) : feq (fI (x * x + y * y)) 0 = decide (x = 0 ∧ y = 0) := by
  by_cases h : x = 0 ∧ y = 0
  · obtain ⟨rfl, rfl⟩ := h
    decide +kernel
  · have hn := sqD_nrm hx hy
    unfold sqD at hn
    rw [if_neg h] at hn
    have h1 := hn.lo (by omega)
    have h2 := hn.hi (by omega)
    rw [decide_eq_false h]
    unfold feq
    rw [show FloatKind.f32.format.order (fI (x * x + y * y)) 0 = Ieee.single.order (fI (x * x + y * y)) 0 from rfl, order_fin h2 (by omega), cmp_int, if_neg (by omega), if_neg (by omega)]
    rfl
set_option maxRecDepth 100000 in
set_option maxHeartbeats 1000000 in
theorem argument_any (T S : Nat) (p : Wl) (x y : Int) (time : Nat) (h : Aq T S) (hp : (-100 ≤ p.px ∧ p.px ≤ 100) ∧ (-100 ≤ p.py ∧ p.py ≤ 100)) (hx : -15 ≤ x - p.px ∧ x - p.px ≤ 15) (hy : -15 ≤ y - p.py ∧ y - p.py ≤ 15) (h1 : 1 ≤ time) (h2 : time ≤ 100000) (w : World) :
    Calls Tryz.prog 77 #[.agg #[.float .f32 T, .float .f32 S], .agg p.cells, .int .i64 x, .int .i64 y, .int .i64 time] w fun e w' => e = .returned (.float .f32 (argV T S (x - p.px) (y - p.py) time)) ∧ Below w.heap.size w w' := by
  rw [p.cells_eq]
  have w1 : wrap64 p.px = p.px := by unfold wrap64; omega
  have w2 : wrap64 p.py = p.py := by unfold wrap64; omega
  have w3 : wrap64 (x - p.px) = x - p.px := by unfold wrap64; omega
  have w4 : wrap64 (y - p.py) = y - p.py := by unfold wrap64; omega
  obtain ⟨a, b, ⟨c1, r1⟩, ⟨c2, r2⟩, ⟨c3, r3⟩⟩ := sqD_steps hx hy
  have e0 := feq_eq (fI ((x - p.px) * (x - p.px) + (y - p.py) * (y - p.py))) 0
  rw [sq_zero hx hy] at e0
  obtain ⟨c, d, f, ⟨c4, r4⟩, ⟨c5, r5⟩, ⟨c6, r6⟩, ⟨c7, r7⟩⟩ := argX_steps h hx hy h1 h2
  have hn := argX_nrm h hx hy h1 h2
  have hmx := fun (w : World) ts t => run_max32 (P := Tryz.prog) w ts t (hn.lo (by omega)) (hn.hi (by omega)) (b := 562036736) (by omega) (by omega)
  have hV : argV T S (x - p.px) (y - p.py) time = if argX T S (x - p.px) (y - p.py) time < 562036736 then 562036736 else argX T S (x - p.px) (y - p.py) time := rfl
  rw [← hV] at hmx
  clear hV hn
  generalize argV T S (x - p.px) (y - p.py) time = V at *
  generalize argX T S (x - p.px) (y - p.py) time = U at *
  unfold sqD at c4 r4
  unfold fI at *
  generalize floatOfInt .f32 ((x - p.px) * (x - p.px) + (y - p.py) * (y - p.py)) = D at *
  by_cases hz : x - p.px = 0 ∧ y - p.py = 0
  · rw [decide_eq_true hz] at e0
    rw [if_pos hz] at c4 r4
    clear hz h
    go_enter Tryz.func77, Tryz.ntmps77
    go_upto_region 1 with fail
    have hbel := below2 w (.cells #[.float .f32 T, .float .f32 S] 26) (.cells #[.int .i8 p.px, .int .i8 p.py, .float .f32 p.rt] 51)
    go_quiet (fail)
    go_wp2_with fail
    go_ret
    exact ⟨rfl, below_drewN hbel _⟩
  · rw [decide_eq_false hz] at e0
    rw [if_neg hz] at c4 r4
    clear hz h
    go_enter Tryz.func77, Tryz.ntmps77
    go_upto_region 1 with fail
    have hbel := below2 w (.cells #[.float .f32 T, .float .f32 S] 26) (.cells #[.int .i8 p.px, .int .i8 p.py, .float .f32 p.rt] 51)
    go_quiet (fail)
    go_wp2_with fail
    go_ret
    exact ⟨rfl, below_drewN hbel _⟩
theorem rowAq : RowTy Tryz.prog 26 2 := ⟨_, Tryz.underlying26, rfl, by kernel_rfl⟩
set_option maxRecDepth 100000 in
theorem fourPi_any (w : World) : Calls Tryz.prog 110 #[] w fun e w' => e = .returned (.float .f32 1095307227) ∧ ∃ n, w' = w.drewN n := by
  obtain ⟨c1, r1⟩ := Opr.told (op := .mul) (a := 1082130432) (b := 1078530011) (r := 1095307227) (by decide +kernel)
  go_enter Tryz.func110, Tryz.ntmps110
  go_wp2_with fail
  go_ret
  exact ⟨rfl, 0, rfl⟩
set_option maxRecDepth 100000 in
set_option maxHeartbeats 1000000 in
theorem drawdown_any (T S : Nat) (p : Wl) (x y : Int) (time : Nat) (h : Aq T S) (hp : (-100 ≤ p.px ∧ p.px ≤ 100) ∧ (-100 ≤ p.py ∧ p.py ≤ 100)) (hR : Mg p.rt 147) (hx : -15 ≤ x - p.px ∧ x - p.px ≤ 15) (hy : -15 ≤ y - p.py ∧ y - p.py ≤ 15) (h1 : 1 ≤ time) (h2 : time ≤ 100000) (w : World) :
    Calls Tryz.prog 76 #[.agg #[.float .f32 T, .float .f32 S], .agg p.cells, .int .i64 x, .int .i64 y, .int .i64 time] w fun e w' => e = .returned (.float .f32 (ddX T S p.rt (x - p.px) (y - p.py) time)) ∧ Below w.heap.size w w' := by
  have harg := fun w' => argument_any T S p x y time h hp hx hy h1 h2 w'
  have hv := argV_in h hx hy h1 h2
  have hst := ddX_steps h hR hx hy h1 h2
  have h0 : 1117782016 < argV T S (x - p.px) (y - p.py) time → ddX T S p.rt (x - p.px) (y - p.py) time = 0 := fun h => by unfold ddX; rw [if_pos h]
  generalize ddX T S p.rt (x - p.px) (y - p.py) time = D at *
  generalize argV T S (x - p.px) (y - p.py) time = V at *
  rw [p.cells_eq] at harg ⊢
  have t := fgt_eq V 1117782016
  rw [fgt_norm (by omega) (by omega) (by omega) (by omega)] at t
  by_cases hbig : 1117782016 < V
  · rw [decide_eq_true hbig] at t
    obtain rfl := h0 hbig
    clear hst h0 hv hbig
    go_enter Tryz.func76, Tryz.ntmps76
    go_upto_region 1 with fail
    have hbel := below2 w (.cells #[.float .f32 T, .float .f32 S] 26) (.cells #[.int .i8 p.px, .int .i8 p.py, .float .f32 p.rt] 51)
    go_wp2_with (go_at_call 77; refine (harg _).mono ?_; rintro e w1 ⟨rfl, hb1⟩)
    go_ret
    exact ⟨rfl, hbel.trans (hb1.mono hbel.size)⟩
  · rw [decide_eq_false hbig] at t
    obtain ⟨a, b, ⟨c1, r1⟩, ⟨c2, r2⟩, ⟨c3, r3⟩⟩ := hst (by omega)
    have hwf := fun w' => wellFunction_any V hv.1 (by omega) w'
    have h4 := fun w' => fourPi_any w'
    generalize wfX V = F at *
    clear h0 hbig
    go_enter Tryz.func76, Tryz.ntmps76
    go_upto_region 1 with fail
    have hbel := below2 w (.cells #[.float .f32 T, .float .f32 S] 26) (.cells #[.int .i8 p.px, .int .i8 p.py, .float .f32 p.rt] 51)
    have hA : Blk ((w.alloc (.cells #[.float .f32 T, .float .f32 S] 26)).alloc (.cells #[.int .i8 p.px, .int .i8 p.py, .float .f32 p.rt] 51)) w.heap.size #[.float .f32 T, .float .f32 S] 26 := (Blk.new _ _ _).alloc _
    have hB : Blk ((w.alloc (.cells #[.float .f32 T, .float .f32 S] 26)).alloc (.cells #[.int .i8 p.px, .int .i8 p.py, .float .f32 p.rt] 51)) (w.heap.size + 1) #[.int .i8 p.px, .int .i8 p.py, .float .f32 p.rt] 51 := Blk.new1 _ _ _ _
    generalize (w.alloc (.cells #[.float .f32 T, .float .f32 S] 26)).alloc (.cells #[.int .i8 p.px, .int .i8 p.py, .float .f32 p.rt] 51) = W at *
    go_upto_region 5 with (first | (refine wpList_load_blk rfl rfl rfl rowAq hA rfl ?_) | (refine wpList_load_blk rfl rfl rfl rowWl hB rfl ?_) | (go_at_call 77; refine (harg _).mono ?_; rintro e w1 ⟨rfl, hb1⟩; replace hA := hA.below hb1 hA.lt; replace hB := hB.below hb1 hB.lt) | (go_at_call 133; refine (hwf _).mono ?_; rintro e w' ⟨rfl, n1, rfl⟩))
    have x1 : (w1.drewN n1).cell? ⟨w.heap.size, 0, none⟩ = some (.float .f32 T) := hA.cell 0
    have x2 : (w1.drewN n1).cell? ⟨w.heap.size + 1, 2, none⟩ = some (.float .f32 p.rt) := hB.cell 2
    have hb2 := below_drewN (hbel.trans (hb1.mono hbel.size)) n1
    generalize w1.drewN n1 = W2 at *
    go_quiet ((go_at_call 110; exact Calls.quiet_of (h4 _)))
    go_wp2_with fail
    go_ret
    exact ⟨rfl, below_drewN hb2 _⟩
end Go.Proofs.YtglimhkpndfjgaaGreatDoor
/- Stores into a ground's cells, one by one. -/
namespace Go.Proofs.YtglimhkpndfjgaaGreatDoor
open Go.ChangeShapes Go.WideShapes Go.ChangeAt Go.RowKit
set_option linter.unusedVariables false
set_option linter.unusedSimpArgs false

/-- A store into one cell of a block: the world behind it by what it holds. -/
theorem wpList_store_abs {P : Program} {ops : Array Oper} {rest : List Oper} {o : Oper} {a : Act} {Q : Exit → Act → World → Prop} {w : World} {ty t : TypeId} {x y : Operand} {b f : Nat} {v : Value} {C : Array Value} (hgd : o.guard = none) (ho : o.op = .store ty x y) (hx : a.eval x = .pointer (some ⟨b, f, none⟩)) (hy : a.eval y = v) (hi : (P.info? ty).map (·.size) = some 1) (hv : v.cells = #[v]) (h1 : v.oneCell' = true) (hb : Blk w b C t) (hf : f < C.size)
    (h : ∀ W, Blk W b (C.setIfInBounds f v) t → w.grownBy W (some b) → wpList P ops Q rest (a.put o.dst undef) W) : wpList P ops Q (o :: rest) a w :=
  wpList_plain hgd fun K hK => by
    have hst := run_storeCells_at P b f t [v] 0 C w hb (by simp; omega) (by simpa using h1)
    unfold Oper.wp execOp
    cases hq : P.info? ty with
    | none => simp [hq] at hi
    | some i =>
      have hsz : i.size = 1 := by simpa [hq] using hi
      simp only [ho, hx, hy, Instr.storeAt, Instr.sureAddr, Sem.run_bind, Sem.run_pure, Result.andThen_ok]
      obtain ⟨W, hW, hB, hG⟩ : ∃ W, (storeVar ty ⟨b, f, none⟩ v).run P w = .ok () W ∧ Blk W b (C.setIfInBounds f v) t ∧ w.grownBy W (some b) := by
        refine ⟨w.setRow b (splice C f #[v]), ?_, ?_, ?_⟩
        · have hst' : (storeCells ⟨b, f, none⟩ [v] 0).run P w = .ok () (w.setRow b (splice C f #[v])) := by simpa [splice] using hst
          simp [storeVar, sizeOf, typeInfo, hq, hv, hsz, hst']
        · have := hb.setRow (splice C f #[v])
          have e : splice C f #[v] = C.setIfInBounds f v := by
            unfold splice
            apply Array.ext'
            simp only [Array.toList_setIfInBounds]
            rw [List.set_eq_take_append_cons_drop, if_pos (by simpa using hf)]
            simp
          rw [e] at this ⊢
          exact this
        · exact ⟨rfl, rfl, rfl, by simp, fun j hj hne => setRow_other w b j _ (fun e => hne (by rw [e]))⟩
      rw [hW]
      exact hK _ _ (h W hB hG)
def zeroGr : Gr := ⟨0, 0, fun _ => 0, fun _ => 0, fun _ => 0, 0⟩
theorem Gr.putC (g : Gr) (k b : Nat) (hk : k < 64) : g.cells.setIfInBounds (2 + k) (.float .f32 b) = ({ g with con := upd g.con k b } : Gr).cells := by
  refine Gr.cells_of _ (by simp [g.size]) fun i hi => ?_
  rw [Array.getElem?_setIfInBounds]
  by_cases h : 2 + k = i
  · rw [if_pos h, if_pos (by rw [g.size]; omega)]
    subst h
    unfold Gr.at upd
    simp only [show ¬ (2 + k = 0) by omega, show ¬ (2 + k = 1) by omega, show 2 + k < 66 by omega, if_true, if_false, show 2 + k - 2 = k by omega]
  · rw [if_neg h, g.get i hi]
    congr 1
    unfold Gr.at upd
    by_cases i0 : i = 0
    · simp only [i0, if_true]
    · by_cases i1 : i = 1
      · simp only [i1]; rfl
      · by_cases i2 : i < 66
        · simp only [i0, i1, i2, if_true, if_false, show ¬ (i - 2 = k) by omega]
        · simp only [i0, i1, i2, if_false]
theorem Gr.putG (g : Gr) (k b : Nat) (hk : k < 64) : g.cells.setIfInBounds (66 + k) (.float .f32 b) = ({ g with gai := upd g.gai k b } : Gr).cells := by
  refine Gr.cells_of _ (by simp [g.size]) fun i hi => ?_
  rw [Array.getElem?_setIfInBounds]
  by_cases h : 66 + k = i
  · rw [if_pos h, if_pos (by rw [g.size]; omega)]
    subst h
    unfold Gr.at upd
    simp only [show ¬ (66 + k = 0) by omega, show ¬ (66 + k = 1) by omega, show ¬ (66 + k < 66) by omega, show 66 + k < 130 by omega, if_true, if_false, show 66 + k - 66 = k by omega]
  · rw [if_neg h, g.get i hi]
    congr 1
    unfold Gr.at upd
    by_cases i0 : i = 0
    · simp only [i0, if_true]
    · by_cases i1 : i = 1
      · simp only [i1]; rfl
      · by_cases i2 : i < 66
        · simp only [i0, i1, i2, if_true, if_false]
        · by_cases i3 : i < 130
          · simp only [i0, i1, i2, i3, if_true, if_false, show ¬ (i - 66 = k) by omega]
          · simp only [i0, i1, i2, i3, if_false]
theorem szF32 : (Tryz.prog.info? 24).map (·.size) = some 1 := by kernel_rfl
theorem szU64 : (Tryz.prog.info? 126).map (·.size) = some 1 := by kernel_rfl
end Go.Proofs.YtglimhkpndfjgaaGreatDoor
/- The walk through the drawing of a ground. -/
namespace Go.Proofs.YtglimhkpndfjgaaGreatDoor
open Go.ChangeShapes Go.WideShapes Go.ChangeAt Go.RowKit
set_option linter.unusedVariables false
set_option linter.unusedSimpArgs false
attribute [local irreducible] Calls

section
variable {w0 wr w1 : World} {b q0 q1 K K' : Nat} {G : Gr}
end
theorem Drawn.one {W H : Int} {k : Nat} {G : Gr} (h : Drawn W H k G) (hW : 2 ≤ W) (hH : 2 ≤ H) (hf : (G.fix == 0) = true) : Drawn W H k { G with fix := 1 } := by
  have hc : isC G 0 = true := by unfold isC; rw [h.wide, h.high]; simp; omega
  have := h.setF 0 (by omega) hc
  rw [show orB G.fix 0 = 1 by rw [show G.fix = 0 by simpa using hf]; kernel_rfl] at this
  exact this
/-- What l01Drawn gives. -/
def GaveG (w : World) (b k : Nat) (e : Ending) (w' : World) : Prop := ∃ G : Gr, IsDrawn G ∧ e = .returned (.agg G.cells) ∧ Src w' b k ∧ w.grownBy w' (some b)
end Go.Proofs.YtglimhkpndfjgaaGreatDoor
