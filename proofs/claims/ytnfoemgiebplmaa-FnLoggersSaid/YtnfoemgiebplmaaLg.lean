/- What a logger keeps of a head, in the program (logged) and in the reference (l07Logged). -/
import Derived.Test.YtnfoemgiebplmaaRound
import Derived.Test.YtnfoemgiebplmaaHun
namespace Go.Proofs.Ytnfoemgiebplmaa
open Go.ChangeShapes Go.WideShapes Go.ChangeAt Go.RowKit Ieee
set_option linter.unusedVariables false
set_option linter.unusedSimpArgs false
attribute [local irreducible] Calls

theorem magW_zero : magW 0 = 0 := by simp [magW]
theorem magW_bin (e : Nat) : magW ((e + 1) * 4503599627370496) = 4503599627370496 * pw e := by
  rw [magW_ge (by omega), pw_eq, show (e + 1) * 4503599627370496 % 4503599627370496 = 0 by omega, show (e + 1) * 4503599627370496 / 4503599627370496 - 1 = e by omega]
theorem magW_one : magW 4607182418800017408 = one64 := by
  have h := magW_bin 1022
  have h2 := one64_split 52 (by omega)
  rw [show pw 52 = 4503599627370496 by rw [pw_eq], show 1074 - 52 = 1022 from rfl] at h2
  rw [h2]
  exact h
/-- math.Round of a word below two to the 52nd. -/
theorem round_val (s : Bool) (r : Nat) (he : r / 4503599627370496 < 1075) :
    ∃ z, (∀ w, Calls Try.prog 120 #[.float .f64 (double.word s r)] w fun e w' => e = .returned (.float .f64 z) ∧ w' = w) ∧ Val double z (sg s (rnd (magW r)) * (one64 : Int)) := by
  by_cases h1 : r / 4503599627370496 < 1022
  · refine ⟨_, fun w => round_small s r h1 (by omega) w, ?_⟩
    have := val_word s 0 (by omega)
    rw [magW_zero] at this
    rw [rnd_small r h1, show sg s 0 * (one64 : Int) = sg s 0 by unfold sg; cases s <;> simp]
    exact this
  · by_cases h2 : r / 4503599627370496 = 1022
    · refine ⟨_, fun w => round_half s r h2 (by omega) w, ?_⟩
      have := val_word s 4607182418800017408 (by omega)
      rw [magW_one] at this
      rw [rnd_half r h2, ← sg_mul, Nat.one_mul]
      exact this
    · obtain ⟨e, he2⟩ : ∃ e, r / 4503599627370496 = 1023 + e := ⟨r / 4503599627370496 - 1023, by omega⟩
      obtain ⟨g1, g2⟩ := rnd_mid r e he2 (by omega)
      refine ⟨_, fun w => round_mid s r e he2 (by omega) (by omega) w, ?_⟩
      rw [← sg_mul, ← g1]
      exact val_word s _ (by omega)
theorem toInt_i16 {z : Nat} {n : Int} (h : Val double z (n * (one64 : Int))) (h1 : -32768 ≤ n) (h2 : n ≤ 32767) : floatToIntVal .f64 z .i16 = some n := by
  unfold floatToIntVal
  have hp := one64_pos
  have e := toInt64_val h
  rw [Int.mul_tdiv_cancel _ (by omega)] at e
  rw [e]
  show (if IntKind.i16.min ≤ n ∧ n ≤ IntKind.i16.max then some n else none) = some n
  rw [if_pos ⟨h1, h2⟩]
set_option maxRecDepth 100000 in
set_option maxHeartbeats 400000 in
theorem logged_any (b : Nat) (w : World) (hb : plain b = true) :
    Calls Try.prog 79 #[.float .f32 b] w fun e w' => e = .returned (.int .i16 (lg b)) ∧ ∃ q, w' = w.drewN q := by
  obtain ⟨s, r, h1, h2, h3⟩ := hundred_word hb
  rw [lg_word h1 h2]
  obtain ⟨z, hz, hv⟩ := round_val s r (exp_small h3)
  have hn : isN .f32 b = false := by
    obtain ⟨s', m, k, hr, _, _⟩ := plain_form hb
    unfold isN; show (single.read b).isNaN = false; rw [hr]; rfl
  have hm := val_min hv val_32767
  rw [scale_min] at hm
  have hx := val_max hm val_neg32768
  rw [scale_max] at hx
  have hi := fun (w : World) => run_convert_float_int (P := Try.prog) w 73 41 .f64 .i16 _ _ (by kernel_rfl) Try.underlying41 (toInt_i16 hx (by omega) (by omega))
  have hwid := fun (w : World) => run_widen_num (P := Try.prog) 23 73 b Try.underlying23 Try.underlying73 hn w
  have hmul := fun (w : World) => run_float_arith (P := Try.prog) w .mul 73 .f64 _ _ _ h1
  have hmin := fun (w : World) ts t => run_fmin (P := Try.prog) w ts t _ _ (order_val_some hv val_32767)
  have hmax := fun (w : World) ts t => run_fmax (P := Try.prog) w ts t _ _ (order_val_some hm val_neg32768)
  change ∀ w, (convert _ _ _).run _ w = .ok (.int .i16 (lgv s r)) w at hi
  generalize lgv s r = L at *
  generalize fmax (fmin z 4674736138332667904) 13898108450065350656 = y2 at *
  generalize fmin z 4674736138332667904 = y1 at *
  generalize double.word s r = y0 at *
  generalize widen b = wb at *
  clear hx hm hv h1 h2 h3 hb hn
  go_enter Try.func79, Try.ntmps79
  go_wp2_with (go_at_call 120; refine (hz _).mono ?_; rintro e w' ⟨rfl, rfl⟩)
  go_ret
  exact ⟨rfl, 0, by rw [World.drewN_zero]⟩

/-! ### The reference. -/
theorem word_form (s : Bool) (r : Nat) (h : r < 9218868437227405312) : ∃ m k : Nat, double.read (double.word s r) = .number s m (-1074 + (k : Int)) ∧ m < 9007199254740992 ∧ magW r = m * 2 ^ k ∧ k ≤ r / 4503599627370496 - 1 := by
  obtain ⟨hb, hi, hl, hs, hf⟩ := double_facts
  have := read_word double s r (by rw [hs]; omega)
  rw [hb, hi, hl] at this
  by_cases h1 : r < 4503599627370496
  · rw [if_pos h1] at this
    exact ⟨r, 0, by rw [this]; simp, by omega, by unfold magW; rw [if_pos h1]; simp, by omega⟩
  · rw [if_neg h1, if_pos h] at this
    exact ⟨_, r / 4503599627370496 - 1, this, by omega, by unfold magW; rw [if_neg h1], Nat.le_refl _⟩
theorem sg_bound (s : Bool) {q : Nat} (h : q ≤ 32767) : sg s q ≤ 32767 ∧ -32767 ≤ sg s q := by
  unfold sg
  cases s
  · simp only [Bool.false_eq_true, if_false]; omega
  · simp only [if_true]; omega
theorem sg_natAbs (s : Bool) (n : Nat) : (sg s n).natAbs = n := by unfold sg; cases s <;> simp
theorem sg_of (D : Int) (s : Bool) (h : D ≠ 0 → s = decide (D < 0)) : D = sg s D.natAbs := by
  by_cases h0 : D = 0
  · subst h0; unfold sg; cases s <;> simp
  · rw [h h0]; unfold sg
    by_cases h1 : D < 0
    · rw [decide_eq_true h1, if_pos rfl]; omega
    · rw [decide_eq_false h1]; simp only [Bool.false_eq_true, if_false]; omega
/-- A difference of few digits is exact. -/
theorem sub_exact {y z : Nat} {s : Bool} {m k : Nat} {Y : Int} (hy : double.read y = .number s m (-1074 + (k : Int))) (hz : Val double z Y) (m2 : Nat) (hd : (sg s (m * 2 ^ k) - Y).natAbs = m2 * 2 ^ k) (hm2 : m2 < 9007199254740992) (hk : k ≤ 2044) :
    ∃ x, floatBits .sub .f64 y z = some x ∧ Val double x (sg s (m * 2 ^ k) - Y) := by
  obtain ⟨t, n, l, h2, rfl⟩ := hz
  rw [double_facts.2.2.1] at h2
  show ∃ x, ((double.read y).sum (double.read z).opposite).map double.write = some x ∧ _
  rw [hy, h2]
  simp only [Datum.opposite, Datum.sum, Option.map_some]
  obtain ⟨u, hu⟩ : ∃ u, u = min k l := ⟨_, rfl⟩
  have e0 : min (-1074 + (k : Int)) (-1074 + (l : Int)) = -1074 + (u : Int) := by omega
  rw [e0, show (-1074 + (k : Int) - (-1074 + (u : Int))).toNat = k - u by omega, show (-1074 + (l : Int) - (-1074 + (u : Int))).toNat = l - u by omega, signed_sg, signed_sg]
  have eD : (sg s (m * 2 ^ (k - u)) + sg (!t) (n * 2 ^ (l - u))) * (2 ^ u : Nat) = sg s (m * 2 ^ k) - sg t (n * 2 ^ l) := by
    rw [Int.add_mul, ← sg_mul, ← sg_mul, Nat.mul_assoc, Nat.mul_assoc, ← Nat.pow_add, ← Nat.pow_add, Nat.sub_add_cancel (by omega), Nat.sub_add_cancel (by omega)]
    have : sg (!t) (n * 2 ^ l) = - sg t (n * 2 ^ l) := by unfold sg; cases t <;> simp
    rw [this]; omega
  rw [← eD] at hd ⊢
  generalize sg s (m * 2 ^ (k - u)) + sg (!t) (n * 2 ^ (l - u)) = D at *
  have hA : D.natAbs = m2 * 2 ^ (k - u) := by
    rw [Int.natAbs_mul, Int.natAbs_natCast, show m2 * 2 ^ k = m2 * 2 ^ (k - u) * 2 ^ u by rw [Nat.mul_assoc, ← Nat.pow_add, Nat.sub_add_cancel (by omega)]] at hd
    exact Nat.eq_of_mul_eq_mul_right (Nat.two_pow_pos _) hd
  obtain ⟨r, g1, g2, g3⟩ := nearest_exact (if D = 0 then s && !t else decide (D < 0)) m2 (k - u) u hm2 (by omega)
  refine ⟨_, rfl, ?_⟩
  show Val double (double.nearest (if D = 0 then s && !t else decide (D < 0)) D.natAbs (-1074 + (u : Int))) _
  rw [hA, g1]
  have := val_word (if D = 0 then s && !t else decide (D < 0)) r g2
  rw [g3, Nat.pow_add, ← Nat.mul_assoc, ← hA, sg_mul, ← sg_of D _ (fun h => by rw [if_neg h])] at this
  exact this
theorem rnd_split (M H : Nat) (h : one64 = 2 * H) : rnd M = M / one64 + if H ≤ M % one64 then 1 else 0 := by
  have hp := one64_pos
  have hdm := Nat.div_add_mod M one64
  have hlt := Nat.mod_lt M hp
  unfold rnd
  generalize M % one64 = ρ at *
  generalize M / one64 = q at *
  have e : 2 * M + one64 = 2 * one64 * q + (2 * ρ + one64) := by rw [← hdm, Nat.mul_add, Nat.mul_assoc]; omega
  rw [e, Nat.mul_add_div (by omega)]
  congr 1
  by_cases h1 : H ≤ ρ
  · rw [if_pos h1, Nat.div_eq_iff (by omega)]; omega
  · rw [if_neg h1, Nat.div_eq_iff (by omega)]; omega
/-- What is left of a number where its whole part is taken away. -/
theorem rest_val (s : Bool) (r : Nat) (hr : r < 9218868437227405312) (he : r / 4503599627370496 < 1075) (hq : magW r / one64 < 9007199254740992) :
    ∃ x, floatBits .sub .f64 (double.word s r) (floatOfInt .f64 (sg s (magW r / one64))) = some x ∧ Val double x (sg s (magW r % one64)) := by
  obtain ⟨m, k, h1, h2, h3, h4⟩ := word_form s r hr
  have hfn : Val double (floatOfInt .f64 (sg s (magW r / one64))) (sg s (magW r / one64) * (one64 : Int)) := by
    generalize magW r / one64 = q at *
    show Val double (double.nearest (decide (sg s q < 0)) (sg s q).natAbs 0) _
    obtain ⟨c, hc⟩ : ∃ c : Nat, c = 1074 := ⟨_, rfl⟩
    have hone : one64 = pw c := by rw [hc]; rfl
    obtain ⟨r', g1, g2, g3⟩ := nearest_exact (decide (sg s q < 0)) q 0 c hq (by omega)
    rw [Nat.pow_zero, Nat.mul_one, show (-1074 + (c : Int)) = 0 by omega] at g1
    rw [sg_natAbs, g1]
    have := val_word (decide (sg s q < 0)) r' g2
    rw [g3, Nat.zero_add, ← pw_eq, ← hone, sg_mul] at this
    have e : sg (decide (sg s q < 0)) q = sg s q := by
      have := sg_of (sg s q) (decide (sg s q < 0)) (fun _ => rfl)
      rw [sg_natAbs] at this
      exact this.symm
    rw [e] at this
    exact this
  have hd : sg s (m * 2 ^ k) - sg s (magW r / one64) * (one64 : Int) = sg s (magW r % one64) := by
    rw [← h3, ← sg_mul]
    have := Nat.div_add_mod (magW r) one64
    rw [Nat.mul_comm] at this
    unfold sg
    cases s
    · simp only [Bool.false_eq_true, if_false]; omega
    · simp only [if_true]; omega
  have ho : one64 = 2 ^ k * 2 ^ (1074 - k) := by rw [one64_split k (by omega), pw_eq, pw_eq]
  have hm : magW r % one64 = m % 2 ^ (1074 - k) * 2 ^ k := by
    rw [h3, ho, Nat.mul_comm m, Nat.mul_mod_mul_left, Nat.mul_comm]
  obtain ⟨x, g1, g2⟩ := sub_exact h1 hfn (m % 2 ^ (1074 - k)) (by rw [hd, sg_natAbs, hm]) (Nat.lt_of_le_of_lt (Nat.mod_le _ _) h2) (by omega)
  rw [hd] at g2
  exact ⟨x, g1, g2⟩

theorem order_f64_ge {a b : Nat} {x y : Int} (ha : Val double a x) (hb : Val double b y) : (FloatKind.f64.format.order a b == some .gt || FloatKind.f64.format.order a b == some .eq) = decide (y ≤ x) := order_ge ha hb
theorem order_f64_le {a b : Nat} {x y : Int} (ha : Val double a x) (hb : Val double b y) : (FloatKind.f64.format.order a b == some .lt || FloatKind.f64.format.order a b == some .eq) = decide (x ≤ y) := order_le ha hb
theorem lgv_pos {s : Bool} {r : Nat} (h : 32767 * (one64 : Int) ≤ sg s (magW r)) : lgv s r = 32767 := by
  have hp := one64_pos
  have hr := rnd_split
  unfold sg at h
  cases s
  · simp only [Bool.false_eq_true, if_false] at h
    have : 32767 ≤ rnd (magW r) := by
      unfold rnd
      rw [Nat.le_div_iff_mul_le (by omega)]
      have : 32767 * one64 ≤ magW r := by omega
      omega
    unfold lgv sg
    simp only [Bool.false_eq_true, if_false]
    omega
  · simp only [if_true] at h; omega
theorem lgv_neg {s : Bool} {r : Nat} (h : sg s (magW r) ≤ -32768 * (one64 : Int)) : lgv s r = -32768 := by
  have hp := one64_pos
  unfold sg at h
  cases s
  · simp only [Bool.false_eq_true, if_false] at h; omega
  · simp only [if_true] at h
    have : 32768 ≤ rnd (magW r) := by
      unfold rnd
      rw [Nat.le_div_iff_mul_le (by omega)]
      have : 32768 * one64 ≤ magW r := by omega
      omega
    unfold lgv sg
    simp only [if_true]
    omega
theorem clamp_mid {x : Int} (h1 : -32768 ≤ x) (h2 : x ≤ 32767) : max (min x 32767) (-32768) = x := by rw [Int.min_eq_left h2, Int.max_eq_left h1]
/-- The number that the reference ends with, between both bounds. -/
theorem lgv_mid {s : Bool} {r H : Nat} (hH : one64 = 2 * H) (h1 : ¬ 32767 * (one64 : Int) ≤ sg s (magW r)) (h2 : ¬ sg s (magW r) ≤ -32768 * (one64 : Int)) :
    magW r / one64 ≤ 32767 ∧ -32768 ≤ lgv s r ∧ lgv s r ≤ 32767 ∧ lgv s r = sg s (magW r / one64) + (if (H : Int) ≤ sg s (magW r % one64) then 1 else 0) - (if sg s (magW r % one64) ≤ -(H : Int) then 1 else 0) := by
  have hp := one64_pos
  have hs := rnd_split (magW r) H hH
  have hdm := Nat.div_add_mod (magW r) one64
  have hlt := Nat.mod_lt (magW r) hp
  have hq : magW r / one64 ≤ 32767 := by
    have : magW r < 32768 * one64 := by
      unfold sg at h1 h2
      cases s
      · simp only [Bool.false_eq_true, if_false] at h1; omega
      · simp only [if_true] at h2; omega
    have := (Nat.div_lt_iff_lt_mul hp).2 this
    omega
  have hq2 : s = false → magW r / one64 ≤ 32766 := by
    intro h; subst h
    unfold sg at h1
    simp only [Bool.false_eq_true, if_false] at h1
    have : magW r < 32767 * one64 := by omega
    have := (Nat.div_lt_iff_lt_mul hp).2 this
    omega
  refine ⟨hq, by unfold lgv; omega, by unfold lgv; omega, ?_⟩
  unfold lgv
  rw [hs]
  generalize magW r % one64 = ρ at *
  generalize magW r / one64 = q at *
  clear h1 h2 hs hdm
  unfold sg
  cases s
  · have hq3 := hq2 rfl
    clear hq2
    simp only [Bool.false_eq_true, if_false]
    by_cases h : H ≤ ρ
    · rw [if_pos h, if_pos (show (H : Int) ≤ ρ by omega), if_neg (by omega), clamp_mid (by omega) (by omega)]; omega
    · rw [if_neg h, if_neg (show ¬ (H : Int) ≤ ρ by omega), if_neg (by omega), clamp_mid (by omega) (by omega)]; omega
  · clear hq2
    simp only [if_true]
    by_cases h : H ≤ ρ
    · rw [if_pos h, if_neg (by omega), if_pos (by omega), clamp_mid (by omega) (by omega)]; omega
    · rw [if_neg h, if_neg (by omega), if_neg (by omega), clamp_mid (by omega) (by omega)]; omega
set_option maxRecDepth 100000 in
set_option maxHeartbeats 400000 in
theorem l07Logged_any (b : Nat) (w : World) (hb : plain b = true) :
    Calls Try.prog 77 #[.float .f32 b] w fun e w' => e = .returned (.int .i16 (lg b)) ∧ ∃ q, w' = w.drewN q := by
  obtain ⟨s, r, h1, h2, h3⟩ := hundred_word hb
  rw [lg_word h1 h2]
  have hn : isN .f32 b = false := by
    obtain ⟨s', m, k, hr, _, _⟩ := plain_form hb
    unfold isN; show (single.read b).isNaN = false; rw [hr]; rfl
  have hv := val_word s r h2
  have t1 := order_f64_ge hv val_32767
  have t2 := order_f64_le hv val_neg32768
  have he := exp_small h3
  have hwid := fun (w : World) => run_widen_num (P := Try.prog) 23 73 b Try.underlying23 Try.underlying73 hn w
  have hmul := fun (w : World) => run_float_arith (P := Try.prog) w .mul 73 .f64 _ _ _ h1
  by_cases c1 : 32767 * (one64 : Int) ≤ sg s (magW r)
  · rw [lgv_pos c1]
    rw [decide_eq_true c1] at t1
    generalize double.word s r = y0 at *
    generalize widen b = wb at *
    clear hv h1 h2 h3 hb hn he c1 t2
    go_enter Try.func77, Try.ntmps77
    go_wp2_with fail
    go_ret
    exact ⟨rfl, 0, by rw [World.drewN_zero]⟩
  · by_cases c2 : sg s (magW r) ≤ -32768 * (one64 : Int)
    · rw [lgv_neg c2]
      rw [decide_eq_false c1] at t1
      rw [decide_eq_true c2] at t2
      generalize double.word s r = y0 at *
      generalize widen b = wb at *
      clear hv h1 h2 h3 hb hn he c1 c2
      go_enter Try.func77, Try.ntmps77
      go_wp2_with fail
      go_ret
      exact ⟨rfl, 0, by rw [World.drewN_zero]⟩
    · obtain ⟨H, v1, v2, hH⟩ := val_half
      obtain ⟨hq, l1, l2, hl⟩ := lgv_mid hH c1 c2
      rw [decide_eq_false c1] at t1
      rw [decide_eq_false c2] at t2
      obtain ⟨x, hx, vx⟩ := rest_val s r h2 he (by omega)
      have t3 := order_f64_ge vx v1
      have t4 := order_f64_le vx v2
      have hi : ∀ w, (convert 73 2 (.float .f64 (double.word s r))).run Try.prog w = .ok (.int .i64 (sg s (magW r / one64))) w := by
        intro w
        refine run_convert_float_int (P := Try.prog) w 73 2 .f64 .i64 _ _ (by kernel_rfl) Try.underlying2 ?_
        unfold floatToIntVal
        have e := toInt64_val hv
        rw [tdiv_sg] at e
        rw [e]
        show (if IntKind.i64.min ≤ _ ∧ _ ≤ IntKind.i64.max then _ else none) = _
        have := sg_bound s hq
        rw [if_pos ⟨Int.le_trans (by decide) this.2, Int.le_trans this.1 (by decide)⟩]
      have hb1 := sg_bound s hq
      have hsub := fun (w : World) => run_float_arith (P := Try.prog) w .sub 73 .f64 _ _ _ hx
      have hpos : 0 < H := by have := one64_pos; omega
      generalize sg s (magW r % one64) = R at *
      generalize sg s (magW r / one64) = Q at *
      generalize lgv s r = L at *
      generalize double.word s r = y0 at *
      generalize widen b = wb at *
      clear hv h1 h2 h3 hb hn he c1 c2 v1 v2 hH hx vx hq
      obtain ⟨q1, q2⟩ := hb1
      by_cases d3 : (H : Int) ≤ R
      · have d4 : ¬ R ≤ -(H : Int) := by omega
        rw [decide_eq_true d3] at t3
        rw [decide_eq_false d4] at t4
        rw [if_pos d3, if_neg d4] at hl
        obtain rfl : L = Q + 1 := by omega
        clear d3 d4 hl hpos
        go_enter Try.func77, Try.ntmps77
        go_wp2_with fail
        go_ret
        exact ⟨rfl, 0, by rw [World.drewN_zero]⟩
      · by_cases d4 : R ≤ -(H : Int)
        · rw [decide_eq_false d3] at t3
          rw [decide_eq_true d4] at t4
          rw [if_neg d3, if_pos d4] at hl
          obtain rfl : L = Q - 1 := by omega
          clear d3 d4 hl hpos
          go_enter Try.func77, Try.ntmps77
          go_wp2_with fail
          go_ret
          exact ⟨rfl, 0, by rw [World.drewN_zero]⟩
        · rw [decide_eq_false d3] at t3
          rw [decide_eq_false d4] at t4
          rw [if_neg d3, if_neg d4] at hl
          obtain rfl : L = Q := by omega
          clear d3 d4 hl hpos
          go_enter Try.func77, Try.ntmps77
          go_wp2_with fail
          go_ret
          exact ⟨rfl, 0, by rw [World.drewN_zero]⟩
end Go.Proofs.Ytnfoemgiebplmaa
