import Derived.Test.YtmmfnklnmdhkiaaGreatMU17
/- A hundred times a head, and its nearest whole number cut to sixteen bits. Plain laws on words; no statement is proved here. -/
namespace Go.Proofs.YtmmfnklnmdhkiaaGreat
open Go.ChangeShapes Go.WideShapes Go.ChangeAt Go.RowKit Ieee
set_option linter.unusedVariables false
set_option linter.unusedSimpArgs false

theorem pw_le {a b : Nat} (h : a ≤ b) : pw a ≤ pw b := by rw [pw_eq, pw_eq]; exact Nat.pow_le_pow_right (by omega) h
theorem cmp_int (a b : Int) : compare a b = if a < b then .lt else if a = b then .eq else .gt := rfl
theorem order_ge {f : Format} {a b : Nat} {x y : Int} (ha : Val f a x) (hb : Val f b y) : (f.order a b == some .gt || f.order a b == some .eq) = decide (y ≤ x) := by
  rw [order_val ha hb, cmp_int]
  by_cases h1 : x < y
  · rw [if_pos h1, decide_eq_false (by omega)]; rfl
  · rw [if_neg h1, decide_eq_true (by omega)]
    by_cases h2 : x = y
    · rw [if_pos h2]; rfl
    · rw [if_neg h2]; rfl
theorem order_le {f : Format} {a b : Nat} {x y : Int} (ha : Val f a x) (hb : Val f b y) : (f.order a b == some .lt || f.order a b == some .eq) = decide (x ≤ y) := by
  rw [order_val ha hb, cmp_int]
  by_cases h1 : x < y
  · rw [if_pos h1, decide_eq_true (by omega)]; rfl
  · rw [if_neg h1]
    by_cases h2 : x = y
    · rw [if_pos h2, decide_eq_true (by omega)]; rfl
    · rw [if_neg h2, decide_eq_false (by omega)]; rfl
theorem val_num {b : Nat} {s : Bool} {m k : Nat} (h : single.read b = .number s m (-149 + (k : Int))) : Val single b (sg s (m * 2 ^ k)) := ⟨s, m, k, by rw [h]; rfl, rfl⟩
/-- What a plain number's bits are. -/
theorem plain_form {b : Nat} (h : plain b = true) : ∃ (s : Bool) (m k : Nat), single.read b = .number s m (-149 + (k : Int)) ∧ m < 16777216 ∧ m * 2 ^ k ≤ pw 169 := by
  unfold plain fge fle at h
  rw [Bool.and_eq_true] at h
  obtain ⟨h1, h2⟩ := h
  have c1 : Val single 3380609024 (sg true (8388608 * 2 ^ 146)) := ⟨true, 8388608, 146, by decide, rfl⟩
  have c2 : Val single 1233125376 (sg false (8388608 * 2 ^ 146)) := ⟨false, 8388608, 146, by decide, rfl⟩
  have e1 : single.read 3380609024 = .number true 8388608 (-3) := by decide
  have e2 : single.read 1233125376 = .number false 8388608 (-3) := by decide
  change (single.order b 3380609024 == some .gt || single.order b 3380609024 == some .eq) = true at h1
  change (single.order b 1233125376 == some .lt || single.order b 1233125376 == some .eq) = true at h2
  cases hr : single.read b with
  | nan s f => unfold Format.order at h1; rw [hr] at h1; cases h1
  | infinity s =>
    unfold Format.order at h1 h2; rw [hr, e1] at h1; rw [hr, e2] at h2
    cases s
    · cases h2
    · cases h1
  | number s m e =>
    obtain ⟨q1, q2, q3⟩ := single_range hr
    have he : e = -149 + ((e + 149).toNat : Int) := by omega
    rw [he] at hr
    have hv := val_num hr
    rw [order_ge hv c1] at h1
    rw [order_le hv c2] at h2
    have h1 := of_decide_eq_true h1
    have h2 := of_decide_eq_true h2
    rw [he]
    refine ⟨s, m, _, rfl, q1, ?_⟩
    have hp : pw 169 = 8388608 * 2 ^ 146 := by rw [pw_eq]
    rw [hp]
    unfold sg at h1 h2
    generalize m * 2 ^ (e + 149).toNat = X at *
    cases s
    · simp only [Bool.false_eq_true, if_false] at h2
      exact Int.ofNat_le.1 h2
    · simp only [if_true] at h1
      exact Int.ofNat_le.1 (by omega)
/-- A hundred times a plain head: a finite word, not too great. -/
theorem hundred_word {b : Nat} (h : plain b = true) : ∃ (s : Bool) (r : Nat), floatBits .mul .f64 4636737291354636288 (widen b) = some (double.word s r) ∧ r < 9218868437227405312 ∧ magW r ≤ 104857600 * one64 := by
  obtain ⟨s, m, k, hr, hm, hle⟩ := plain_form h
  have hn : isN .f32 b = false := by unfold isN; show (single.read b).isNaN = false; rw [hr]; rfl
  have hw : widen b = double.nearest s m (-149 + (k : Int)) := by
    unfold widen; rw [hn]
    show double.write (single.read b) = _
    rw [hr]; rfl
  have hc : double.read 4636737291354636288 = .number false 7036874417766400 (-46) := by decide
  show ∃ (s' : Bool) (r : Nat), ((double.read 4636737291354636288).product (double.read (widen b))).map double.write = some (double.word s' r) ∧ _
  rw [hc, hw]
  by_cases h0 : m = 0
  · subst h0
    have e1 : double.nearest s 0 (-149 + (k : Int)) = double.word s 0 := by simp [Format.nearest]
    have e2 : double.read (double.word s 0) = .number s 0 (-1074) := by cases s <;> decide
    rw [e1, e2]
    refine ⟨false ^^ s, 0, ?_, by omega, by simp [magW]⟩
    show some (double.nearest (false ^^ s) (7036874417766400 * 0) (-46 + -1074)) = _
    simp [Format.nearest]
  · obtain ⟨r0, h1, h2, h3⟩ := read_widen hr h0
    have hL : m.log2 < 24 := (Nat.log2_lt h0).2 (by omega)
    have hk : k ≤ 169 := by
      have : 2 ^ k ≤ 2 ^ 169 := by rw [← pw_eq 169]; exact Nat.le_trans (Nat.le_mul_of_pos_left _ (by omega)) hle
      exact (Nat.pow_le_pow_iff_right (by omega)).1 this
    rw [h1, h3]
    obtain ⟨r, g1, g2, g3⟩ := nearest_exact (false ^^ s) (25 * m) (100 - m.log2) (827 + k + m.log2) (by omega) (by omega)
    refine ⟨false ^^ s, r, ?_, g2, ?_⟩
    · show some (double.nearest (false ^^ s) (7036874417766400 * (m <<< (52 - m.log2))) (-46 + (-149 + (k : Int) - (52 - m.log2 : Nat)))) = _
      rw [← g1]
      congr 2
      · rw [Nat.shiftLeft_eq, show 100 - m.log2 = 48 + (52 - m.log2) by omega, Nat.pow_add, ← Nat.mul_assoc, ← Nat.mul_assoc]
        congr 1
        rw [show (2 : Nat) ^ 48 = 281474976710656 by decide]; omega
      · omega
    · rw [g3, show 100 - m.log2 + (827 + k + m.log2) = k + 927 by omega, Nat.pow_add, ← Nat.mul_assoc, Nat.mul_assoc 25, ← pw_eq 927]
      have e1 : pw 1096 = pw 169 * pw 927 := pw_split (by omega)
      have e2 : pw 1096 = pw 22 * one64 := pw_split (by omega)
      have e3 : pw 22 = 4194304 := by rw [pw_eq]
      rw [e3] at e2
      have e4 : m * 2 ^ k * pw 927 ≤ pw 169 * pw 927 := Nat.mul_le_mul_right _ hle
      rw [← e1, e2] at e4
      rw [Nat.mul_assoc]
      omega
/-- The nearest whole number, cut to sixteen bits. -/
def lgv (s : Bool) (r : Nat) : Int := max (min (sg s (rnd (magW r))) 32767) (-32768)
def lg (b : Nat) : Int := match floatBits .mul .f64 4636737291354636288 (widen b) with | some y => lgv (y / 9223372036854775808 % 2 == 1) (y % 9223372036854775808) | none => 0
theorem lg_word {b : Nat} {s : Bool} {r : Nat} (h : floatBits .mul .f64 4636737291354636288 (widen b) = some (double.word s r)) (hr : r < 9218868437227405312) : lg b = lgv s r := by
  unfold lg
  rw [h]
  have h1 := word_mod double s r (by rw [double_facts.2.2.2.1]; omega)
  rw [double_facts.2.2.2.1] at h1
  have h2 : (double.word s r / 9223372036854775808 % 2 == 1) = s := by
    unfold Format.word
    rw [double_facts.2.2.2.1]
    cases s
    · simp only [Bool.false_eq_true, if_false]; rw [Nat.div_eq_of_lt (by omega)]; rfl
    · simp only [if_true]; rw [Nat.add_div_left _ (by omega), Nat.div_eq_of_lt (by omega)]; rfl
  show lgv _ _ = _
  rw [h1, h2]
/-- The exponent of a word that is not too great. -/
theorem exp_small {r : Nat} (h : magW r ≤ 104857600 * one64) : r / 4503599627370496 < 1075 := by
  by_cases hlt : r / 4503599627370496 < 1075
  · exact hlt
  · exfalso
    have h1 := magW_ge (r := r) (by omega)
    have h3 : 4503599627370496 * 2 ^ (r / 4503599627370496 - 1) ≤ magW r := by rw [h1]; exact Nat.mul_le_mul_right _ (by omega)
    have h4 : one64 ≤ 2 ^ (r / 4503599627370496 - 1) := by rw [← pw_eq]; exact pw_le (by omega)
    have := one64_pos
    omega
/-- The lesser, and the greater, of two numbers. -/
def fmin (a b : Nat) : Nat := match double.order a b with | some .lt => a | some .gt => b | _ => if (FloatKind.f64.decode a).neg then a else b
def fmax (a b : Nat) : Nat := match double.order a b with | some .lt => b | some .gt => a | _ => if (FloatKind.f64.decode a).neg then b else a
theorem val_min {a b : Nat} {x y : Int} (ha : Val double a x) (hb : Val double b y) : Val double (fmin a b) (min x y) := by
  unfold fmin
  rw [order_val ha hb, cmp_int]
  by_cases h1 : x < y
  · rw [if_pos h1, show min x y = x by omega]; exact ha
  · rw [if_neg h1, show min x y = y by omega]
    by_cases h2 : x = y
    · rw [if_pos h2]; subst h2
      show Val double (if _ then a else b) x
      split
      · exact ha
      · exact hb
    · rw [if_neg h2]; exact hb
theorem val_max {a b : Nat} {x y : Int} (ha : Val double a x) (hb : Val double b y) : Val double (fmax a b) (max x y) := by
  unfold fmax
  rw [order_val ha hb, cmp_int]
  by_cases h1 : x < y
  · rw [if_pos h1, show max x y = y by omega]; exact hb
  · rw [if_neg h1, show max x y = x by omega]
    by_cases h2 : x = y
    · rw [if_pos h2]; subst h2
      show Val double (if _ then b else a) x
      split
      · exact hb
      · exact ha
    · rw [if_neg h2]; exact ha
theorem order_val_some {a b : Nat} {x y : Int} (ha : Val double a x) (hb : Val double b y) : ∃ o, FloatKind.f64.format.order a b = some o := ⟨_, order_val ha hb⟩
theorem run_fmin {P : Program} (w : World) (ts : Array TypeId) (t : TypeId) (a b : Nat) (h : ∃ o, FloatKind.f64.format.order a b = some o) : (Builtin.min_ ts t #[.float .f64 a, .float .f64 b]).run P w = .ok (.float .f64 (fmin a b)) w := by
  obtain ⟨o, h⟩ := h
  have h' : double.order a b = some o := h
  unfold fmin
  rw [h']
  cases o <;> simp [Builtin.min_, Builtin.min2, h]
theorem run_fmax {P : Program} (w : World) (ts : Array TypeId) (t : TypeId) (a b : Nat) (h : ∃ o, FloatKind.f64.format.order a b = some o) : (Builtin.max_ ts t #[.float .f64 a, .float .f64 b]).run P w = .ok (.float .f64 (fmax a b)) w := by
  obtain ⟨o, h⟩ := h
  have h' : double.order a b = some o := h
  unfold fmax
  rw [h']
  cases o <;> simp [Builtin.max_, Builtin.max2, h]
theorem toInt64_val {a : Nat} {x : Int} (ha : Val double a x) : (FloatKind.f64.decode a).toInt .zero = some (Int.tdiv x (one64 : Int)) := toInt_val 1074 rfl ha
theorem scale_min (x c : Int) : min (x * (one64 : Int)) (c * (one64 : Int)) = min x c * (one64 : Int) := by
  have hp : (0 : Int) ≤ (one64 : Int) := by omega
  by_cases h : x ≤ c
  · have h2 := Int.mul_le_mul_of_nonneg_right h hp
    rw [Int.min_eq_left h, Int.min_eq_left h2]
  · have h' : c ≤ x := by omega
    have h2 := Int.mul_le_mul_of_nonneg_right h' hp
    rw [Int.min_eq_right h', Int.min_eq_right h2]
theorem scale_max (x c : Int) : max (x * (one64 : Int)) (c * (one64 : Int)) = max x c * (one64 : Int) := by
  have hp : (0 : Int) ≤ (one64 : Int) := by omega
  by_cases h : x ≤ c
  · have h2 := Int.mul_le_mul_of_nonneg_right h hp
    rw [Int.max_eq_right h, Int.max_eq_right h2]
  · have h' : c ≤ x := by omega
    have h2 := Int.mul_le_mul_of_nonneg_right h' hp
    rw [Int.max_eq_left h', Int.max_eq_left h2]
theorem val_neg32768 : Val double 13898108450065350656 (-32768 * (one64 : Int)) := by
  refine ⟨true, 4503599627370496, 1037, by decide, ?_⟩
  rw [show sg true (4503599627370496 * 2 ^ 1037) = -((4503599627370496 * pw 1037 : Nat) : Int) by rw [pw_eq]; rfl, one64_split 37 (by omega), show pw 37 = 137438953472 by rw [pw_eq], show 1074 - 37 = 1037 from rfl]
  omega
theorem val_half : ∃ V : Nat, Val double 4602678819172646912 (V : Int) ∧ Val double 13826050856027422720 (-(V : Int)) ∧ one64 = 2 * V := by
  refine ⟨4503599627370496 * pw 1021, ⟨false, 4503599627370496, 1021, by decide, by rw [pw_eq]; rfl⟩, ⟨true, 4503599627370496, 1021, by decide, by rw [pw_eq]; rfl⟩, ?_⟩
  rw [one64_split 53 (by omega), show pw 53 = 9007199254740992 by rw [pw_eq], show 1074 - 53 = 1021 from rfl]
  omega
theorem val_32767 : Val double 4674736138332667904 (32767 * (one64 : Int)) := by
  refine ⟨false, 9006924376834048, 1036, by decide, ?_⟩
  rw [show sg false (9006924376834048 * 2 ^ 1036) = ((9006924376834048 * pw 1036 : Nat) : Int) by rw [pw_eq]; rfl, one64_split 38 (by omega), show pw 38 = 274877906944 by rw [pw_eq], show 1074 - 38 = 1036 from rfl]
  omega
end Go.Proofs.YtmmfnklnmdhkiaaGreat
/- What a logger keeps of a head, in the program (logged) and in the reference (l07Logged). -/
namespace Go.Proofs.YtmmfnklnmdhkiaaGreat
open Go.ChangeShapes Go.WideShapes Go.ChangeAt Go.RowKit Ieee
set_option linter.unusedVariables false
set_option linter.unusedSimpArgs false
attribute [local irreducible] Calls

theorem magW_zero : magW 0 = 0 := by simp [magW]
theorem magW_bin (e : Nat) : magW ((e + 1) * 4503599627370496) = 4503599627370496 * pw e := by
  rw [magW_ge (by omega), pw_eq, show (e + 1) * 4503599627370496 % 4503599627370496 = 0 by omega, show (e + 1) * 4503599627370496 / 4503599627370496 - 1 = e by omega]
theorem magW_one : magW 4607182418800017408 = one64 := by
  have h := magW_bin 1022
  have h2 := one64_split 52 (by omega)
  rw [show pw 52 = 4503599627370496 by rw [pw_eq], show 1074 - 52 = 1022 from rfl] at h2
  rw [h2]
  exact h
theorem toInt_i16 {z : Nat} {n : Int} (h : Val double z (n * (one64 : Int))) (h1 : -32768 ≤ n) (h2 : n ≤ 32767) : floatToIntVal .f64 z .i16 = some n := by
  unfold floatToIntVal
  have hp := one64_pos
  have e := toInt64_val h
  rw [Int.mul_tdiv_cancel _ (by omega)] at e
  rw [e]
  show (if IntKind.i16.min ≤ n ∧ n ≤ IntKind.i16.max then some n else none) = some n
  rw [if_pos ⟨h1, h2⟩]
/-! ### The reference. -/
theorem word_form (s : Bool) (r : Nat) (h : r < 9218868437227405312) : ∃ m k : Nat, double.read (double.word s r) = .number s m (-1074 + (k : Int)) ∧ m < 9007199254740992 ∧ magW r = m * 2 ^ k ∧ k ≤ r / 4503599627370496 - 1 := by
  obtain ⟨hb, hi, hl, hs, hf⟩ := double_facts
  have := read_word double s r (by rw [hs]; omega)
  rw [hb, hi, hl] at this
  by_cases h1 : r < 4503599627370496
  · rw [if_pos h1] at this
    exact ⟨r, 0, by rw [this]; simp, by omega, by unfold magW; rw [if_pos h1]; simp, by omega⟩
  · rw [if_neg h1, if_pos h] at this
    exact ⟨_, r / 4503599627370496 - 1, this, by omega, by unfold magW; rw [if_neg h1], Nat.le_refl _⟩
theorem sg_bound (s : Bool) {q : Nat} (h : q ≤ 32767) : sg s q ≤ 32767 ∧ -32767 ≤ sg s q := by
  unfold sg
  cases s
  · simp only [Bool.false_eq_true, if_false]; omega
  · simp only [if_true]; omega
theorem sg_natAbs (s : Bool) (n : Nat) : (sg s n).natAbs = n := by unfold sg; cases s <;> simp
theorem sg_of (D : Int) (s : Bool) (h : D ≠ 0 → s = decide (D < 0)) : D = sg s D.natAbs := by
  by_cases h0 : D = 0
  · subst h0; unfold sg; cases s <;> simp
  · rw [h h0]; unfold sg
    by_cases h1 : D < 0
    · rw [decide_eq_true h1, if_pos rfl]; omega
    · rw [decide_eq_false h1]; simp only [Bool.false_eq_true, if_false]; omega
/-- A difference of few digits is exact. -/
theorem sub_exact {y z : Nat} {s : Bool} {m k : Nat} {Y : Int} (hy : double.read y = .number s m (-1074 + (k : Int))) (hz : Val double z Y) (m2 : Nat) (hd : (sg s (m * 2 ^ k) - Y).natAbs = m2 * 2 ^ k) (hm2 : m2 < 9007199254740992) (hk : k ≤ 2044) :
    ∃ x, floatBits .sub .f64 y z = some x ∧ Val double x (sg s (m * 2 ^ k) - Y) := by
  obtain ⟨t, n, l, h2, rfl⟩ := hz
  rw [double_facts.2.2.1] at h2
  show ∃ x, ((double.read y).sum (double.read z).opposite).map double.write = some x ∧ _
  rw [hy, h2]
  simp only [Datum.opposite, Datum.sum, Option.map_some]
  obtain ⟨u, hu⟩ : ∃ u, u = min k l := ⟨_, rfl⟩
  have e0 : min (-1074 + (k : Int)) (-1074 + (l : Int)) = -1074 + (u : Int) := by omega
  rw [e0, show (-1074 + (k : Int) - (-1074 + (u : Int))).toNat = k - u by omega, show (-1074 + (l : Int) - (-1074 + (u : Int))).toNat = l - u by omega, signed_sg, signed_sg]
  have eD : (sg s (m * 2 ^ (k - u)) + sg (!t) (n * 2 ^ (l - u))) * (2 ^ u : Nat) = sg s (m * 2 ^ k) - sg t (n * 2 ^ l) := by
    rw [Int.add_mul, ← sg_mul, ← sg_mul, Nat.mul_assoc, Nat.mul_assoc, ← Nat.pow_add, ← Nat.pow_add, Nat.sub_add_cancel (by omega), Nat.sub_add_cancel (by omega)]
    have : sg (!t) (n * 2 ^ l) = - sg t (n * 2 ^ l) := by unfold sg; cases t <;> simp
    rw [this]; omega
  rw [← eD] at hd ⊢
  generalize sg s (m * 2 ^ (k - u)) + sg (!t) (n * 2 ^ (l - u)) = D at *
  have hA : D.natAbs = m2 * 2 ^ (k - u) := by
    rw [Int.natAbs_mul, Int.natAbs_natCast, show m2 * 2 ^ k = m2 * 2 ^ (k - u) * 2 ^ u by rw [Nat.mul_assoc, ← Nat.pow_add, Nat.sub_add_cancel (by omega)]] at hd
    exact Nat.eq_of_mul_eq_mul_right (Nat.two_pow_pos _) hd
  obtain ⟨r, g1, g2, g3⟩ := nearest_exact (if D = 0 then s && !t else decide (D < 0)) m2 (k - u) u hm2 (by omega)
  refine ⟨_, rfl, ?_⟩
  show Val double (double.nearest (if D = 0 then s && !t else decide (D < 0)) D.natAbs (-1074 + (u : Int))) _
  rw [hA, g1]
  have := val_word (if D = 0 then s && !t else decide (D < 0)) r g2
  rw [g3, Nat.pow_add, ← Nat.mul_assoc, ← hA, sg_mul, ← sg_of D _ (fun h => by rw [if_neg h])] at this
  exact this
theorem rnd_split (M H : Nat) (h : one64 = 2 * H) : rnd M = M / one64 + if H ≤ M % one64 then 1 else 0 := by
  have hp := one64_pos
  have hdm := Nat.div_add_mod M one64
  have hlt := Nat.mod_lt M hp
  unfold rnd
  generalize M % one64 = ρ at *
  generalize M / one64 = q at *
  have e : 2 * M + one64 = 2 * one64 * q + (2 * ρ + one64) := by rw [← hdm, Nat.mul_add, Nat.mul_assoc]; omega
  rw [e, Nat.mul_add_div (by omega)]
  congr 1
  by_cases h1 : H ≤ ρ
  · rw [if_pos h1, Nat.div_eq_iff (by omega)]; omega
  · rw [if_neg h1, Nat.div_eq_iff (by omega)]; omega
/-- What is left of a number where its whole part is taken away. -/
theorem rest_val (s : Bool) (r : Nat) (hr : r < 9218868437227405312) (he : r / 4503599627370496 < 1075) (hq : magW r / one64 < 9007199254740992) :
    ∃ x, floatBits .sub .f64 (double.word s r) (floatOfInt .f64 (sg s (magW r / one64))) = some x ∧ Val double x (sg s (magW r % one64)) := by
  obtain ⟨m, k, h1, h2, h3, h4⟩ := word_form s r hr
  have hfn : Val double (floatOfInt .f64 (sg s (magW r / one64))) (sg s (magW r / one64) * (one64 : Int)) := by
    generalize magW r / one64 = q at *
    show Val double (double.nearest (decide (sg s q < 0)) (sg s q).natAbs 0) _
    obtain ⟨c, hc⟩ : ∃ c : Nat, c = 1074 := ⟨_, rfl⟩
    have hone : one64 = pw c := by rw [hc]; rfl
    obtain ⟨r', g1, g2, g3⟩ := nearest_exact (decide (sg s q < 0)) q 0 c hq (by omega)
    rw [Nat.pow_zero, Nat.mul_one, show (-1074 + (c : Int)) = 0 by omega] at g1
    rw [sg_natAbs, g1]
    have := val_word (decide (sg s q < 0)) r' g2
    rw [g3, Nat.zero_add, ← pw_eq, ← hone, sg_mul] at this
    have e : sg (decide (sg s q < 0)) q = sg s q := by
      have := sg_of (sg s q) (decide (sg s q < 0)) (fun _ => rfl)
      rw [sg_natAbs] at this
      exact this.symm
    rw [e] at this
    exact this
  have hd : sg s (m * 2 ^ k) - sg s (magW r / one64) * (one64 : Int) = sg s (magW r % one64) := by
    rw [← h3, ← sg_mul]
    have := Nat.div_add_mod (magW r) one64
    rw [Nat.mul_comm] at this
    unfold sg
    cases s
    · simp only [Bool.false_eq_true, if_false]; omega
    · simp only [if_true]; omega
  have ho : one64 = 2 ^ k * 2 ^ (1074 - k) := by rw [one64_split k (by omega), pw_eq, pw_eq]
  have hm : magW r % one64 = m % 2 ^ (1074 - k) * 2 ^ k := by
    rw [h3, ho, Nat.mul_comm m, Nat.mul_mod_mul_left, Nat.mul_comm]
  obtain ⟨x, g1, g2⟩ := sub_exact h1 hfn (m % 2 ^ (1074 - k)) (by rw [hd, sg_natAbs, hm]) (Nat.lt_of_le_of_lt (Nat.mod_le _ _) h2) (by omega)
  rw [hd] at g2
  exact ⟨x, g1, g2⟩

theorem order_f64_ge {a b : Nat} {x y : Int} (ha : Val double a x) (hb : Val double b y) : (FloatKind.f64.format.order a b == some .gt || FloatKind.f64.format.order a b == some .eq) = decide (y ≤ x) := order_ge ha hb
theorem order_f64_le {a b : Nat} {x y : Int} (ha : Val double a x) (hb : Val double b y) : (FloatKind.f64.format.order a b == some .lt || FloatKind.f64.format.order a b == some .eq) = decide (x ≤ y) := order_le ha hb
theorem lgv_pos {s : Bool} {r : Nat} (h : 32767 * (one64 : Int) ≤ sg s (magW r)) : lgv s r = 32767 := by
  have hp := one64_pos
  have hr := rnd_split
  unfold sg at h
  cases s
  · simp only [Bool.false_eq_true, if_false] at h
    have : 32767 ≤ rnd (magW r) := by
      unfold rnd
      rw [Nat.le_div_iff_mul_le (by omega)]
      have : 32767 * one64 ≤ magW r := by omega
      omega
    unfold lgv sg
    simp only [Bool.false_eq_true, if_false]
    omega
  · simp only [if_true] at h; omega
theorem lgv_neg {s : Bool} {r : Nat} (h : sg s (magW r) ≤ -32768 * (one64 : Int)) : lgv s r = -32768 := by
  have hp := one64_pos
  unfold sg at h
  cases s
  · simp only [Bool.false_eq_true, if_false] at h; omega
  · simp only [if_true] at h
    have : 32768 ≤ rnd (magW r) := by
      unfold rnd
      rw [Nat.le_div_iff_mul_le (by omega)]
      have : 32768 * one64 ≤ magW r := by omega
      omega
    unfold lgv sg
    simp only [if_true]
    omega
theorem clamp_mid {x : Int} (h1 : -32768 ≤ x) (h2 : x ≤ 32767) : max (min x 32767) (-32768) = x := by rw [Int.min_eq_left h2, Int.max_eq_left h1]
/-- The number that the reference ends with, between both bounds. -/
theorem lgv_mid {s : Bool} {r H : Nat} (hH : one64 = 2 * H) (h1 : ¬ 32767 * (one64 : Int) ≤ sg s (magW r)) (h2 : ¬ sg s (magW r) ≤ -32768 * (one64 : Int)) :
    magW r / one64 ≤ 32767 ∧ -32768 ≤ lgv s r ∧ lgv s r ≤ 32767 ∧ lgv s r = sg s (magW r / one64) + (if (H : Int) ≤ sg s (magW r % one64) then 1 else 0) - (if sg s (magW r % one64) ≤ -(H : Int) then 1 else 0) := by
  have hp := one64_pos
  have hs := rnd_split (magW r) H hH
  have hdm := Nat.div_add_mod (magW r) one64
  have hlt := Nat.mod_lt (magW r) hp
  have hq : magW r / one64 ≤ 32767 := by
    have : magW r < 32768 * one64 := by
      unfold sg at h1 h2
      cases s
      · simp only [Bool.false_eq_true, if_false] at h1; omega
      · simp only [if_true] at h2; omega
    have := (Nat.div_lt_iff_lt_mul hp).2 this
    omega
  have hq2 : s = false → magW r / one64 ≤ 32766 := by
    intro h; subst h
    unfold sg at h1
    simp only [Bool.false_eq_true, if_false] at h1
    have : magW r < 32767 * one64 := by omega
    have := (Nat.div_lt_iff_lt_mul hp).2 this
    omega
  refine ⟨hq, by unfold lgv; omega, by unfold lgv; omega, ?_⟩
  unfold lgv
  rw [hs]
  generalize magW r % one64 = ρ at *
  generalize magW r / one64 = q at *
  clear h1 h2 hs hdm
  unfold sg
  cases s
  · have hq3 := hq2 rfl
    clear hq2
    simp only [Bool.false_eq_true, if_false]
    by_cases h : H ≤ ρ
    · rw [if_pos h, if_pos (show (H : Int) ≤ ρ by omega), if_neg (by omega), clamp_mid (by omega) (by omega)]; omega
    · rw [if_neg h, if_neg (show ¬ (H : Int) ≤ ρ by omega), if_neg (by omega), clamp_mid (by omega) (by omega)]; omega
  · clear hq2
    simp only [if_true]
    by_cases h : H ≤ ρ
    · rw [if_pos h, if_neg (by omega), if_pos (by omega), clamp_mid (by omega) (by omega)]; omega
    · rw [if_neg h, if_neg (by omega), if_neg (by omega), clamp_mid (by omega) (by omega)]; omega
end Go.Proofs.YtmmfnklnmdhkiaaGreat
