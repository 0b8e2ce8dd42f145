import Derived.Test.YtglimhkpndfjgaaMT03
/- Sizes of numbers: a narrow number made wide, its sign struck, made narrow again; and the same by a subtraction. Plain laws on words; no statement is proved here. -/
namespace Go.Proofs.Ytglimhkpndfjgaa
open Go.ChangeShapes Go.WideShapes Go.ChangeAt Go.RowKit Ieee
set_option linter.unusedVariables false
set_option linter.unusedSimpArgs false

theorem log2_of {n k : Nat} (h1 : 2 ^ k ≤ n) (h2 : n < 2 ^ (k + 1)) : n.log2 = k := by
  have h0 : n ≠ 0 := by have := Nat.two_pow_pos k; omega
  have a := (Nat.le_log2 h0).2 h1
  have b := (Nat.log2_lt h0).2 h2
  omega
theorem log2_shl {n : Nat} (h0 : n ≠ 0) (k : Nat) : (n <<< k).log2 = n.log2 + k := by
  apply log2_of
  · rw [Nat.shiftLeft_eq, Nat.pow_add]; exact Nat.mul_le_mul_right _ (Nat.log2_self_le h0)
  · rw [Nat.shiftLeft_eq, show n.log2 + k + 1 = (n.log2 + 1) + k by omega, Nat.pow_add]; exact Nat.mul_lt_mul_of_pos_right Nat.lt_log2_self (Nat.two_pow_pos _)
/-- Digits that are all noughts are dropped without a trace. -/
theorem cut_shl (s : Bool) (n k : Nat) : Toward.even.cut s (n <<< k) k = n := by
  by_cases h0 : n = 0
  · subst h0
    unfold Toward.cut
    simp
  · unfold Toward.cut
    have hk : min k ((n <<< k).log2 + 2) = k := by rw [log2_shl h0]; omega
    simp only [hk]
    simp only [Nat.one_shiftLeft, Nat.shiftLeft_eq, Nat.mul_mod_left, Nat.mul_div_left _ (Nat.two_pow_pos k)]
    have := Nat.two_pow_pos k
    have h1 : (2 ^ k == 2 * 0) = false := by simp
    simp [h1, Nat.mul_div_cancel _ (Nat.two_pow_pos k)]
theorem nearest_of (f : Format) (s : Bool) (m : Nat) (e last : Int) (n : Nat) (h0 : m ≠ 0) (hl : max (e + m.log2 - f.fractionBits) f.leastPlace = last) (hk : Toward.even.cut s (m <<< (e - last).toNat) (last - e).toNat = n) :
    f.nearest s m e = f.word s (min ((last - f.leastPlace).toNat * f.binade + n) f.infRung) := by
  unfold Format.nearest
  rw [if_neg h0]
  simp only [hl, hk]
theorem binade_pos (f : Format) : 0 < f.binade := Nat.two_pow_pos _
/-- A number that a word stands for, written with more digits, is that word's again. -/
theorem nearest_word (f : Format) (hf : f.binade ≤ f.infRung) (b : Nat) (s s' : Bool) (m : Nat) (e : Int) (k : Nat) (h : f.read b = .number s m e) : f.nearest s' (m <<< k) (e - k) = f.word s' (b % f.signWeight) := by
  unfold Format.read at h
  generalize b % f.signWeight = r at *
  have hbp := binade_pos f
  have hb : f.binade = 2 ^ f.fractionBits := rfl
  by_cases h1 : r < f.binade
  · simp only [h1, if_true] at h
    injection h with _ hm he
    subst hm he
    by_cases h0 : r = 0
    · subst h0; simp [Format.nearest]
    · have hlog : r.log2 < f.fractionBits := (Nat.log2_lt h0).2 (by rw [← hb]; exact h1)
      rw [nearest_of f s' (r <<< k) (f.leastPlace - k) f.leastPlace r (by rw [Nat.shiftLeft_eq]; exact Nat.ne_of_gt (Nat.mul_pos (by omega) (Nat.two_pow_pos _))) (by rw [log2_shl h0]; omega) (by
        rw [show (f.leastPlace - (k : Int) - f.leastPlace).toNat = 0 by omega, show (f.leastPlace - (f.leastPlace - (k : Int))).toNat = k by omega, Nat.shiftLeft_zero]; exact cut_shl _ _ _)]
      rw [Int.sub_self]
      simp only [Int.toNat_zero, Nat.zero_mul, Nat.zero_add]
      rw [Nat.min_eq_left (by omega)]
  · by_cases h2 : r < f.infRung
    · simp only [h1, h2, if_true, if_false] at h
      injection h with _ hm he
      subst hm
      have hmod := Nat.mod_lt r hbp
      have hdm := Nat.div_add_mod r f.binade
      have hq : 1 ≤ r / f.binade := (Nat.le_div_iff_mul_le hbp).2 (by omega)
      have h0 : f.binade + r % f.binade ≠ 0 := by omega
      have hlog : (f.binade + r % f.binade).log2 = f.fractionBits := log2_of (by rw [← hb]; omega) (by rw [Nat.pow_succ, ← hb]; omega)
      rw [nearest_of f s' _ (e - k) e (f.binade + r % f.binade) (by rw [Nat.shiftLeft_eq]; exact Nat.ne_of_gt (Nat.mul_pos (by omega) (Nat.two_pow_pos _))) (by rw [log2_shl h0, hlog]; omega) (by
        rw [show (e - (k : Int) - e).toNat = 0 by omega, show (e - (e - (k : Int))).toNat = k by omega, Nat.shiftLeft_zero]; exact cut_shl _ _ _)]
      have e1 : (e - f.leastPlace).toNat = r / f.binade - 1 := by omega
      rw [e1]
      have e2 : (r / f.binade - 1) * f.binade + (f.binade + r % f.binade) = r := by
        have : (r / f.binade - 1) * f.binade + f.binade = r / f.binade * f.binade := by
          rw [← Nat.succ_mul]; congr 1; omega
        rw [Nat.mul_comm] at hdm
        omega
      rw [e2, Nat.min_eq_left (by omega)]
    · simp only [h1, h2, if_false] at h
      split at h <;> cases h
theorem single_facts : single.binade = 8388608 ∧ single.infRung = 2139095040 ∧ single.leastPlace = -149 ∧ single.signWeight = 2147483648 ∧ single.fractionBits = 23 := by decide
theorem double_facts : double.binade = 4503599627370496 ∧ double.infRung = 9218868437227405312 ∧ double.leastPlace = -1074 ∧ double.signWeight = 9223372036854775808 ∧ double.fractionBits = 52 := by decide

/-- The word of a sign and a rung, read. -/
theorem read_word (f : Format) (s : Bool) (r : Nat) (h : r < f.signWeight) : f.read (f.word s r) = (if r < f.binade then .number s r f.leastPlace else if r < f.infRung then .number s (f.binade + r % f.binade) (f.leastPlace + (r / f.binade - 1 : Nat)) else if r = f.infRung then .infinity s else .nan s (r - f.infRung)) := by
  unfold Format.read
  rw [word_mod f s r h]
  have hs : (f.word s r / f.signWeight % 2 == 1) = s := by
    have hp : 0 < f.signWeight := Nat.two_pow_pos _
    unfold Format.word
    cases s
    · simp [Nat.div_eq_of_lt h]
    · simp only [if_true]
      rw [show (f.signWeight + r) / f.signWeight = 1 by rw [Nat.add_div_left _ hp, Nat.div_eq_of_lt h]]
      rfl
  simp only [hs]

/-- What a narrow number's bits can be. -/
theorem single_range {b : Nat} {s : Bool} {m : Nat} {e : Int} (h : single.read b = .number s m e) : m < 16777216 ∧ -149 ≤ e ∧ e ≤ 104 := by
  unfold Format.read at h
  obtain ⟨hb, hi, hl, hs, hf⟩ := single_facts
  generalize b % single.signWeight = r at h
  simp only [hb, hi, hl] at h
  by_cases h1 : r < 8388608
  · simp only [h1, if_true] at h
    injection h with _ h2 h3
    omega
  · by_cases h2 : r < 2139095040
    · simp only [h1, h2, if_true, if_false] at h
      injection h with _ h3 h4
      omega
    · simp only [h1, h2, if_false] at h
      split at h <;> cases h

/-- A narrow number that is none of the NaNs, made wide, read. -/
theorem read_widen {b : Nat} {s : Bool} {m : Nat} {e : Int} (h : single.read b = .number s m e) (h0 : m ≠ 0) :
    ∃ r, double.nearest s m e = double.word s r ∧ r < double.infRung ∧ double.read (double.word s r) = .number s (m <<< (52 - m.log2)) (e - (52 - m.log2 : Nat)) := by
  obtain ⟨h1, h2, h3⟩ := single_range h
  obtain ⟨hb, hi, hl, hs, hf⟩ := double_facts
  have hL : m.log2 < 24 := (Nat.log2_lt h0).2 (by omega)
  have hlast : max (e + (m.log2 : Int) - (double.fractionBits : Int)) double.leastPlace = e - (52 - m.log2 : Nat) := by rw [hf, hl]; omega
  have hm1 : 2 ^ 52 ≤ m <<< (52 - m.log2) := by
    rw [Nat.shiftLeft_eq]
    calc 2 ^ 52 = 2 ^ m.log2 * 2 ^ (52 - m.log2) := by rw [← Nat.pow_add]; congr 1; omega
      _ ≤ m * 2 ^ (52 - m.log2) := Nat.mul_le_mul_right _ (Nat.log2_self_le h0)
  have hm2 : m <<< (52 - m.log2) < 2 ^ 53 := by
    rw [Nat.shiftLeft_eq]
    calc m * 2 ^ (52 - m.log2) < 2 ^ (m.log2 + 1) * 2 ^ (52 - m.log2) := Nat.mul_lt_mul_of_pos_right Nat.lt_log2_self (Nat.two_pow_pos _)
      _ = 2 ^ 53 := by rw [← Nat.pow_add]; congr 1; omega
  have hn := nearest_of double s m e (e - (52 - m.log2 : Nat)) (m <<< (52 - m.log2)) h0 hlast (by
    rw [show (e - (e - ((52 - m.log2 : Nat) : Int))).toNat = 52 - m.log2 by omega, show (e - ((52 - m.log2 : Nat) : Int) - e).toNat = 0 by omega]
    have := cut_shl s (m <<< (52 - m.log2)) 0
    simpa using this)
  generalize hM : m <<< (52 - m.log2) = M at *
  obtain ⟨q, hq⟩ : ∃ q : Nat, (e - ((52 - m.log2 : Nat) : Int) - double.leastPlace).toNat = q := ⟨_, rfl⟩
  rw [hq, hb, hi] at hn
  rw [hl] at hq
  have hq2 : q ≤ 1200 := by omega
  simp only [Nat.reducePow] at hm1 hm2
  rw [Nat.min_eq_left (by omega)] at hn
  refine ⟨q * 4503599627370496 + M, hn, by rw [hi]; omega, ?_⟩
  rw [read_word _ _ _ (by rw [hs]; omega), hb, hi, hl]
  rw [if_neg (by omega), if_pos (by omega)]
  have d1 : (q * 4503599627370496 + M) / 4503599627370496 = q + 1 := by omega
  have d2 : (q * 4503599627370496 + M) % 4503599627370496 = M - 4503599627370496 := by omega
  rw [d1, d2, show 4503599627370496 + (M - 4503599627370496) = M by omega, show (-1074 : Int) + ((q + 1 - 1 : Nat) : Int) = e - ((52 - m.log2 : Nat) : Int) by omega]
/-- A number with its sign struck. -/
def fab (b : Nat) : Nat := b % 2147483648
theorem fab_word (s : Bool) (r : Nat) (h : r < 2147483648) : fab (single.word s r) = r := by
  have := word_mod single s r (by rw [single_facts.2.2.2.1]; exact h)
  rw [single_facts.2.2.2.1] at this
  exact this
theorem single_inf {b : Nat} {s : Bool} (h : single.read b = .infinity s) : fab b = 2139095040 := by
  unfold Format.read at h
  obtain ⟨hb, hi, hl, hs, hf⟩ := single_facts
  unfold fab
  rw [hs] at h
  generalize b % 2147483648 = r at *
  simp only [hb, hi, hl] at h
  split at h
  · cases h
  · split at h
    · cases h
    · split at h
      · assumption
      · cases h
theorem zero_mag {b : Nat} {s : Bool} {e : Int} (h : single.read b = .number s 0 e) : fab b = 0 := by
  unfold Format.read at h
  obtain ⟨hb, hi, hl, hs, hf⟩ := single_facts
  unfold fab
  rw [hs] at h
  generalize b % 2147483648 = r at *
  simp only [hb, hi, hl] at h
  split at h
  · injection h
  · split at h
    · injection h with _ h2; omega
    · split at h <;> cases h

/-- 'float32(math.Abs(float64(a)))': the sign is struck. -/
theorem narrow_abs (b : Nat) (h : isN .f32 b = false) : floatToFloatBits .f64 (widen b % 9223372036854775808) .f32 = some (fab b) := by
  unfold floatToFloatBits
  rw [if_neg (by decide)]
  unfold widen
  rw [h]
  simp only [Bool.false_eq_true, if_false]
  unfold isN at h
  show (match FloatKind.f64.decode (FloatKind.f64.encode (single.read b) % 9223372036854775808) with | .nan _ _ => none | .infinity s => some (FloatKind.f32.encode (.infinity s)) | .number s m e => _) = _
  have hr0 : ∀ (s : Bool) (r : Nat), r < 9223372036854775808 → double.word s r % 9223372036854775808 = double.word false r := fun s r hr => by
    have := word_mod double s r (by rw [double_facts.2.2.2.1]; exact hr)
    rw [double_facts.2.2.2.1] at this
    rw [this]; rfl
  have h' : (single.read b).isNaN = false := h
  cases hr : single.read b with
  | nan s f => rw [hr] at h'; cases h'
  | infinity s =>
    have e1 : FloatKind.f64.encode (.infinity s) % 9223372036854775808 = double.word false double.infRung := hr0 s double.infRung (by rw [double_facts.2.1]; omega)
    rw [e1]
    have e2 : FloatKind.f64.decode (double.word false double.infRung) = .infinity false := by decide
    simp only [e2]
    rw [single_inf hr]
    rfl
  | number s m e =>
    by_cases h0 : m = 0
    · subst h0
      have e1 : FloatKind.f64.encode (.number s 0 e) % 9223372036854775808 = double.word false 0 := by
        show double.nearest s 0 e % _ = _
        rw [show double.nearest s 0 e = double.word s 0 by simp [Format.nearest]]
        exact hr0 s 0 (by omega)
      rw [e1]
      have e2 : FloatKind.f64.decode (double.word false 0) = .number false 0 (-1074) := by decide
      simp only [e2]
      rw [zero_mag hr]
      decide
    · obtain ⟨r, h1, h2, h3⟩ := read_widen hr h0
      have e1 : FloatKind.f64.encode (.number s m e) % 9223372036854775808 = double.word false r := by
        show double.nearest s m e % _ = _
        rw [h1]; exact hr0 s r (by rw [double_facts.2.1] at h2; omega)
      rw [e1]
      have e2 : FloatKind.f64.decode (double.word false r) = .number false (m <<< (52 - m.log2)) (e - (52 - m.log2 : Nat)) := by
        show double.read (double.word false r) = _
        rw [read_word _ _ _ (by have := double_facts.2.1; have := double_facts.2.2.2.1; omega)] at h3 ⊢
        split at h3
        · rename_i hlt; rw [if_pos hlt]; injection h3 with _ a b; rw [a, b]
        · rename_i hlt; rw [if_neg hlt, if_pos h2]; injection h3 with _ a b; rw [a, b]
      simp only [e2]
      have e3 : FloatKind.f32.encode (.number false (m <<< (52 - m.log2)) (e - (52 - m.log2 : Nat))) = single.word false (b % single.signWeight) := nearest_word single (by decide) b s false m e _ hr
      rw [e3]
      have e4 : single.word false (b % single.signWeight) = fab b := by rw [single_facts.2.2.2.1]; rfl
      rw [e4]
      have e5 : (FloatKind.f32.decode (fab b)).isInfinity = false := by
        show (single.read (fab b)).isInfinity = false
        unfold Format.read at hr ⊢
        have e6 : fab b % single.signWeight = b % single.signWeight := by rw [single_facts.2.2.2.1]; unfold fab; omega
        rw [e6]
        generalize b % single.signWeight = q at *
        simp only at hr ⊢
        split
        · rfl
        · split
          · rfl
          · rename_i q1 q2
            rw [if_neg q1, if_neg q2] at hr
            split at hr <;> cases hr
      rw [e5]; rfl
end Go.Proofs.Ytglimhkpndfjgaa
/- Words of double precision as whole numbers of the least place; the nearest whole number. Plain laws on words; no statement is proved here. -/
namespace Go.Proofs.Ytglimhkpndfjgaa
open Ieee
set_option linter.unusedVariables false
set_option linter.unusedSimpArgs false

/-! ### Values, counted in the least place. -/
@[irreducible] def pw (k : Nat) : Nat := 2 ^ k
theorem pw_eq (k : Nat) : pw k = 2 ^ k := pw.eq_1 k
theorem pw_pos (k : Nat) : 0 < pw k := by rw [pw_eq]; exact Nat.two_pow_pos k
theorem pw_split {k n : Nat} (h : k ≤ n) : pw n = pw k * pw (n - k) := by rw [pw_eq, pw_eq, pw_eq, ← Nat.pow_add, Nat.add_sub_cancel' h]
def sg (s : Bool) (n : Nat) : Int := if s then -(n : Int) else (n : Int)
/-- A word stands for V of the format's least places. -/
def Val (f : Format) (b : Nat) (V : Int) : Prop := ∃ (s : Bool) (m k : Nat), f.read b = .number s m (f.leastPlace + k) ∧ V = sg s (m * 2 ^ k)
theorem sg_mul (s : Bool) (m k : Nat) : sg s (m * k) = sg s m * k := by unfold sg; cases s <;> simp [Int.neg_mul]
theorem signed_sg (s : Bool) (m u : Nat) : signed s m u = sg s (m * 2 ^ u) := by unfold signed sg; rw [Nat.shiftLeft_eq]
theorem compare_scale (a b : Int) (c : Nat) (hc : 0 < c) : compare (a * c) (b * c) = compare a b := by
  have h1 : (a * c < b * c) ↔ a < b := by
    constructor
    · intro h; exact Int.lt_of_mul_lt_mul_right h (by omega)
    · intro h; exact Int.mul_lt_mul_of_pos_right h (by omega)
  have h2 : (a * c = b * c) ↔ a = b := by
    constructor
    · intro h; exact Int.eq_of_mul_eq_mul_right (by omega) h
    · intro h; rw [h]
  show compareOfLessAndEq _ _ = compareOfLessAndEq _ _
  unfold compareOfLessAndEq
  simp only [h1, h2]
theorem order_val {f : Format} {a b : Nat} {x y : Int} (ha : Val f a x) (hb : Val f b y) : f.order a b = some (compare x y) := by
  obtain ⟨s, m, k, h1, rfl⟩ := ha
  obtain ⟨t, n, l, h2, rfl⟩ := hb
  unfold Format.order
  rw [h1, h2]
  simp only [Datum.order]
  congr 1
  rw [signed_sg, signed_sg]
  have e1 : (f.leastPlace + (k : Int) - min (f.leastPlace + (k : Int)) (f.leastPlace + (l : Int))).toNat = k - min k l := by omega
  have e2 : (f.leastPlace + (l : Int) - min (f.leastPlace + (k : Int)) (f.leastPlace + (l : Int))).toNat = l - min k l := by omega
  rw [e1, e2]
  rw [← compare_scale _ _ (2 ^ min k l) (Nat.two_pow_pos _), ← sg_mul, ← sg_mul, Nat.mul_assoc, Nat.mul_assoc, ← Nat.pow_add, ← Nat.pow_add, Nat.sub_add_cancel (Nat.min_le_left _ _), Nat.sub_add_cancel (Nat.min_le_right _ _)]
theorem cut_zero (s : Bool) (n d : Nat) : Toward.zero.cut s n d = n / 2 ^ d := by
  unfold Toward.cut
  simp only [Bool.toNat_false, Nat.add_zero, Nat.one_shiftLeft]
  by_cases h : d ≤ n.log2 + 2
  · rw [Nat.min_eq_left h]
  · rw [Nat.min_eq_right (by omega)]
    have h1 : n < 2 ^ (n.log2 + 2) := Nat.lt_of_lt_of_le Nat.lt_log2_self (Nat.pow_le_pow_right (by omega) (by omega))
    rw [Nat.div_eq_of_lt h1, Nat.div_eq_of_lt (Nat.lt_of_lt_of_le h1 (Nat.pow_le_pow_right (by omega) (by omega)))]
theorem tdiv_sg (s : Bool) (n d : Nat) : Int.tdiv (sg s n) d = sg s (n / d) := by
  unfold sg
  cases s
  · simp [Int.ofNat_tdiv]
  · simp [Int.neg_tdiv, Int.ofNat_tdiv]
theorem toInt_val {f : Format} {a : Nat} {x : Int} (T : Nat) (hT : f.leastPlace = -T) (ha : Val f a x) : (f.read a).toInt .zero = some (Int.tdiv x (pw T : Nat)) := by
  obtain ⟨s, m, k, h1, rfl⟩ := ha
  unfold Datum.toInt
  rw [h1, pw_eq, tdiv_sg]
  simp only [Datum.integral, cut_zero]
  congr 1
  rw [signed_sg, Nat.pow_zero, Nat.mul_one, hT]
  congr 1
  by_cases h : T ≤ k
  · rw [show (-(T : Int) + (k : Int)).toNat = k - T by omega, show (-(-(T : Int) + (k : Int))).toNat = 0 by omega, Nat.shiftLeft_eq, Nat.pow_zero, Nat.div_one]
    rw [show m * 2 ^ k = m * 2 ^ (k - T) * 2 ^ T by rw [Nat.mul_assoc, ← Nat.pow_add, Nat.sub_add_cancel h], Nat.mul_div_cancel _ (Nat.two_pow_pos _)]
  · rw [show (-(T : Int) + (k : Int)).toNat = 0 by omega, show (-(-(T : Int) + (k : Int))).toNat = T - k by omega, Nat.shiftLeft_zero]
    rw [show 2 ^ T = 2 ^ (T - k) * 2 ^ k by rw [← Nat.pow_add, Nat.sub_add_cancel (by omega)], Nat.mul_div_mul_right _ _ (Nat.two_pow_pos _)]
/-- The magnitude of a rung of double precision. -/
def magW (r : Nat) : Nat := if r < 4503599627370496 then r else (4503599627370496 + r % 4503599627370496) * 2 ^ (r / 4503599627370496 - 1)
theorem val_word (s : Bool) (r : Nat) (h : r < 9218868437227405312) : Val double (double.word s r) (sg s (magW r)) := by
  obtain ⟨hb, hi, hl, hs, hf⟩ := double_facts
  have := read_word double s r (by rw [hs]; omega)
  rw [hb, hi] at this
  by_cases h1 : r < 4503599627370496
  · rw [if_pos h1] at this
    exact ⟨s, r, 0, by rw [this]; simp, by unfold magW; rw [if_pos h1]; simp⟩
  · rw [if_neg h1, if_pos h] at this
    exact ⟨s, _, r / 4503599627370496 - 1, this, by unfold magW; rw [if_neg h1]⟩
/-- A number of so many digits is written as it is. -/
theorem nearest_exact (s : Bool) (m a c : Nat) (hm : m < 9007199254740992) (hac : a + c ≤ 2044) : ∃ r, double.nearest s (m * 2 ^ a) (-1074 + (c : Int)) = double.word s r ∧ r < 9218868437227405312 ∧ magW r = m * 2 ^ (a + c) := by
  obtain ⟨hb, hi, hl, hs, hf⟩ := double_facts
  by_cases h0 : m = 0
  · subst h0; exact ⟨0, by simp [Format.nearest], by omega, by simp [magW]⟩
  have hM0 : m * 2 ^ a ≠ 0 := Nat.ne_of_gt (Nat.mul_pos (by omega) (Nat.two_pow_pos _))
  have hL : m.log2 < 53 := (Nat.log2_lt h0).2 (by simpa using hm)
  have hlog : (m * 2 ^ a).log2 = m.log2 + a := by rw [← Nat.shiftLeft_eq]; exact log2_shl h0 a
  -- what is dropped is none: the last place is at most c + a
  obtain ⟨t, ht, htd⟩ : ∃ t : Nat, max (-1074 + (c : Int) + (m * 2 ^ a).log2 - double.fractionBits) double.leastPlace = -1074 + (t : Int) ∧ t ≤ a + c ∧ (t = 0 ∨ t + 52 = c + m.log2 + a) := by
    rw [hlog, hf, hl]
    by_cases hh : 52 ≤ c + m.log2 + a
    · exact ⟨c + m.log2 + a - 52, by omega, by omega, by omega⟩
    · exact ⟨0, by omega, by omega, by omega⟩
  have hk : Toward.even.cut s ((m * 2 ^ a) <<< ((-1074 + (c : Int)) - (-1074 + (t : Int))).toNat) ((-1074 + (t : Int)) - (-1074 + (c : Int))).toNat = m * 2 ^ (a + c - t) := by
    by_cases hct : t ≤ c
    · rw [show ((-1074 + (c : Int)) - (-1074 + (t : Int))).toNat = c - t by omega, show ((-1074 + (t : Int)) - (-1074 + (c : Int))).toNat = 0 by omega]
      have := cut_shl s ((m * 2 ^ a) <<< (c - t)) 0
      rw [Nat.shiftLeft_zero] at this
      rw [this, Nat.shiftLeft_eq, Nat.mul_assoc, ← Nat.pow_add]
      congr 2; omega
    · rw [show ((-1074 + (c : Int)) - (-1074 + (t : Int))).toNat = 0 by omega, show ((-1074 + (t : Int)) - (-1074 + (c : Int))).toNat = t - c by omega, Nat.shiftLeft_zero]
      have := cut_shl s (m * 2 ^ (a + c - t)) (t - c)
      rw [Nat.shiftLeft_eq, Nat.mul_assoc, ← Nat.pow_add, show a + c - t + (t - c) = a by omega] at this
      exact this
  have hn := nearest_of double s (m * 2 ^ a) (-1074 + (c : Int)) (-1074 + (t : Int)) _ hM0 ht hk
  rw [hb, hi, hl, show ((-1074 + (t : Int)) - -1074).toNat = t by omega] at hn
  have hKlog : (m * 2 ^ (a + c - t)).log2 = m.log2 + (a + c - t) := by rw [← Nat.shiftLeft_eq]; exact log2_shl h0 _
  have hK0 : m * 2 ^ (a + c - t) ≠ 0 := Nat.ne_of_gt (Nat.mul_pos (by omega) (Nat.two_pow_pos _))
  have hKlt : m * 2 ^ (a + c - t) < 9007199254740992 := by
    have := (Nat.log2_lt (k := 53) hK0).1 (by rw [hKlog]; omega)
    simpa using this
  have hmul : m * 2 ^ (a + c) = m * 2 ^ (a + c - t) * 2 ^ t := by rw [Nat.mul_assoc, ← Nat.pow_add, Nat.sub_add_cancel htd.1]
  rw [hmul]
  have hKge : t = 0 ∨ 4503599627370496 ≤ m * 2 ^ (a + c - t) := by
    rcases htd.2 with h | h
    · exact .inl h
    · right
      have := (Nat.le_log2 (k := 52) hK0).1 (by rw [hKlog]; omega)
      simpa using this
  generalize m * 2 ^ (a + c - t) = K at *
  rw [Nat.min_eq_left (by omega)] at hn
  refine ⟨_, hn, by omega, ?_⟩
  unfold magW
  rcases hKge with rfl | hge
  · simp only [Nat.zero_mul, Nat.zero_add, Nat.pow_zero, Nat.mul_one]
    by_cases h1 : K < 4503599627370496
    · rw [if_pos h1]
    · rw [if_neg h1, show K / 4503599627370496 - 1 = 0 by omega, Nat.pow_zero, Nat.mul_one]; omega
  · rw [if_neg (by omega), show (t * 4503599627370496 + K) / 4503599627370496 - 1 = t by omega, show 4503599627370496 + (t * 4503599627370496 + K) % 4503599627370496 = K by omega]
/-! ### To the nearest whole number, halves away from nought. -/
/-- One, counted in the least place of double precision. -/
def one64 : Nat := pw 1074
theorem one64_split (k : Nat) (h : k ≤ 1074) : one64 = pw k * pw (1074 - k) := pw_split h
def rnd (v : Nat) : Nat := (2 * v + one64) / (2 * one64)
theorem one64_pos : 0 < one64 := pw_pos _
theorem magW_ge {r : Nat} (h : 4503599627370496 ≤ r) : magW r = (4503599627370496 + r % 4503599627370496) * 2 ^ (r / 4503599627370496 - 1) := by unfold magW; rw [if_neg (by omega)]
theorem magW_lt (r E : Nat) (h : r / 4503599627370496 ≤ E + 1) : magW r < 9007199254740992 * pw E := by
  rw [pw_eq]
  have hp : 1 ≤ 2 ^ E := Nat.two_pow_pos _
  by_cases h1 : r < 4503599627370496
  · unfold magW; rw [if_pos h1]; omega
  · rw [magW_ge (by omega)]
    have h2 : 2 ^ (r / 4503599627370496 - 1) ≤ 2 ^ E := Nat.pow_le_pow_right (by omega) (by omega)
    calc _ < 9007199254740992 * 2 ^ (r / 4503599627370496 - 1) := Nat.mul_lt_mul_of_pos_right (by omega) (Nat.two_pow_pos _)
      _ ≤ _ := Nat.mul_le_mul_left _ h2
theorem rnd_small (r : Nat) (h : r / 4503599627370496 < 1022) : rnd (magW r) = 0 := by
  have h1 := magW_lt r (1074 - 54) (by omega)
  have h2 := one64_split 54 (by omega)
  unfold rnd
  apply Nat.div_eq_of_lt
  rw [show pw 54 = 18014398509481984 by rw [pw_eq]] at h2
  generalize pw (1074 - 54) = p at *
  omega
theorem rnd_half (r : Nat) (h : r / 4503599627370496 = 1022) : rnd (magW r) = 1 := by
  have h1 := magW_ge (r := r) (by omega)
  rw [← pw_eq, show r / 4503599627370496 - 1 = 1074 - 53 by omega] at h1
  have h2 := one64_split 53 (by omega)
  rw [show pw 53 = 9007199254740992 by rw [pw_eq]] at h2
  have hp : 0 < pw (1074 - 53) := pw_pos _
  unfold rnd
  generalize pw (1074 - 53) = p at *
  rw [h1, h2]
  have h3 : r % 4503599627370496 < 4503599627370496 := Nat.mod_lt _ (by decide)
  have h4 : (4503599627370496 + r % 4503599627370496) * p = 4503599627370496 * p + r % 4503599627370496 * p := Nat.add_mul _ _ _
  have h5 : r % 4503599627370496 * p ≤ 4503599627370495 * p := Nat.mul_le_mul_right _ (by omega)
  rw [Nat.div_eq_iff (by omega)]
  omega
/-- What is cut off a rung with a binade of e digits ahead of the point. -/
theorem rnd_mid (r e : Nat) (h : r / 4503599627370496 = 1023 + e) (he : e < 52) :
    magW ((r + 2 ^ (51 - e)) / 2 ^ (52 - e) * 2 ^ (52 - e)) = rnd (magW r) * one64 ∧ (r + 2 ^ (51 - e)) / 2 ^ (52 - e) * 2 ^ (52 - e) ≤ (1024 + e) * 4503599627370496 := by
  have h1 := magW_ge (r := r) (by omega)
  rw [h] at h1
  have hdm := Nat.div_add_mod r 4503599627370496
  have h3 : r % 4503599627370496 < 4503599627370496 := Nat.mod_lt _ (by decide)
  rw [h] at hdm
  generalize r % 4503599627370496 = f at *
  -- powers
  have hq : (2 : Nat) ^ (52 - e) = 2 * 2 ^ (51 - e) := by rw [show 52 - e = 51 - e + 1 by omega, Nat.pow_succ, Nat.mul_comm]
  have hB : 4503599627370496 = 2 ^ (52 - e) * 2 ^ e := by rw [← Nat.pow_add, show 52 - e + e = 52 by omega]
  have hone : one64 = 2 ^ (52 - e) * 2 ^ (1022 + e) := by rw [one64_split (52 - e) (by omega), show 1074 - (52 - e) = 1022 + e by omega, pw_eq, pw_eq]
  have hpq : 0 < 2 ^ (51 - e) := Nat.two_pow_pos _
  have hpe : 0 < 2 ^ e := Nat.two_pow_pos _
  have hpu : 0 < 2 ^ (1022 + e) := Nat.two_pow_pos _
  have hu1 : (2 : Nat) ^ (1023 + e) = 2 * 2 ^ (1022 + e) := by rw [show 1023 + e = 1022 + e + 1 by omega, Nat.pow_succ, Nat.mul_comm]
  -- the whole number
  have hN : rnd (magW r) = 2 ^ e + (f + 2 ^ (51 - e)) / 2 ^ (52 - e) := by
    unfold rnd
    rw [h1, hone, show 1023 + e - 1 = 1022 + e by omega]
    have e1 : 2 * ((4503599627370496 + f) * 2 ^ (1022 + e)) + 2 ^ (52 - e) * 2 ^ (1022 + e) = (2 ^ (52 - e) * 2 ^ e + (f + 2 ^ (51 - e))) * (2 * 2 ^ (1022 + e)) := by
      rw [← hB, hq]; simp only [Nat.add_mul, Nat.mul_add]; simp only [Nat.mul_assoc, Nat.mul_comm, Nat.mul_left_comm]; omega
    have e2 : 2 * (2 ^ (52 - e) * 2 ^ (1022 + e)) = 2 ^ (52 - e) * (2 * 2 ^ (1022 + e)) := by rw [Nat.mul_left_comm]
    rw [e1, e2, Nat.mul_div_mul_right _ _ (by omega), Nat.mul_add_div (by omega)]
  obtain ⟨F, hF⟩ : ∃ F, F = (f + 2 ^ (51 - e)) / 2 ^ (52 - e) := ⟨_, rfl⟩
  rw [← hF] at hN
  have hFle : F ≤ 2 ^ e := by
    rw [hF]
    have : (f + 2 ^ (51 - e)) / 2 ^ (52 - e) < 2 ^ e + 1 := by
      rw [Nat.div_lt_iff_lt_mul (by omega), Nat.add_mul, Nat.mul_comm (2 ^ e), ← hB]
      omega
    omega
  have hr' : (r + 2 ^ (51 - e)) / 2 ^ (52 - e) * 2 ^ (52 - e) = (1023 + e) * 4503599627370496 + F * 2 ^ (52 - e) := by
    rw [← hdm, Nat.add_assoc]
    have : 4503599627370496 * (1023 + e) + (f + 2 ^ (51 - e)) = 2 ^ (52 - e) * (2 ^ e * (1023 + e)) + (f + 2 ^ (51 - e)) := by rw [← Nat.mul_assoc, ← hB]
    rw [this, Nat.mul_add_div (by omega), ← hF, Nat.add_mul]
    congr 1
    rw [Nat.mul_comm (1023 + e), Nat.mul_comm _ (2 ^ (52 - e)), ← Nat.mul_assoc, ← hB]
  rw [hr', hN, hone]
  have hFB : F * 2 ^ (52 - e) ≤ 4503599627370496 := by
    have := Nat.mul_le_mul_right (2 ^ (52 - e)) hFle
    rw [Nat.mul_comm (2 ^ e), ← hB] at this
    exact this
  refine ⟨?_, by omega⟩
  rw [magW_ge (by omega)]
  by_cases hlt : F < 2 ^ e
  · have hFB2 : F * 2 ^ (52 - e) < 4503599627370496 := by
      have := Nat.mul_lt_mul_of_pos_right hlt (show 0 < 2 ^ (52 - e) by omega)
      rw [Nat.mul_comm (2 ^ e), ← hB] at this
      exact this
    generalize hG : F * 2 ^ (52 - e) = G at *
    rw [show ((1023 + e) * 4503599627370496 + G) % 4503599627370496 = G by omega, show ((1023 + e) * 4503599627370496 + G) / 4503599627370496 - 1 = 1022 + e by omega]
    rw [← Nat.mul_assoc, Nat.add_mul (2 ^ e), hG, Nat.mul_comm (2 ^ e), ← hB]
  · obtain rfl : F = 2 ^ e := by omega
    rw [Nat.mul_comm (2 ^ e), ← hB]
    rw [show ((1023 + e) * 4503599627370496 + 4503599627370496) % 4503599627370496 = 0 by omega, show ((1023 + e) * 4503599627370496 + 4503599627370496) / 4503599627370496 - 1 = 1023 + e by omega, Nat.add_zero]
    rw [hu1, ← Nat.mul_assoc, ← Nat.mul_assoc, Nat.add_mul, Nat.mul_comm (2 ^ e), ← hB]

end Go.Proofs.Ytglimhkpndfjgaa
/- A hundred times a head, and its nearest whole number cut to sixteen bits. Plain laws on words; no statement is proved here. -/
namespace Go.Proofs.Ytglimhkpndfjgaa
open Go.ChangeShapes Go.WideShapes Go.ChangeAt Go.RowKit Ieee
set_option linter.unusedVariables false
set_option linter.unusedSimpArgs false

theorem pw_le {a b : Nat} (h : a ≤ b) : pw a ≤ pw b := by rw [pw_eq, pw_eq]; exact Nat.pow_le_pow_right (by omega) h
theorem cmp_int (a b : Int) : compare a b = if a < b then .lt else if a = b then .eq else .gt := rfl
theorem order_ge {f : Format} {a b : Nat} {x y : Int} (ha : Val f a x) (hb : Val f b y) : (f.order a b == some .gt || f.order a b == some .eq) = decide (y ≤ x) := by
  rw [order_val ha hb, cmp_int]
  by_cases h1 : x < y
  · rw [if_pos h1, decide_eq_false (by omega)]; rfl
  · rw [if_neg h1, decide_eq_true (by omega)]
    by_cases h2 : x = y
    · rw [if_pos h2]; rfl
    · rw [if_neg h2]; rfl
theorem order_le {f : Format} {a b : Nat} {x y : Int} (ha : Val f a x) (hb : Val f b y) : (f.order a b == some .lt || f.order a b == some .eq) = decide (x ≤ y) := by
  rw [order_val ha hb, cmp_int]
  by_cases h1 : x < y
  · rw [if_pos h1, decide_eq_true (by omega)]; rfl
  · rw [if_neg h1]
    by_cases h2 : x = y
    · rw [if_pos h2, decide_eq_true (by omega)]; rfl
    · rw [if_neg h2, decide_eq_false (by omega)]; rfl
theorem val_num {b : Nat} {s : Bool} {m k : Nat} (h : single.read b = .number s m (-149 + (k : Int))) : Val single b (sg s (m * 2 ^ k)) := ⟨s, m, k, by rw [h]; rfl, rfl⟩
/-- What a plain number's bits are. -/
theorem plain_form {b : Nat} (h : plain b = true) : ∃ (s : Bool) (m k : Nat), single.read b = .number s m (-149 + (k : Int)) ∧ m < 16777216 ∧ m * 2 ^ k ≤ pw 169 := by
  unfold plain fge fle at h
  rw [Bool.and_eq_true] at h
  obtain ⟨h1, h2⟩ := h
  have c1 : Val single 3380609024 (sg true (8388608 * 2 ^ 146)) := ⟨true, 8388608, 146, by decide, rfl⟩
  have c2 : Val single 1233125376 (sg false (8388608 * 2 ^ 146)) := ⟨false, 8388608, 146, by decide, rfl⟩
  have e1 : single.read 3380609024 = .number true 8388608 (-3) := by decide
  have e2 : single.read 1233125376 = .number false 8388608 (-3) := by decide
  change (single.order b 3380609024 == some .gt || single.order b 3380609024 == some .eq) = true at h1
  change (single.order b 1233125376 == some .lt || single.order b 1233125376 == some .eq) = true at h2
  cases hr : single.read b with
  | nan s f => unfold Format.order at h1; rw [hr] at h1; cases h1
  | infinity s =>
    unfold Format.order at h1 h2; rw [hr, e1] at h1; rw [hr, e2] at h2
    cases s
    · cases h2
    · cases h1
  | number s m e =>
    obtain ⟨q1, q2, q3⟩ := single_range hr
    have he : e = -149 + ((e + 149).toNat : Int) := by omega
    rw [he] at hr
    have hv := val_num hr
    rw [order_ge hv c1] at h1
    rw [order_le hv c2] at h2
    have h1 := of_decide_eq_true h1
    have h2 := of_decide_eq_true h2
    rw [he]
    refine ⟨s, m, _, rfl, q1, ?_⟩
    have hp : pw 169 = 8388608 * 2 ^ 146 := by rw [pw_eq]
    rw [hp]
    unfold sg at h1 h2
    generalize m * 2 ^ (e + 149).toNat = X at *
    cases s
    · simp only [Bool.false_eq_true, if_false] at h2
      exact Int.ofNat_le.1 h2
    · simp only [if_true] at h1
      exact Int.ofNat_le.1 (by omega)
/-- A hundred times a plain head: a finite word, not too great. -/
theorem hundred_word {b : Nat} (h : plain b = true) : ∃ (s : Bool) (r : Nat), floatBits .mul .f64 4636737291354636288 (widen b) = some (double.word s r) ∧ r < 9218868437227405312 ∧ magW r ≤ 104857600 * one64 := by
  obtain ⟨s, m, k, hr, hm, hle⟩ := plain_form h
  have hn : isN .f32 b = false := by unfold isN; show (single.read b).isNaN = false; rw [hr]; rfl
  have hw : widen b = double.nearest s m (-149 + (k : Int)) := by
    unfold widen; rw [hn]
    show double.write (single.read b) = _
    rw [hr]; rfl
  have hc : double.read 4636737291354636288 = .number false 7036874417766400 (-46) := by decide
  show ∃ (s' : Bool) (r : Nat), ((double.read 4636737291354636288).product (double.read (widen b))).map double.write = some (double.word s' r) ∧ _
  rw [hc, hw]
  by_cases h0 : m = 0
  · subst h0
    have e1 : double.nearest s 0 (-149 + (k : Int)) = double.word s 0 := by simp [Format.nearest]
    have e2 : double.read (double.word s 0) = .number s 0 (-1074) := by cases s <;> decide
    rw [e1, e2]
    refine ⟨false ^^ s, 0, ?_, by omega, by simp [magW]⟩
    show some (double.nearest (false ^^ s) (7036874417766400 * 0) (-46 + -1074)) = _
    simp [Format.nearest]
  · obtain ⟨r0, h1, h2, h3⟩ := read_widen hr h0
    have hL : m.log2 < 24 := (Nat.log2_lt h0).2 (by omega)
    have hk : k ≤ 169 := by
      have : 2 ^ k ≤ 2 ^ 169 := by rw [← pw_eq 169]; exact Nat.le_trans (Nat.le_mul_of_pos_left _ (by omega)) hle
      exact (Nat.pow_le_pow_iff_right (by omega)).1 this
    rw [h1, h3]
    obtain ⟨r, g1, g2, g3⟩ := nearest_exact (false ^^ s) (25 * m) (100 - m.log2) (827 + k + m.log2) (by omega) (by omega)
    refine ⟨false ^^ s, r, ?_, g2, ?_⟩
    · show some (double.nearest (false ^^ s) (7036874417766400 * (m <<< (52 - m.log2))) (-46 + (-149 + (k : Int) - (52 - m.log2 : Nat)))) = _
      rw [← g1]
      congr 2
      · rw [Nat.shiftLeft_eq, show 100 - m.log2 = 48 + (52 - m.log2) by omega, Nat.pow_add, ← Nat.mul_assoc, ← Nat.mul_assoc]
        congr 1
        rw [show (2 : Nat) ^ 48 = 281474976710656 by decide]; omega
      · omega
    · rw [g3, show 100 - m.log2 + (827 + k + m.log2) = k + 927 by omega, Nat.pow_add, ← Nat.mul_assoc, Nat.mul_assoc 25, ← pw_eq 927]
      have e1 : pw 1096 = pw 169 * pw 927 := pw_split (by omega)
      have e2 : pw 1096 = pw 22 * one64 := pw_split (by omega)
      have e3 : pw 22 = 4194304 := by rw [pw_eq]
      rw [e3] at e2
      have e4 : m * 2 ^ k * pw 927 ≤ pw 169 * pw 927 := Nat.mul_le_mul_right _ hle
      rw [← e1, e2] at e4
      rw [Nat.mul_assoc]
      omega
/-- The nearest whole number, cut to sixteen bits. -/
def lgv (s : Bool) (r : Nat) : Int := max (min (sg s (rnd (magW r))) 32767) (-32768)
def lg (b : Nat) : Int := match floatBits .mul .f64 4636737291354636288 (widen b) with | some y => lgv (y / 9223372036854775808 % 2 == 1) (y % 9223372036854775808) | none => 0
theorem lg_word {b : Nat} {s : Bool} {r : Nat} (h : floatBits .mul .f64 4636737291354636288 (widen b) = some (double.word s r)) (hr : r < 9218868437227405312) : lg b = lgv s r := by
  unfold lg
  rw [h]
  have h1 := word_mod double s r (by rw [double_facts.2.2.2.1]; omega)
  rw [double_facts.2.2.2.1] at h1
  have h2 : (double.word s r / 9223372036854775808 % 2 == 1) = s := by
    unfold Format.word
    rw [double_facts.2.2.2.1]
    cases s
    · simp only [Bool.false_eq_true, if_false]; rw [Nat.div_eq_of_lt (by omega)]; rfl
    · simp only [if_true]; rw [Nat.add_div_left _ (by omega), Nat.div_eq_of_lt (by omega)]; rfl
  show lgv _ _ = _
  rw [h1, h2]
/-- The exponent of a word that is not too great. -/
theorem exp_small {r : Nat} (h : magW r ≤ 104857600 * one64) : r / 4503599627370496 < 1075 := by
  by_cases hlt : r / 4503599627370496 < 1075
  · exact hlt
  · exfalso
    have h1 := magW_ge (r := r) (by omega)
    have h3 : 4503599627370496 * 2 ^ (r / 4503599627370496 - 1) ≤ magW r := by rw [h1]; exact Nat.mul_le_mul_right _ (by omega)
    have h4 : one64 ≤ 2 ^ (r / 4503599627370496 - 1) := by rw [← pw_eq]; exact pw_le (by omega)
    have := one64_pos
    omega
/-- The lesser, and the greater, of two numbers. -/
def fmin (a b : Nat) : Nat := match double.order a b with | some .lt => a | some .gt => b | _ => if (FloatKind.f64.decode a).neg then a else b
def fmax (a b : Nat) : Nat := match double.order a b with | some .lt => b | some .gt => a | _ => if (FloatKind.f64.decode a).neg then b else a
theorem val_min {a b : Nat} {x y : Int} (ha : Val double a x) (hb : Val double b y) : Val double (fmin a b) (min x y) := by
  unfold fmin
  rw [order_val ha hb, cmp_int]
  by_cases h1 : x < y
  · rw [if_pos h1, show min x y = x by omega]; exact ha
  · rw [if_neg h1, show min x y = y by omega]
    by_cases h2 : x = y
    · rw [if_pos h2]; subst h2
      show Val double (if _ then a else b) x
      split
      · exact ha
      · exact hb
    · rw [if_neg h2]; exact hb
theorem val_max {a b : Nat} {x y : Int} (ha : Val double a x) (hb : Val double b y) : Val double (fmax a b) (max x y) := by
  unfold fmax
  rw [order_val ha hb, cmp_int]
  by_cases h1 : x < y
  · rw [if_pos h1, show max x y = y by omega]; exact hb
  · rw [if_neg h1, show max x y = x by omega]
    by_cases h2 : x = y
    · rw [if_pos h2]; subst h2
      show Val double (if _ then b else a) x
      split
      · exact hb
      · exact ha
    · rw [if_neg h2]; exact ha
theorem order_val_some {a b : Nat} {x y : Int} (ha : Val double a x) (hb : Val double b y) : ∃ o, FloatKind.f64.format.order a b = some o := ⟨_, order_val ha hb⟩
theorem run_fmin {P : Program} (w : World) (ts : Array TypeId) (t : TypeId) (a b : Nat) (h : ∃ o, FloatKind.f64.format.order a b = some o) : (Builtin.min_ ts t #[.float .f64 a, .float .f64 b]).run P w = .ok (.float .f64 (fmin a b)) w := by
  obtain ⟨o, h⟩ := h
  have h' : double.order a b = some o := h
  unfold fmin
  rw [h']
  cases o <;> simp [Builtin.min_, Builtin.min2, h]
theorem run_fmax {P : Program} (w : World) (ts : Array TypeId) (t : TypeId) (a b : Nat) (h : ∃ o, FloatKind.f64.format.order a b = some o) : (Builtin.max_ ts t #[.float .f64 a, .float .f64 b]).run P w = .ok (.float .f64 (fmax a b)) w := by
  obtain ⟨o, h⟩ := h
  have h' : double.order a b = some o := h
  unfold fmax
  rw [h']
  cases o <;> simp [Builtin.max_, Builtin.max2, h]
theorem toInt64_val {a : Nat} {x : Int} (ha : Val double a x) : (FloatKind.f64.decode a).toInt .zero = some (Int.tdiv x (one64 : Int)) := toInt_val 1074 rfl ha
theorem scale_min (x c : Int) : min (x * (one64 : Int)) (c * (one64 : Int)) = min x c * (one64 : Int) := by
  have hp : (0 : Int) ≤ (one64 : Int) := by omega
  by_cases h : x ≤ c
  · have h2 := Int.mul_le_mul_of_nonneg_right h hp
    rw [Int.min_eq_left h, Int.min_eq_left h2]
  · have h' : c ≤ x := by omega
    have h2 := Int.mul_le_mul_of_nonneg_right h' hp
    rw [Int.min_eq_right h', Int.min_eq_right h2]
theorem scale_max (x c : Int) : max (x * (one64 : Int)) (c * (one64 : Int)) = max x c * (one64 : Int) := by
  have hp : (0 : Int) ≤ (one64 : Int) := by omega
  by_cases h : x ≤ c
  · have h2 := Int.mul_le_mul_of_nonneg_right h hp
    rw [Int.max_eq_right h, Int.max_eq_right h2]
  · have h' : c ≤ x := by omega
    have h2 := Int.mul_le_mul_of_nonneg_right h' hp
    rw [Int.max_eq_left h', Int.max_eq_left h2]
theorem val_neg32768 : Val double 13898108450065350656 (-32768 * (one64 : Int)) := by
  refine ⟨true, 4503599627370496, 1037, by decide, ?_⟩
  rw [show sg true (4503599627370496 * 2 ^ 1037) = -((4503599627370496 * pw 1037 : Nat) : Int) by rw [pw_eq]; rfl, one64_split 37 (by omega), show pw 37 = 137438953472 by rw [pw_eq], show 1074 - 37 = 1037 from rfl]
  omega
theorem val_half : ∃ V : Nat, Val double 4602678819172646912 (V : Int) ∧ Val double 13826050856027422720 (-(V : Int)) ∧ one64 = 2 * V := by
  refine ⟨4503599627370496 * pw 1021, ⟨false, 4503599627370496, 1021, by decide, by rw [pw_eq]; rfl⟩, ⟨true, 4503599627370496, 1021, by decide, by rw [pw_eq]; rfl⟩, ?_⟩
  rw [one64_split 53 (by omega), show pw 53 = 9007199254740992 by rw [pw_eq], show 1074 - 53 = 1021 from rfl]
  omega
theorem val_32767 : Val double 4674736138332667904 (32767 * (one64 : Int)) := by
  refine ⟨false, 9006924376834048, 1036, by decide, ?_⟩
  rw [show sg false (9006924376834048 * 2 ^ 1036) = ((9006924376834048 * pw 1036 : Nat) : Int) by rw [pw_eq]; rfl, one64_split 38 (by omega), show pw 38 = 274877906944 by rw [pw_eq], show 1074 - 38 = 1036 from rfl]
  omega
end Go.Proofs.Ytglimhkpndfjgaa
