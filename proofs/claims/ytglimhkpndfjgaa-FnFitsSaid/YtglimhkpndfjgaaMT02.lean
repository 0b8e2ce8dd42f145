import Derived.Test.YtglimhkpndfjgaaMT01
/- The turns of an hour, and when two numbers are held to be the same. -/
namespace Go.Proofs.Ytglimhkpndfjgaa
open Go.ChangeShapes Go.WideShapes Go.ChangeAt Go.RowKit
set_option linter.unusedVariables false

/-- The first part of the turn of hour k. -/
def cosT : Nat → Nat
  | 0 => 1065353216 | 1 => 1063105495 | 2 => 1056964608 | 3 => 0 | 4 => 3204448256 | 5 => 3210589143 | 6 => 3212836864 | 7 => 3210589143 | 8 => 3204448256 | 9 => 0 | 10 => 1056964608 | 11 => 1063105495
  | _ => 0
/-- The second part. -/
def sinT (k : Nat) : Nat := cosT ((k + 9) % 12)

def firstsC : Array Value := #[.float .f32 1065353216, .float .f32 1063105495, .float .f32 1056964608, .float .f32 0, .float .f32 3204448256, .float .f32 3210589143, .float .f32 3212836864, .float .f32 3210589143, .float .f32 3204448256, .float .f32 0, .float .f32 1056964608, .float .f32 1063105495]
def secondsC : Array Value := #[.float .f32 0, .float .f32 1056964608, .float .f32 1063105495, .float .f32 1065353216, .float .f32 1063105495, .float .f32 1056964608, .float .f32 0, .float .f32 3204448256, .float .f32 3210589143, .float .f32 3212836864, .float .f32 3210589143, .float .f32 3204448256]
theorem firsts_get (k : Nat) (hk : k < 12) : firstsC[k]? = some (.float .f32 (cosT k)) := by
  match k, hk with
  | 0, _ | 1, _ | 2, _ | 3, _ | 4, _ | 5, _ | 6, _ | 7, _ | 8, _ | 9, _ | 10, _ | 11, _ => rfl
theorem seconds_get (k : Nat) (hk : k < 12) : secondsC[k]? = some (.float .f32 (sinT k)) := by
  match k, hk with
  | 0, _ | 1, _ | 2, _ | 3, _ | 4, _ | 5, _ | 6, _ | 7, _ | 8, _ | 9, _ | 10, _ | 11, _ => rfl

theorem in_any (n lo hi : Int) (w : World) :
    Calls Try.prog 39 #[.int .i64 n, .int .i64 lo, .int .i64 hi] w fun e w' => e = .returned (.bool (decide (lo ≤ n) && decide (n ≤ hi))) ∧ w' = w := by
  by_cases h : lo ≤ n
  all_goals
    go_enter Try.func39, Try.ntmps39
    go_wp2
    all_goals (go_ret; exact ⟨by simp <;> omega, rfl⟩)
theorem l00In_any (n lo hi : Int) (w : World) :
    Calls Try.prog 30 #[.int .i64 n, .int .i64 lo, .int .i64 hi] w fun e w' => e = .returned (.bool (decide (lo ≤ n) && decide (n ≤ hi))) ∧ w' = w := by
  by_cases h : lo ≤ n
  all_goals
    go_enter Try.func30, Try.ntmps30
    go_wp2
    all_goals (go_ret; exact ⟨by simp <;> omega, rfl⟩)
end Go.Proofs.Ytglimhkpndfjgaa
/- When the laws hold two numbers to be the same. -/
namespace Go.Proofs.Ytglimhkpndfjgaa
open Go.ChangeShapes Go.WideShapes Go.ChangeAt Go.RowKit
set_option linter.unusedVariables false

/-- A number that is equal to 0: one divided by it is told. -/
theorem one_over (a : Nat) (h : FloatKind.f64.format.order a 0 = some .eq) : ∃ r, floatBits .quo .f64 4607182418800017408 a = some r := by
  have h1 : FloatKind.f64.format.read 4607182418800017408 = .number false 4503599627370496 (-52) := by decide
  unfold floatBits
  show ∃ r, FloatKind.f64.format.div 4607182418800017408 a = some r
  unfold Ieee.Format.div
  rw [h1]
  unfold Ieee.Format.order at h
  cases hr : FloatKind.f64.format.read a with
  | nan s f => rw [hr] at h; simp [Ieee.Datum.order] at h
  | infinity s => exact ⟨_, rfl⟩
  | number s m i =>
    simp only [Ieee.Datum.quotient]
    by_cases hm : m = 0
    · simp [hm]
    · simp [hm]

end Go.Proofs.Ytglimhkpndfjgaa
/- How great the result of a rounding can be: plain laws on the words of a binary format; no statement is proved here. -/
namespace Go.Proofs.Ytglimhkpndfjgaa
open Ieee
set_option linter.unusedVariables false

/-- 'n / 2 ^ drop' as a whole number is at most 2 ^ T. -/
theorem cut_le (s : Bool) (n drop T : Nat) (h : n < 2 ^ (T + drop)) : Toward.even.cut s n drop ≤ 2 ^ T := by
  unfold Toward.cut
  simp only [Nat.one_shiftLeft]
  have one : ∀ b : Bool, b.toNat ≤ 1 := by intro b; cases b <;> decide
  have hT : 0 < 2 ^ T := Nat.two_pow_pos T
  by_cases hd : drop ≤ n.log2 + 2
  · rw [Nat.min_eq_left hd]
    have h1 : n / 2 ^ drop < 2 ^ T := by
      apply Nat.div_lt_of_lt_mul
      rw [← Nat.pow_add, Nat.add_comm]; exact h
    have := one (decide (2 ^ drop < 2 * (n % 2 ^ drop)) || 2 ^ drop == 2 * (n % 2 ^ drop) && n / 2 ^ drop % 2 == 1)
    omega
  · rw [Nat.min_eq_right (by omega)]
    have h1 : n / 2 ^ (n.log2 + 2) = 0 := by
      apply Nat.div_eq_of_lt
      have := @Nat.lt_log2_self n
      have h2 : 2 ^ (n.log2 + 1) ≤ 2 ^ (n.log2 + 2) := Nat.pow_le_pow_right (by decide) (by omega)
      omega
    rw [h1]
    have := one (decide (2 ^ (n.log2 + 2) < 2 * (n % 2 ^ (n.log2 + 2))) || 2 ^ (n.log2 + 2) == 2 * (n % 2 ^ (n.log2 + 2)) && 0 % 2 == 1)
    omega

/-- The rung of a number's nearest word. -/
theorem nearest_rung (f : Format) (s : Bool) (mag : Nat) (place : Int) (K : Nat) (h : mag = 0 ∨ (mag.log2 : Int) + place - f.fractionBits - f.leastPlace ≤ K) :
    ∃ r, f.nearest s mag place = f.word s r ∧ r ≤ (K + 2) * f.binade := by
  unfold Format.nearest
  by_cases hm : mag = 0
  · exact ⟨0, by simp [hm], Nat.zero_le _⟩
  · rw [if_neg hm]
    refine ⟨_, rfl, Nat.le_trans (Nat.min_le_left _ _) ?_⟩
    replace h := h.resolve_left hm
    generalize hlast : max (place + (mag.log2 : Int) - f.fractionBits) f.leastPlace = last
    have hcut : Toward.even.cut s (mag <<< (place - last).toNat) (last - place).toNat ≤ 2 ^ (f.fractionBits + 1) := by
      apply cut_le
      rw [Nat.shiftLeft_eq]
      have h1 := @Nat.lt_log2_self mag
      calc mag * 2 ^ (place - last).toNat < 2 ^ (mag.log2 + 1) * 2 ^ (place - last).toNat := Nat.mul_lt_mul_of_pos_right h1 (Nat.two_pow_pos _)
        _ = 2 ^ (mag.log2 + 1 + (place - last).toNat) := (Nat.pow_add 2 (mag.log2 + 1) _).symm
        _ ≤ 2 ^ (f.fractionBits + 1 + (last - place).toNat) := Nat.pow_le_pow_right (by decide) (by omega)
    have hl : (last - f.leastPlace).toNat ≤ K := by omega
    have h2 : (last - f.leastPlace).toNat * f.binade ≤ K * f.binade := Nat.mul_le_mul_right _ hl
    have h3 : 2 ^ (f.fractionBits + 1) = 2 * f.binade := by unfold Format.binade; rw [Nat.pow_succ]; omega
    rw [Nat.add_mul]
    omega

/-- What a word of a low rung stands for. -/
theorem read_rung (f : Format) (b K : Nat) (hK : 1 ≤ K) (hi : K * f.binade < f.infRung) (h : b % f.signWeight ≤ K * f.binade) :
    ∃ s m e, f.read b = .number s m e ∧ f.leastPlace ≤ e ∧ m * 2 ^ (e - f.leastPlace).toNat ≤ 2 ^ (f.fractionBits + K - 1) := by
  unfold Format.read
  generalize b % f.signWeight = r at *
  have hb : f.binade = 2 ^ f.fractionBits := rfl
  have hbp : 0 < f.binade := Nat.two_pow_pos _
  by_cases h1 : r < f.binade
  · simp only [h1, if_true]
    refine ⟨_, _, _, rfl, Int.le_refl _, ?_⟩
    simp only [Int.sub_self, Int.toNat_zero, Nat.pow_zero, Nat.mul_one]
    calc r ≤ 2 ^ f.fractionBits := by omega
      _ ≤ 2 ^ (f.fractionBits + K - 1) := Nat.pow_le_pow_right (by decide) (by omega)
  · have h2 : r < f.infRung := by omega
    simp only [h1, h2, if_true, if_false]
    have hq1 : 1 ≤ r / f.binade := (Nat.le_div_iff_mul_le hbp).2 (by omega)
    have hq2 : r / f.binade ≤ K := Nat.le_of_mul_le_mul_right (Nat.le_trans (Nat.div_mul_le_self r f.binade) h) hbp
    have hdm := Nat.div_add_mod r f.binade
    have hmod := Nat.mod_lt r hbp
    refine ⟨_, _, _, rfl, by omega, ?_⟩
    have e1 : (f.leastPlace + ((r / f.binade - 1 : Nat) : Int) - f.leastPlace).toNat = r / f.binade - 1 := by omega
    rw [e1]
    rcases Nat.lt_or_ge (r / f.binade) K with hlt | hge
    · calc (f.binade + r % f.binade) * 2 ^ (r / f.binade - 1) ≤ (2 * f.binade) * 2 ^ (r / f.binade - 1) := Nat.mul_le_mul_right _ (by omega)
        _ = 2 ^ (1 + f.fractionBits + (r / f.binade - 1)) := by rw [hb, Nat.pow_add, Nat.pow_add]
        _ ≤ 2 ^ (f.fractionBits + K - 1) := Nat.pow_le_pow_right (by decide) (by omega)
    · have hqe : r / f.binade = K := by omega
      have hr0 : r % f.binade = 0 := by rw [hqe, Nat.mul_comm] at hdm; omega
      rw [hqe, hr0, Nat.add_zero, hb, ← Nat.pow_add]
      exact Nat.pow_le_pow_right (by decide) (by omega)

theorem log2_le {n k : Nat} (h0 : n ≠ 0) (h : n ≤ 2 ^ k) : n.log2 ≤ k := by
  have h1 := Nat.log2_self_le h0
  exact (Nat.pow_le_pow_iff_right (by decide : 1 < 2)).1 (Nat.le_trans h1 h)

theorem word_mod (f : Format) (s : Bool) (r : Nat) (h : r < f.signWeight) : f.word s r % f.signWeight = r := by
  unfold Format.word
  cases s
  · simp [Nat.mod_eq_of_lt h]
  · simp [Nat.mod_eq_of_lt h]

/-- A finite narrow number is finite when it is made wide. -/
theorem wide_finite (b : Nat) (s : Bool) (m : Nat) (e : Int) (h : single.read b = .number s m e) : (double.read (double.nearest s m e)).isInfinity = false := by
  have hF : double.fractionBits = 52 := rfl
  have hL : double.leastPlace = -1074 := by decide
  have hme : m < 2 ^ 24 ∧ e ≤ 104 := by
    unfold Format.read at h
    have hb : single.binade = 8388608 := by decide
    have hi : single.infRung = 2139095040 := by decide
    have hl : single.leastPlace = -149 := by decide
    generalize b % single.signWeight = r at h
    simp only [hb, hi, hl] at h
    by_cases h1 : r < 8388608
    · simp only [h1, if_true] at h
      injection h with _ h2 h3
      omega
    · by_cases h2 : r < 2139095040
      · simp only [h1, h2, if_true, if_false] at h
        injection h with _ h3 h4
        omega
      · simp only [h1, h2, if_false] at h
        split at h <;> cases h
  obtain ⟨r, hr, hle⟩ := nearest_rung double s m e 1151 (by
    by_cases h0 : m = 0
    · exact .inl h0
    · right
      have := log2_le h0 (Nat.le_of_lt hme.1)
      rw [hF, hL]; omega)
  rw [hr]
  have hb : double.binade = 4503599627370496 := by decide
  have hsw : double.signWeight = 9223372036854775808 := by decide
  have hi : double.infRung = 9218868437227405312 := by decide
  have hmod := word_mod double s r (by rw [hsw]; rw [hb] at hle; omega)
  unfold Format.read
  rw [hmod, hi, hb]
  rw [hb] at hle
  simp only []
  split
  · rfl
  · rw [if_pos (by omega)]; rfl
end Go.Proofs.Ytglimhkpndfjgaa
/- Numbers of single precision as the walks meet them: what an operation gives where its result is a NaN, of which the language leaves the bits open. Two numbers are alike where their bits are one, or both are NaN. Plain laws; no statement is proved here. -/
namespace Go.Proofs.Ytglimhkpndfjgaa
open Go.ChangeShapes Go.WideShapes Go.ChangeAt Go.RowKit
set_option linter.unusedVariables false

/-- The NaN that stands for all. -/
def qn : FloatKind → Nat | .f32 => 2143289344 | .f64 => 9221120237041090560
def isN (k : FloatKind) (b : Nat) : Bool := (k.format.read b).isNaN
/-- A number's bits, one pattern for each NaN. -/
def cnk (k : FloatKind) (b : Nat) : Nat := if isN k b then qn k else b
def cn (b : Nat) : Nat := cnk .f32 b

theorem isN_qn (k : FloatKind) : isN k (qn k) = true := by cases k <;> decide
theorem isN_read {k : FloatKind} {b : Nat} (h : isN k b = true) : ∃ s f, k.format.read b = .nan s f := by
  unfold isN at h
  cases hr : k.format.read b <;> rw [hr] at h <;> simp [Ieee.Datum.isNaN] at h
  exact ⟨_, _, rfl⟩
theorem cnk_of_nan {k : FloatKind} {b : Nat} (h : isN k b = true) : cnk k b = qn k := by simp [cnk, h]
theorem cnk_of_not {k : FloatKind} {b : Nat} (h : isN k b = false) : cnk k b = b := by simp [cnk, h]
theorem isN_cnk (k : FloatKind) (b : Nat) : isN k (cnk k b) = isN k b := by
  cases h : isN k b
  · rw [cnk_of_not h, h]
  · rw [cnk_of_nan h, isN_qn]
theorem cnk_cnk (k : FloatKind) (b : Nat) : cnk k (cnk k b) = cnk k b := by
  cases h : isN k b
  · rw [cnk_of_not h, cnk_of_not h]
  · rw [cnk_of_nan h, cnk_of_nan (isN_qn k)]
theorem cnk_eq {k : FloatKind} {a b : Nat} (h : cnk k a = cnk k b) : (isN k a = true ∧ isN k b = true) ∨ (isN k a = false ∧ a = b) := by
  have h2 : isN k a = isN k b := by rw [← isN_cnk k a, h, isN_cnk]
  cases ha : isN k a
  · right; rw [cnk_of_not ha, cnk_of_not (h2 ▸ ha)] at h; exact ⟨rfl, h⟩
  · left; exact ⟨rfl, h2 ▸ ha⟩

theorem bits_nan_left {op : BinOp} {k : FloatKind} {x y : Nat} (h : isN k x = true) : floatBits op k x y = none := by
  obtain ⟨s, f, hr⟩ := isN_read h
  cases op <;> simp [floatBits, Ieee.Format.add, Ieee.Format.sub, Ieee.Format.mul, Ieee.Format.div, hr, Ieee.Datum.sum, Ieee.Datum.product, Ieee.Datum.quotient]
theorem bits_nan_right {op : BinOp} {k : FloatKind} {x y : Nat} (h : isN k y = true) : floatBits op k x y = none := by
  obtain ⟨s, f, hr⟩ := isN_read h
  cases op <;> simp only [floatBits, Ieee.Format.add, Ieee.Format.sub, Ieee.Format.mul, Ieee.Format.div, hr]
  all_goals cases k.format.read x <;> simp [Ieee.Datum.sum, Ieee.Datum.product, Ieee.Datum.quotient, Ieee.Datum.opposite]
theorem bits_cn (op : BinOp) (k : FloatKind) (x y : Nat) : floatBits op k (cnk k x) (cnk k y) = floatBits op k x y := by
  cases hx : isN k x
  · rw [cnk_of_not hx]
    cases hy : isN k y
    · rw [cnk_of_not hy]
    · rw [cnk_of_nan hy, bits_nan_right (isN_qn k), bits_nan_right hy]
  · rw [cnk_of_nan hx, bits_nan_left (isN_qn k), bits_nan_left hx]
theorem order_nan_left {k : FloatKind} {x y : Nat} (h : isN k x = true) : k.format.order x y = none := by
  obtain ⟨s, f, hr⟩ := isN_read h
  simp [Ieee.Format.order, hr, Ieee.Datum.order]
theorem order_nan_right {k : FloatKind} {x y : Nat} (h : isN k y = true) : k.format.order x y = none := by
  obtain ⟨s, f, hr⟩ := isN_read h
  unfold Ieee.Format.order
  rw [hr]
  cases k.format.read x <;> simp [Ieee.Datum.order]
theorem order_cn (k : FloatKind) (x y : Nat) : k.format.order (cnk k x) (cnk k y) = k.format.order x y := by
  cases hx : isN k x
  · rw [cnk_of_not hx]
    cases hy : isN k y
    · rw [cnk_of_not hy]
    · rw [cnk_of_nan hy, order_nan_right (isN_qn k), order_nan_right hy]
  · rw [cnk_of_nan hx, order_nan_left (isN_qn k), order_nan_left hx]
theorem order_self {k : FloatKind} {x : Nat} (h : isN k x = false) : k.format.order x x = some .eq := by
  unfold Ieee.Format.order
  unfold isN at h
  cases hr : k.format.read x <;> rw [hr] at h
  · simp [Ieee.Datum.order]
  · simp [Ieee.Datum.order]
  · simp [Ieee.Datum.isNaN] at h

/-! ### The operations. -/
/-- What an operation gives: the bits, or the NaN that stands for all. -/
def fop (op : BinOp) (x y : Nat) : Nat := cn ((floatBits op .f32 x y).getD (qn .f32))
def nanOf (k : FloatKind) (q : Question) (w : World) : Nat := q.cut (w.tape w.drawn q)
/-- The very bits that the operation gives in the world w. -/
@[irreducible] def fres (op : BinOp) (x y : Nat) (w : World) : Nat := (floatBits op .f32 x y).getD (nanOf .f32 (.nanBits .f32 x y) w)
@[irreducible] def fcnt (op : BinOp) (x y : Nat) : Nat := if (floatBits op .f32 x y).isSome then 0 else 1

theorem nan32 (t : Nat) : isN .f32 ((t % 2) * 2 ^ 31 + 0x7f800000 + 1 + (t / 2) % (2 ^ 23 - 1)) = true := by
  unfold isN
  show (Ieee.single.read _).isNaN = true
  have h1 : (t / 2) % (2 ^ 23 - 1) < 2 ^ 23 - 1 := Nat.mod_lt _ (by decide)
  have e : ((t % 2) * 2 ^ 31 + 0x7f800000 + 1 + (t / 2) % (2 ^ 23 - 1)) % Ieee.single.signWeight = 0x7f800000 + 1 + (t / 2) % (2 ^ 23 - 1) := by
    show _ % 2147483648 = _
    omega
  have hi : Ieee.single.infRung = 0x7f800000 := by decide
  have hb : Ieee.single.binade = 8388608 := by decide
  unfold Ieee.Format.read
  simp only [e, hi, hb]
  rw [if_neg (by omega), if_neg (by omega), if_neg (by omega)]
  rfl
theorem nan64 (t : Nat) : isN .f64 ((t % 2) * 2 ^ 63 + 0x7ff0000000000000 + 1 + (t / 2) % (2 ^ 52 - 1)) = true := by
  unfold isN
  show (Ieee.double.read _).isNaN = true
  have h1 : (t / 2) % (2 ^ 52 - 1) < 2 ^ 52 - 1 := Nat.mod_lt _ (by decide)
  have e : ((t % 2) * 2 ^ 63 + 0x7ff0000000000000 + 1 + (t / 2) % (2 ^ 52 - 1)) % Ieee.double.signWeight = 0x7ff0000000000000 + 1 + (t / 2) % (2 ^ 52 - 1) := by
    show _ % 9223372036854775808 = _
    omega
  have hi : Ieee.double.infRung = 0x7ff0000000000000 := by decide
  have hb : Ieee.double.binade = 4503599627370496 := by decide
  unfold Ieee.Format.read
  simp only [e, hi, hb]
  rw [if_neg (by omega), if_neg (by omega), if_neg (by omega)]
  rfl

theorem cn_fres (op : BinOp) (x y : Nat) (w : World) : cn (fres op x y w) = fop op (cn x) (cn y) := by
  unfold fres fop
  show _ = cn ((floatBits op .f32 (cnk .f32 x) (cnk .f32 y)).getD _)
  rw [bits_cn]
  cases h : floatBits op .f32 x y with
  | some r => rfl
  | none =>
    simp only [Option.getD_none]
    have : isN .f32 (nanOf .f32 (.nanBits .f32 x y) w) = true := by simp only [nanOf, Question.cut]; exact nan32 _
    unfold cn
    rw [cnk_of_nan this, cnk_of_nan (isN_qn _)]

section
variable {P : Program} (w : World) (t : TypeId) (x y : Nat)
theorem run_arith (op : BinOp) (hop : op = .add ∨ op = .sub ∨ op = .mul ∨ op = .quo) : (binOp op t (.float .f32 x) (.float .f32 y)).run P w = .ok (.float .f32 (fres op x y w)) (w.drewN (fcnt op x y)) := by
  cases h : floatBits op .f32 x y with
  | some r => simpa [fres, fcnt, h, World.drewN_zero] using run_float_arith (P := P) w op t .f32 x y r h
  | none =>
    have hb : (Op.floatArith op .f32 x y).run P w = .ok (.float .f32 (nanOf .f32 (.nanBits .f32 x y) w)) (w.drewN 1) := by
      unfold floatBits at h
      rcases hop with rfl | rfl | rfl | rfl <;> simp only at h <;> simp [Op.floatArith, h, Question.forced, nanOf] <;> rfl
    rcases hop with rfl | rfl | rfl | rfl <;> simp [binOp, hb, fres, fcnt, h]
@[go_sem] theorem run_fadd : (binOp .add t (.float .f32 x) (.float .f32 y)).run P w = .ok (.float .f32 (fres .add x y w)) (w.drewN (fcnt .add x y)) := run_arith w t x y _ (.inl rfl)
@[go_sem] theorem run_fsub : (binOp .sub t (.float .f32 x) (.float .f32 y)).run P w = .ok (.float .f32 (fres .sub x y w)) (w.drewN (fcnt .sub x y)) := run_arith w t x y _ (.inr (.inl rfl))
@[go_sem] theorem run_fmul : (binOp .mul t (.float .f32 x) (.float .f32 y)).run P w = .ok (.float .f32 (fres .mul x y w)) (w.drewN (fcnt .mul x y)) := run_arith w t x y _ (.inr (.inr (.inl rfl)))
@[go_sem] theorem run_fquo : (binOp .quo t (.float .f32 x) (.float .f32 y)).run P w = .ok (.float .f32 (fres .quo x y w)) (w.drewN (fcnt .quo x y)) := run_arith w t x y _ (.inr (.inr (.inr rfl)))
end

/-! ### float64(x) of a narrow number. -/
/-- A narrow number made wide. -/
def widen (b : Nat) : Nat := if isN .f32 b then qn .f64 else FloatKind.f64.encode (FloatKind.f32.decode b)
@[irreducible] def fwid (b : Nat) (w : World) : Nat := if isN .f32 b then nanOf .f64 (.nanConv .f64 b) w else widen b
@[irreducible] def wcnt (b : Nat) : Nat := if isN .f32 b then 1 else 0
theorem widen_bits {b : Nat} (h : isN .f32 b = false) : floatToFloatBits .f32 b .f64 = some (widen b) := by
  unfold floatToFloatBits widen
  rw [h]
  simp only [reduceCtorEq, if_false, Bool.false_eq_true]
  unfold isN at h
  have hd : FloatKind.f32.decode b = FloatKind.f32.format.read b := rfl
  cases hr : FloatKind.f32.format.read b with
  | nan s f => rw [hr] at h; cases h
  | infinity s => simp only [hd, hr]
  | number s m e =>
    simp only [hd, hr]
    have := wide_finite b s m e hr
    rw [if_neg (by
      show ¬ (FloatKind.f64.format.read (FloatKind.f64.format.write (.number s m e))).isInfinity = true
      show ¬ (Ieee.double.read (Ieee.double.nearest s m e)).isInfinity = true
      rw [this]; decide)]
theorem cn_fwid (b : Nat) (w : World) : cnk .f64 (fwid b w) = cnk .f64 (widen b) := by
  unfold fwid
  cases h : isN .f32 b
  · simp
  · have : isN .f64 (nanOf .f64 (.nanConv .f64 b) w) = true := by simp only [nanOf, Question.cut]; exact nan64 _
    simp [widen, h, cnk_of_nan this, cnk_of_nan (isN_qn _)]
theorem widen_cn (b : Nat) : widen (cn b) = widen b := by
  unfold cn
  cases h : isN .f32 b
  · rw [cnk_of_not h]
  · rw [cnk_of_nan h]; simp [widen, h, isN_qn]
section
variable {P : Program} (w : World)
theorem run_widen_conv (b : Nat) : (Conv.floatToFloat .f32 b .f64).run P w = .ok (.float .f64 (fwid b w)) (w.drewN (wcnt b)) := by
  cases h : isN .f32 b
  · rw [run_floatToFloat w (widen_bits h)]
    simp [fwid, wcnt, h, World.drewN_zero]
  · obtain ⟨s, f, hr⟩ := isN_read h
    have hr' : FloatKind.f32.decode b = .nan s f := hr
    simp only [Conv.floatToFloat, reduceCtorEq, if_false, hr']
    simp [fwid, wcnt, h, Question.forced, nanOf]
    rfl
theorem run_convert_widen (src dst : TypeId) (b : Nat) (hs : P.underlying src = some (.float .f32)) (hd : P.underlying dst = some (.float .f64)) : (convert src dst (.float .f32 b)).run P w = .ok (.float .f64 (fwid b w)) (w.drewN (wcnt b)) := by
  simp [convert, run_underlying hs, run_underlying hd, run_widen_conv]
theorem run_convert_wide_complex (src dst : TypeId) (a b : Nat) (hs : P.underlying src = some (.complex .f32)) (hd : P.underlying dst = some (.complex .f64)) :
    (convert src dst (.complex .f32 a b)).run P w = .ok (.complex .f64 (fwid a w) (fwid b (w.drewN (wcnt a)))) (w.drewN (wcnt a + wcnt b)) := by
  simp [convert, run_underlying hs, run_underlying hd, Conv.complexToComplex, run_widen_conv]
end

end Go.Proofs.Ytglimhkpndfjgaa
/- The walks that FnExactDropsLogged needs: levels are copied, and the greatest drop is found. -/
namespace Go.Proofs.Ytglimhkpndfjgaa
open Go.ChangeShapes Go.WideShapes Go.ChangeAt Go.RowKit
set_option linter.unusedVariables false

/-- A row of int16 numbers. -/
@[irreducible] def i16s (n : Nat) (f : Nat → Int) : Array Value := Array.ofFn (n := n) fun i => .int .i16 (f i)
theorem i16s_size (n : Nat) (f : Nat → Int) : (i16s n f).size = n := by simp [i16s]
theorem i16s_get (n : Nat) (f : Nat → Int) (i : Nat) (h : i < n) : (i16s n f)[i]? = some (.int .i16 (f i)) := by simp [i16s, h]
theorem i16s_one (n : Nat) (f : Nat → Int) : ∀ v ∈ (i16s n f).toList, v.oneCell' = true := by
  intro v hv; simp [i16s] at hv; obtain ⟨i, rfl⟩ := hv; rfl

/-- The first of the first k numbers with the greatest drop. -/
def bestOf (f g : Nat → Int) : Nat → Nat
  | 0 => 0
  | k + 1 => if f (bestOf f g k) - g (bestOf f g k) < f k - g k then k else bestOf f g k
theorem bestOf_lt (f g : Nat → Int) (k : Nat) (h : 0 < k) : bestOf f g k < k := by
  induction k with
  | zero => omega
  | succ k ih =>
    unfold bestOf
    split
    · omega
    · cases k with
      | zero => simp [bestOf]
      | succ k => have := ih (by omega); omega
theorem bestOf_one (f g : Nat → Int) : bestOf f g 1 = 0 := by simp [bestOf]
/-- Each number is an int16. -/
def Is16 (n : Nat) (f : Nat → Int) : Prop := ∀ i, i < n → -32768 ≤ f i ∧ f i ≤ 32767
set_option maxRecDepth 100000 in
/-- An array of levels, opened. -/
theorem open_i16s {n : Nat} {t : TypeId} (ht : Try.prog.underlying t = some (.array n 63)) (hc : Try.prog.cellsOf t = n) {H : Type} {enc : TypeId × Value → H} {W : World} {r : Reach} {b0 : Nat} {v : Value} {d : DataW H} {ps : List MemPlace} (hv : Value.okWide Try.prog W r b0 t v) (h : DataW.Trod enc Try.prog W 0 (fun _ => true) true t v d ps) :
    ∃ f, v = .agg (i16s n f) ∧ Is16 n f := by
  obtain ⟨cs, rfl, hs⟩ := okWide_row ht hv
  obtain ⟨fuel, hf⟩ := h
  obtain ⟨f, hf'⟩ := ints_of_row ht Try.underlying63 (by kernel_rfl) hf
  refine ⟨f, ?_, fun i hi => ?_⟩
  · congr 1
    apply Array.ext
    · rw [hs, hc, i16s_size]
    · intro i h1 h2
      have := (hf' i (by rw [i16s_size] at h2; exact h2)).1
      have h3 := i16s_get n f i (by rw [i16s_size] at h2; exact h2)
      have e1 : cs[i]? = some (.int .i16 (f i)) := by simpa [Value.cells] using this
      rw [Array.getElem?_eq_getElem h1] at e1
      rw [Array.getElem?_eq_getElem h2] at h3
      exact Option.some.inj (e1.trans h3.symm)
  · have := (hf' i hi).2
    simp [Lit.wf, IntKind.min, IntKind.max, IntKind.signed, IntKind.bits] at this
    omega

/-- What both functions return. -/
def dropsOf (f g : Nat → Int) : Value := .tuple #[.int .i64 (bestOf f g 64), .int .i64 (f (bestOf f g 64) - g (bestOf f g 64))]

end Go.Proofs.Ytglimhkpndfjgaa
/- The walks that FnExactWaveFrom needs: sums of narrow numbers, and the wave that is seen in twelve levels. -/
namespace Go.Proofs.Ytglimhkpndfjgaa
open Go.ChangeShapes Go.WideShapes Go.ChangeAt Go.RowKit
set_option linter.unusedVariables false

/-- n narrow numbers. -/
@[irreducible] def fls (n : Nat) (f : Nat → Nat) : List Value := (List.range n).map fun i => .float .f32 (f i)
theorem fls_length (n : Nat) (f : Nat → Nat) : (fls n f).length = n := by simp [fls]
theorem fls_get (n : Nat) (f : Nat → Nat) (i : Nat) (h : i < n) : (fls n f)[i]? = some (.float .f32 (f i)) := by simp [fls, h]
theorem fls_zero (f : Nat → Nat) : fls 0 f = [] := by simp [fls]
theorem fls_succ (n : Nat) (f : Nat → Nat) : fls (n + 1) f = fls n f ++ [.float .f32 (f n)] := by simp [fls, List.range_succ]
theorem fls_congr {n : Nat} {f g : Nat → Nat} (h : ∀ i, i < n → f i = g i) : fls n f = fls n g := by
  unfold fls; apply List.map_congr_left; intro i hi; rw [h i (List.mem_range.1 hi)]
/-- f, but at n: b. -/
def upd (f : Nat → Nat) (n b : Nat) : Nat → Nat := fun i => if i = n then b else f i
theorem fls_snoc (n : Nat) (f : Nat → Nat) (b : Nat) : fls n f ++ [.float .f32 b] = fls (n + 1) (upd f n b) := by
  rw [fls_succ, fls_congr (g := upd f n b) (fun i hi => by simp [upd]; omega)]
  simp [upd]
/-- The sum of the first n numbers, from left to right. -/
def fsumTo (f : Nat → Nat) : Nat → Nat
  | 0 => 0
  | 1 => f 0
  | k + 2 => fop .add (fsumTo f (k + 1)) (f (k + 1))
theorem fsumTo_congr {f g : Nat → Nat} : ∀ (n : Nat), (∀ i, i < n → f i = g i) → fsumTo f n = fsumTo g n
  | 0, _ => rfl
  | 1, h => h 0 (by omega)
  | k + 2, h => by simp only [fsumTo]; rw [fsumTo_congr (k + 1) (fun i hi => h i (by omega)), h (k + 1) (by omega)]
theorem fsumTo_succ (f : Nat → Nat) (k : Nat) (h : 1 ≤ k) : fsumTo f (k + 1) = fop .add (fsumTo f k) (f k) := by
  obtain ⟨j, rfl⟩ : ∃ j, k = j + 1 := ⟨k - 1, by omega⟩
  rfl

set_option maxRecDepth 100000 in
set_option maxHeartbeats 400000 in
theorem l03Sum_any (g : Nat) (v : Value) (n : Nat) (f : Nat → Nat) (hn : n ≤ maxLen) (w : World) (ho : Own w g 24 1 v n (fls n f)) :
    Calls Try.prog 66 #[v] w fun e w' => ∃ r, e = .returned (.float .f32 r) ∧ cn r = fsumTo (fun i => cn (f i)) n ∧ ∃ k, w' = w.drewN k := by
  obtain ⟨cap, rfl, hc1, hc2⟩ := ho.form
  unfold maxLen at hn
  by_cases h0 : n = 0
  · subst h0
    go_enter Try.func66, Try.ntmps66
    go_wp2
    go_ret
    exact ⟨_, rfl, rfl, 0, rfl⟩
  · have hz : ((n : Int) == 0) = false := by simp; omega
    have hc0 : w.cell? ⟨g, 0, none⟩ = some (.float .f32 (f 0)) := by rw [ho.cell 0 (by omega), fls_get _ _ _ (by omega)]
    have hpos : (0 : Int) < n := by omega
    go_enter Try.func66, Try.ntmps66
    go_wp2
    go_loopw [3, 4] (fun s i wr => ∃ k b : Nat, 1 ≤ k ∧ k ≤ n ∧ s = .float .f32 b ∧ i = .int .i64 k ∧ Hid (cn b = fsumTo (fun i => cn (f i)) k) ∧ ∃ q, wr = w.drewN q) (fun _ i _ => n - (intOf i).toNat)
    case atStart => exact ⟨1, f 0, by omega, by omega, rfl, rfl, Lib.hid rfl, 0, rfl⟩
    case round =>
      obtain ⟨k, b, hk1, hk, rfl, rfl, hb, q, rfl⟩ := hrel
      by_cases hlt : k < n
      · have hck : w.cell? ⟨g, k, none⟩ = some (.float .f32 (f k)) := by rw [ho.cell k (by omega), fls_get _ _ _ (by omega)]
        go_wp2
        go_roundw
        case rel => exact ⟨k + 1, _, by omega, by omega, rfl, by go_num, Lib.hid (by rw [cn_fres, hb.out, fsumTo_succ _ _ hk1]), _, rfl⟩
        case measure => simp [intOf]; omega
      · obtain rfl : k = n := by omega
        go_wp2
        go_ret
        exact ⟨_, rfl, hb.out, _, rfl⟩

set_option maxRecDepth 100000 in
set_option maxHeartbeats 400000 in
theorem sum_any (g : Nat) (v : Value) (n : Nat) (f : Nat → Nat) (hn : n ≤ maxLen) (w : World) (ho : Own w g 24 1 v n (fls n f)) :
    Calls Try.prog 64 #[v] w fun e w' => ∃ r, e = .returned (.float .f32 r) ∧ cn r = fsumTo (fun i => cn (f i)) n ∧ ∃ k, w' = w.drewN k := by
  obtain ⟨cap, rfl, hc1, hc2⟩ := ho.form
  unfold maxLen at hn
  by_cases h0 : n = 0
  · subst h0
    go_enter Try.func64, Try.ntmps64
    go_wp2
    go_ret
    exact ⟨_, rfl, rfl, 0, rfl⟩
  · obtain ⟨m, rfl⟩ : ∃ m, n = m + 1 := ⟨n - 1, by omega⟩
    have hz : (((m + 1 : Nat) : Int) == 0) = false := by simp; omega
    have hc0 : w.cell? ⟨g, 0, none⟩ = some (.float .f32 (f 0)) := by rw [ho.cell 0 (by omega), fls_get _ _ _ (by omega)]
    have hpos : (0 : Int) < ((m + 1 : Nat) : Int) := by omega
    by_cases hcap : cap = 1
    all_goals
      go_enter Try.func64, Try.ntmps64
      go_wp2
      go_loopw [3, 5, 15] (fun s _ i wr => ∃ k b : Nat, k ≤ m ∧ s = .float .f32 b ∧ i = .int .i64 k ∧ Hid (cn b = fsumTo (fun i => cn (f i)) (k + 1)) ∧ ∃ q, wr = w.drewN q) (fun _ _ i _ => m - (intOf i).toNat)
      case atStart => exact ⟨0, f 0, by omega, rfl, rfl, Lib.hid rfl, 0, rfl⟩
      case round =>
        obtain ⟨k, b, hk, rfl, rfl, hb, q, rfl⟩ := hrel
        by_cases hlt : k < m
        · first
            | (exfalso; omega)
            | (have hck : w.cell? ⟨g, 1 + k, none⟩ = some (.float .f32 (f (k + 1))) := by rw [ho.cell (1 + k) (by omega), fls_get _ _ _ (by omega), Nat.add_comm]
               go_wp2
               go_roundw
               case rel => exact ⟨k + 1, _, by omega, rfl, by go_num, Lib.hid (by rw [cn_fres, hb.out]; exact (fsumTo_succ _ (k + 1) (by omega)).symm), _, rfl⟩
               case measure => simp [intOf]; omega)
        · obtain rfl : k = m := by omega
          go_wp2
          go_ret
          exact ⟨_, rfl, hb.out, _, rfl⟩
end Go.Proofs.Ytglimhkpndfjgaa
