import Derived.Test.YtdnnjahdcabdmaaGreatDoorMD06
import Derived.Test.YtdnnjahdcabdmaaGreatDoorMD07
/- Sizes of numbers: a narrow number made wide, its sign struck, made narrow again; and the same by a subtraction. Plain laws on words; no statement is proved here. -/
namespace Go.Proofs.YtdnnjahdcabdmaaGreatDoor
open Go.ChangeShapes Go.WideShapes Go.ChangeAt Go.RowKit Ieee
set_option linter.unusedVariables false
set_option linter.unusedSimpArgs false

theorem log2_of {n k : Nat} (h1 : 2 ^ k ≤ n) (h2 : n < 2 ^ (k + 1)) : n.log2 = k := by
  have h0 : n ≠ 0 := by have := Nat.two_pow_pos k; omega
  have a := (Nat.le_log2 h0).2 h1
  have b := (Nat.log2_lt h0).2 h2
  omega
theorem log2_shl {n : Nat} (h0 : n ≠ 0) (k : Nat) : (n <<< k).log2 = n.log2 + k := by
  apply log2_of
  · rw [Nat.shiftLeft_eq, Nat.pow_add]; exact Nat.mul_le_mul_right _ (Nat.log2_self_le h0)
  · rw [Nat.shiftLeft_eq, show n.log2 + k + 1 = (n.log2 + 1) + k by omega, Nat.pow_add]; exact Nat.mul_lt_mul_of_pos_right Nat.lt_log2_self (Nat.two_pow_pos _)
/-- Digits that are all noughts are dropped without a trace. -/
theorem cut_shl (s : Bool) (n k : Nat) : Toward.even.cut s (n <<< k) k = n := by
  by_cases h0 : n = 0
  · subst h0
    unfold Toward.cut
    simp
  · unfold Toward.cut
    have hk : min k ((n <<< k).log2 + 2) = k := by rw [log2_shl h0]; omega
    simp only [hk]
    simp only [Nat.one_shiftLeft, Nat.shiftLeft_eq, Nat.mul_mod_left, Nat.mul_div_left _ (Nat.two_pow_pos k)]
    have := Nat.two_pow_pos k
    have h1 : (2 ^ k == 2 * 0) = false := by simp
    simp [h1, Nat.mul_div_cancel _ (Nat.two_pow_pos k)]
theorem nearest_of (f : Format) (s : Bool) (m : Nat) (e last : Int) (n : Nat) (h0 : m ≠ 0) (hl : max (e + m.log2 - f.fractionBits) f.leastPlace = last) (hk : Toward.even.cut s (m <<< (e - last).toNat) (last - e).toNat = n) :
    f.nearest s m e = f.word s (min ((last - f.leastPlace).toNat * f.binade + n) f.infRung) := by
  unfold Format.nearest
  rw [if_neg h0]
  simp only [hl, hk]
theorem binade_pos (f : Format) : 0 < f.binade := Nat.two_pow_pos _
/-- A number that a word stands for, written with more digits, is that word's again. -/
theorem nearest_word (f : Format) (hf : f.binade ≤ f.infRung) (b : Nat) (s s' : Bool) (m : Nat) (e : Int) (k : Nat) (h : f.read b = .number s m e) : f.nearest s' (m <<< k) (e - k) = f.word s' (b % f.signWeight) := by
  unfold Format.read at h
  generalize b % f.signWeight = r at *
  have hbp := binade_pos f
  have hb : f.binade = 2 ^ f.fractionBits := rfl
  by_cases h1 : r < f.binade
  · simp only [h1, if_true] at h
    injection h with _ hm he
    subst hm he
    by_cases h0 : r = 0
    · subst h0; simp [Format.nearest]
    · have hlog : r.log2 < f.fractionBits := (Nat.log2_lt h0).2 (by rw [← hb]; exact h1)
      rw [nearest_of f s' (r <<< k) (f.leastPlace - k) f.leastPlace r (by rw [Nat.shiftLeft_eq]; exact Nat.ne_of_gt (Nat.mul_pos (by omega) (Nat.two_pow_pos _))) (by rw [log2_shl h0]; omega) (by
        rw [show (f.leastPlace - (k : Int) - f.leastPlace).toNat = 0 by omega, show (f.leastPlace - (f.leastPlace - (k : Int))).toNat = k by omega, Nat.shiftLeft_zero]; exact cut_shl _ _ _)]
      rw [Int.sub_self]
      simp only [Int.toNat_zero, Nat.zero_mul, Nat.zero_add]
      rw [Nat.min_eq_left (by omega)]
  · by_cases h2 : r < f.infRung
    · simp only [h1, h2, if_true, if_false] at h
      injection h with _ hm he
      subst hm
      have hmod := Nat.mod_lt r hbp
      have hdm := Nat.div_add_mod r f.binade
      have hq : 1 ≤ r / f.binade := (Nat.le_div_iff_mul_le hbp).2 (by omega)
      have h0 : f.binade + r % f.binade ≠ 0 := by omega
      have hlog : (f.binade + r % f.binade).log2 = f.fractionBits := log2_of (by rw [← hb]; omega) (by rw [Nat.pow_succ, ← hb]; omega)
      rw [nearest_of f s' _ (e - k) e (f.binade + r % f.binade) (by rw [Nat.shiftLeft_eq]; exact Nat.ne_of_gt (Nat.mul_pos (by omega) (Nat.two_pow_pos _))) (by rw [log2_shl h0, hlog]; omega) (by
        rw [show (e - (k : Int) - e).toNat = 0 by omega, show (e - (e - (k : Int))).toNat = k by omega, Nat.shiftLeft_zero]; exact cut_shl _ _ _)]
      have e1 : (e - f.leastPlace).toNat = r / f.binade - 1 := by omega
      rw [e1]
      have e2 : (r / f.binade - 1) * f.binade + (f.binade + r % f.binade) = r := by
        have : (r / f.binade - 1) * f.binade + f.binade = r / f.binade * f.binade := by
          rw [← Nat.succ_mul]; congr 1; omega
        rw [Nat.mul_comm] at hdm
        omega
      rw [e2, Nat.min_eq_left (by omega)]
    · simp only [h1, h2, if_false] at h
      split at h <;> cases h
theorem single_facts : single.binade = 8388608 ∧ single.infRung = 2139095040 ∧ single.leastPlace = -149 ∧ single.signWeight = 2147483648 ∧ single.fractionBits = 23 := by decide
theorem double_facts : double.binade = 4503599627370496 ∧ double.infRung = 9218868437227405312 ∧ double.leastPlace = -1074 ∧ double.signWeight = 9223372036854775808 ∧ double.fractionBits = 52 := by decide

/-- The word of a sign and a rung, read. -/
theorem read_word (f : Format) (s : Bool) (r : Nat) (h : r < f.signWeight) : f.read (f.word s r) = (if r < f.binade then .number s r f.leastPlace else if r < f.infRung then .number s (f.binade + r % f.binade) (f.leastPlace + (r / f.binade - 1 : Nat)) else if r = f.infRung then .infinity s else .nan s (r - f.infRung)) := by
  unfold Format.read
  rw [word_mod f s r h]
  have hs : (f.word s r / f.signWeight % 2 == 1) = s := by
    have hp : 0 < f.signWeight := Nat.two_pow_pos _
    unfold Format.word
    cases s
    · simp [Nat.div_eq_of_lt h]
    · simp only [if_true]
      rw [show (f.signWeight + r) / f.signWeight = 1 by rw [Nat.add_div_left _ hp, Nat.div_eq_of_lt h]]
      rfl
  simp only [hs]

/-- What a narrow number's bits can be. -/
theorem single_range {b : Nat} {s : Bool} {m : Nat} {e : Int} (h : single.read b = .number s m e) : m < 16777216 ∧ -149 ≤ e ∧ e ≤ 104 := by
  unfold Format.read at h
  obtain ⟨hb, hi, hl, hs, hf⟩ := single_facts
  generalize b % single.signWeight = r at h
  simp only [hb, hi, hl] at h
  by_cases h1 : r < 8388608
  · simp only [h1, if_true] at h
    injection h with _ h2 h3
    omega
  · by_cases h2 : r < 2139095040
    · simp only [h1, h2, if_true, if_false] at h
      injection h with _ h3 h4
      omega
    · simp only [h1, h2, if_false] at h
      split at h <;> cases h

/-- A narrow number that is none of the NaNs, made wide, read. -/
theorem read_widen {b : Nat} {s : Bool} {m : Nat} {e : Int} (h : single.read b = .number s m e) (h0 : m ≠ 0) :
    ∃ r, double.nearest s m e = double.word s r ∧ r < double.infRung ∧ double.read (double.word s r) = .number s (m <<< (52 - m.log2)) (e - (52 - m.log2 : Nat)) := by
  obtain ⟨h1, h2, h3⟩ := single_range h
  obtain ⟨hb, hi, hl, hs, hf⟩ := double_facts
  have hL : m.log2 < 24 := (Nat.log2_lt h0).2 (by omega)
  have hlast : max (e + (m.log2 : Int) - (double.fractionBits : Int)) double.leastPlace = e - (52 - m.log2 : Nat) := by rw [hf, hl]; omega
  have hm1 : 2 ^ 52 ≤ m <<< (52 - m.log2) := by
    rw [Nat.shiftLeft_eq]
    calc 2 ^ 52 = 2 ^ m.log2 * 2 ^ (52 - m.log2) := by rw [← Nat.pow_add]; congr 1; omega
      _ ≤ m * 2 ^ (52 - m.log2) := Nat.mul_le_mul_right _ (Nat.log2_self_le h0)
  have hm2 : m <<< (52 - m.log2) < 2 ^ 53 := by
    rw [Nat.shiftLeft_eq]
    calc m * 2 ^ (52 - m.log2) < 2 ^ (m.log2 + 1) * 2 ^ (52 - m.log2) := Nat.mul_lt_mul_of_pos_right Nat.lt_log2_self (Nat.two_pow_pos _)
      _ = 2 ^ 53 := by rw [← Nat.pow_add]; congr 1; omega
  have hn := nearest_of double s m e (e - (52 - m.log2 : Nat)) (m <<< (52 - m.log2)) h0 hlast (by
    rw [show (e - (e - ((52 - m.log2 : Nat) : Int))).toNat = 52 - m.log2 by omega, show (e - ((52 - m.log2 : Nat) : Int) - e).toNat = 0 by omega]
    have := cut_shl s (m <<< (52 - m.log2)) 0
    simpa using this)
  generalize hM : m <<< (52 - m.log2) = M at *
  obtain ⟨q, hq⟩ : ∃ q : Nat, (e - ((52 - m.log2 : Nat) : Int) - double.leastPlace).toNat = q := ⟨_, rfl⟩
  rw [hq, hb, hi] at hn
  rw [hl] at hq
  have hq2 : q ≤ 1200 := by omega
  simp only [Nat.reducePow] at hm1 hm2
  rw [Nat.min_eq_left (by omega)] at hn
  refine ⟨q * 4503599627370496 + M, hn, by rw [hi]; omega, ?_⟩
  rw [read_word _ _ _ (by rw [hs]; omega), hb, hi, hl]
  rw [if_neg (by omega), if_pos (by omega)]
  have d1 : (q * 4503599627370496 + M) / 4503599627370496 = q + 1 := by omega
  have d2 : (q * 4503599627370496 + M) % 4503599627370496 = M - 4503599627370496 := by omega
  rw [d1, d2, show 4503599627370496 + (M - 4503599627370496) = M by omega, show (-1074 : Int) + ((q + 1 - 1 : Nat) : Int) = e - ((52 - m.log2 : Nat) : Int) by omega]
/-- A number with its sign struck. -/
def fab (b : Nat) : Nat := b % 2147483648
theorem fab_word (s : Bool) (r : Nat) (h : r < 2147483648) : fab (single.word s r) = r := by
  have := word_mod single s r (by rw [single_facts.2.2.2.1]; exact h)
  rw [single_facts.2.2.2.1] at this
  exact this
theorem single_inf {b : Nat} {s : Bool} (h : single.read b = .infinity s) : fab b = 2139095040 := by
  unfold Format.read at h
  obtain ⟨hb, hi, hl, hs, hf⟩ := single_facts
  unfold fab
  rw [hs] at h
  generalize b % 2147483648 = r at *
  simp only [hb, hi, hl] at h
  split at h
  · cases h
  · split at h
    · cases h
    · split at h
      · assumption
      · cases h
theorem zero_mag {b : Nat} {s : Bool} {e : Int} (h : single.read b = .number s 0 e) : fab b = 0 := by
  unfold Format.read at h
  obtain ⟨hb, hi, hl, hs, hf⟩ := single_facts
  unfold fab
  rw [hs] at h
  generalize b % 2147483648 = r at *
  simp only [hb, hi, hl] at h
  split at h
  · injection h
  · split at h
    · injection h with _ h2; omega
    · split at h <;> cases h

/-- 'float32(math.Abs(float64(a)))': the sign is struck. -/
theorem narrow_abs (b : Nat) (h : isN .f32 b = false) : floatToFloatBits .f64 (widen b % 9223372036854775808) .f32 = some (fab b) := by
  unfold floatToFloatBits
  rw [if_neg (by decide)]
  unfold widen
  rw [h]
  simp only [Bool.false_eq_true, if_false]
  unfold isN at h
  show (match FloatKind.f64.decode (FloatKind.f64.encode (single.read b) % 9223372036854775808) with | .nan _ _ => none | .infinity s => some (FloatKind.f32.encode (.infinity s)) | .number s m e => _) = _
  have hr0 : ∀ (s : Bool) (r : Nat), r < 9223372036854775808 → double.word s r % 9223372036854775808 = double.word false r := fun s r hr => by
    have := word_mod double s r (by rw [double_facts.2.2.2.1]; exact hr)
    rw [double_facts.2.2.2.1] at this
    rw [this]; rfl
  have h' : (single.read b).isNaN = false := h
  cases hr : single.read b with
  | nan s f => rw [hr] at h'; cases h'
  | infinity s =>
    have e1 : FloatKind.f64.encode (.infinity s) % 9223372036854775808 = double.word false double.infRung := hr0 s double.infRung (by rw [double_facts.2.1]; omega)
    rw [e1]
    have e2 : FloatKind.f64.decode (double.word false double.infRung) = .infinity false := by decide
    simp only [e2]
    rw [single_inf hr]
    rfl
  | number s m e =>
    by_cases h0 : m = 0
    · subst h0
      have e1 : FloatKind.f64.encode (.number s 0 e) % 9223372036854775808 = double.word false 0 := by
        show double.nearest s 0 e % _ = _
        rw [show double.nearest s 0 e = double.word s 0 by simp [Format.nearest]]
        exact hr0 s 0 (by omega)
      rw [e1]
      have e2 : FloatKind.f64.decode (double.word false 0) = .number false 0 (-1074) := by decide
      simp only [e2]
      rw [zero_mag hr]
      decide
    · obtain ⟨r, h1, h2, h3⟩ := read_widen hr h0
      have e1 : FloatKind.f64.encode (.number s m e) % 9223372036854775808 = double.word false r := by
        show double.nearest s m e % _ = _
        rw [h1]; exact hr0 s r (by rw [double_facts.2.1] at h2; omega)
      rw [e1]
      have e2 : FloatKind.f64.decode (double.word false r) = .number false (m <<< (52 - m.log2)) (e - (52 - m.log2 : Nat)) := by
        show double.read (double.word false r) = _
        rw [read_word _ _ _ (by have := double_facts.2.1; have := double_facts.2.2.2.1; omega)] at h3 ⊢
        split at h3
        · rename_i hlt; rw [if_pos hlt]; injection h3 with _ a b; rw [a, b]
        · rename_i hlt; rw [if_neg hlt, if_pos h2]; injection h3 with _ a b; rw [a, b]
      simp only [e2]
      have e3 : FloatKind.f32.encode (.number false (m <<< (52 - m.log2)) (e - (52 - m.log2 : Nat))) = single.word false (b % single.signWeight) := nearest_word single (by decide) b s false m e _ hr
      rw [e3]
      have e4 : single.word false (b % single.signWeight) = fab b := by rw [single_facts.2.2.2.1]; rfl
      rw [e4]
      have e5 : (FloatKind.f32.decode (fab b)).isInfinity = false := by
        show (single.read (fab b)).isInfinity = false
        unfold Format.read at hr ⊢
        have e6 : fab b % single.signWeight = b % single.signWeight := by rw [single_facts.2.2.2.1]; unfold fab; omega
        rw [e6]
        generalize b % single.signWeight = q at *
        simp only at hr ⊢
        split
        · rfl
        · split
          · rfl
          · rename_i q1 q2
            rw [if_neg q1, if_neg q2] at hr
            split at hr <;> cases hr
      rw [e5]; rfl
end Go.Proofs.YtdnnjahdcabdmaaGreatDoor
/- What flows in a ground, as plain numbers: balances, steps, sweeps; what a valid ground's numbers are. Plain laws; no statement is proved here. -/
namespace Go.Proofs.YtdnnjahdcabdmaaGreatDoor
open Go.ChangeShapes Go.WideShapes Go.ChangeAt Go.RowKit
set_option linter.unusedVariables false
set_option linter.unusedSimpArgs false

/-! ### Numbers that are alike. -/
theorem fop_cn (op : BinOp) (x y : Nat) : fop op (cn x) (cn y) = fop op x y := by unfold fop cn; rw [bits_cn]
theorem fop_eq {op : BinOp} {x y x' y' : Nat} (h : cn x = cn x') (h' : cn y = cn y') : fop op x y = fop op x' y' := by rw [← fop_cn op x y, h, h', fop_cn]
theorem cn_cn (x : Nat) : cn (cn x) = cn x := cnk_cnk _ _
theorem cn_fop (op : BinOp) (x y : Nat) : cn (fop op x y) = fop op x y := cnk_cnk _ _
theorem cn_res (op : BinOp) (x y : Nat) (w : World) : cn (fres op x y w) = fop op x y := by rw [cn_fres, fop_cn]
theorem cn_num {b : Nat} (h : isN .f32 b = false) : cn b = b := cnk_of_not h
theorem isN_cn (b : Nat) : isN .f32 (cn b) = isN .f32 b := isN_cnk _ _
@[irreducible] def fgt (a b : Nat) : Bool := FloatKind.f32.format.order a b == some .gt
theorem fgt_eq (a b : Nat) : (FloatKind.f32.format.order a b == some .gt) = fgt a b := by unfold fgt; rfl
theorem fge_cn (x y : Nat) : fge (cn x) (cn y) = fge x y := by unfold fge cn; rw [order_cn]
theorem fle_cn (x y : Nat) : fle (cn x) (cn y) = fle x y := by unfold fle cn; rw [order_cn]
theorem flt_cn (x y : Nat) : flt (cn x) (cn y) = flt x y := by unfold flt cn; rw [order_cn]
theorem fgt_cn (x y : Nat) : fgt (cn x) (cn y) = fgt x y := by unfold fgt cn; rw [order_cn]
theorem feq_cn (x y : Nat) : feq (cn x) (cn y) = feq x y := by unfold feq cn; rw [order_cn]
theorem fge_al {x x' : Nat} (h : cn x = cn x') (y : Nat) : fge x y = fge x' y := by rw [← fge_cn, h, fge_cn]
theorem fle_al {x x' : Nat} (h : cn x = cn x') (y : Nat) : fle x y = fle x' y := by rw [← fle_cn, h, fle_cn]
theorem flt_al {x x' : Nat} (h : cn x = cn x') (y : Nat) : flt x y = flt x' y := by rw [← flt_cn, h, flt_cn]
theorem fgt_al {x x' : Nat} (h : cn x = cn x') (y : Nat) : fgt x y = fgt x' y := by rw [← fgt_cn, h, fgt_cn]
theorem feq_al {x x' : Nat} (h : cn x = cn x') (y : Nat) : feq x y = feq x' y := by rw [← feq_cn, h, feq_cn]
theorem fgt_al2 {x x' y y' : Nat} (h : cn x = cn x') (h' : cn y = cn y') : fgt x y = fgt x' y' := by rw [← fgt_cn, h, h', fgt_cn]
theorem flt_al2 {x x' y y' : Nat} (h : cn x = cn x') (h' : cn y = cn y') : flt x y = flt x' y' := by rw [← flt_cn, h, h', flt_cn]
theorem fge_al2 {x x' y y' : Nat} (h : cn x = cn x') (h' : cn y = cn y') : fge x y = fge x' y' := by rw [← fge_cn, h, h', fge_cn]
theorem fle_al2 {x x' y y' : Nat} (h : cn x = cn x') (h' : cn y = cn y') : fle x y = fle x' y' := by rw [← fle_cn, h, h', fle_cn]
theorem feq_al2 {x x' y y' : Nat} (h : cn x = cn x') (h' : cn y = cn y') : feq x y = feq x' y' := by rw [← feq_cn, h, h', feq_cn]
theorem fop_res_l (op op' : BinOp) (x y z : Nat) (w : World) : fop op (fres op' x y w) z = fop op (fop op' x y) z := fop_eq (by rw [cn_res, cn_fop]) rfl
theorem fop_res_r (op op' : BinOp) (x y z : Nat) (w : World) : fop op z (fres op' x y w) = fop op z (fop op' x y) := fop_eq rfl (by rw [cn_res, cn_fop])
theorem plain_al {x x' : Nat} (h : cn x = cn x') : plain x = plain x' := by unfold plain; rw [fge_al h, fle_al h]
theorem amount_al {x x' : Nat} (h : cn x = cn x') : amount x = amount x' := by unfold amount; rw [plain_al h, fge_al h]
theorem al_eq {x x' : Nat} (h : cn x = cn x') (hn : isN .f32 x' = false) : x = x' := by
  have h2 : isN .f32 x = false := by rw [← isN_cn, h, isN_cn, hn]
  rw [cn_num h2, cn_num hn] at h; exact h

/-! ### What flows. -/
/-- The joint of two conductances. -/
def joint (a b : Nat) : Nat := if fgt a 0 && fgt b 0 then fop .quo (fop .mul 1073741824 (fop .mul a b)) (fop .add a b) else 0
theorem joint_al {a a' b b' : Nat} (h : cn a = cn a') (h' : cn b = cn b') : joint a b = joint a' b' := by
  unfold joint; rw [fgt_al h, fgt_al h', fop_eq h h' (op := .mul), fop_eq h h' (op := .add)]
theorem cn_joint (a b : Nat) : cn (joint a b) = joint a b := by
  unfold joint; split
  · exact cn_fop _ _ _
  · decide
/-- The cell on a side of a cell, or -1. -/
def besX (c s : Nat) : Int := (c : Int) % 8 + (if s = 1 then 1 else if s = 3 then -1 else 0)
def besY (c s : Nat) : Int := (c : Int) / 8 + (if s = 0 then -1 else if s = 2 then 1 else 0)
def besIn (g : Gr) (c s : Nat) : Bool := (decide (0 ≤ besX c s) && decide (besX c s < g.wide)) && (decide (0 ≤ besY c s) && decide (besY c s < g.high))
def bes (g : Gr) (c s : Nat) : Int := if besIn g c s then besX c s + 8 * besY c s else -1
/-- Not greater than there is room. -/
def Gr.small (g : Gr) : Prop := g.wide ≤ 8 ∧ g.high ≤ 8
theorem bes_lt {g : Gr} (hs : g.small) (c s : Nat) : -1 ≤ bes g c s ∧ bes g c s < 64 := by
  obtain ⟨h1, h2⟩ := hs
  unfold bes besIn
  split
  · rename_i h; simp at h; omega
  · omega
/-- Is there a neighbour? -/
def nbr (g : Gr) (c s : Nat) : Bool := decide (0 ≤ bes g c s)
def nx (g : Gr) (c s : Nat) : Nat := (bes g c s).toNat
theorem nx_lt {g : Gr} (hs : g.small) (c s : Nat) : nx g c s < 64 := by have := bes_lt hs c s; unfold nx; omega
/-- What flows to the neighbour. -/
def flw (g : Gr) (c s : Nat) : Nat := fop .mul (joint (g.con c) (g.con (nx g c s))) (fop .sub (g.hea c) (g.hea (nx g c s)))
/-- The balance behind the first k sides. -/
def balTo (g : Gr) (c : Nat) : Nat → Nat
  | 0 => cn (g.gai c)
  | k + 1 => if nbr g c k then fop .sub (balTo g c k) (flw g c k) else balTo g c k
def bal (g : Gr) (c : Nat) : Nat := balTo g c 4
theorem cn_balTo (g : Gr) (c k : Nat) : cn (balTo g c k) = balTo g c k := by
  induction k with
  | zero => exact cn_cn _
  | succ k ih => unfold balTo; split
                 · exact cn_fop _ _ _
                 · exact ih
/-- Is a number finite? -/
def fin (b : Nat) : Bool := feq (fop .sub b b) 0
theorem fin_al {b b' : Nat} (h : cn b = cn b') : fin b = fin b' := by unfold fin; rw [fop_eq h h]
def notFin (g : Gr) (k : Nat) : Bool := isC g k && !fin (bal g k)
def balsOk (g : Gr) : Bool := !anyTo (notFin g) (fun i => i) 64
/-- Is cell k fixed? -/
@[irreducible] def isFx (g : Gr) (k : Nat) : Bool := decide (g.fix / 2 ^ k % 2 = 1)

/-! ### Grounds that are alike. -/
theorem isC_eq {g g' : Gr} (h1 : g.wide = g'.wide) (h2 : g.high = g'.high) (k : Nat) : isC g k = isC g' k := by unfold isC; rw [h1, h2]
theorem cellsTo_eq {g g' : Gr} (h1 : g.wide = g'.wide) (h2 : g.high = g'.high) (k : Nat) : cellsTo g k = cellsTo g' k := by
  unfold cellsTo; congr 1; funext i; exact isC_eq h1 h2 i
theorem anyTo_congr {α : Type} {q q' : α → Bool} {P P' : Nat → α} : ∀ {n : Nat}, (∀ i, i < n → q (P i) = q' (P' i)) → anyTo q P n = anyTo q' P' n
  | 0, _ => rfl
  | n + 1, h => by simp only [anyTo]; rw [anyTo_congr (fun i hi => h i (by omega)), h n (by omega)]
theorem fieldIs_al {q : Nat → Bool} (hq : ∀ a b, cn a = cn b → q a = q b) {g g' : Gr} (h1 : g.wide = g'.wide) (h2 : g.high = g'.high) {f f' : Nat → Nat} (hf : ∀ k, k < 64 → cn (f k) = cn (f' k)) : fieldIs q g f = fieldIs q g' f' := by
  unfold fieldIs
  rw [anyTo_congr (q' := badAt q g' f') (P' := fun i => i) fun i hi => by unfold badAt; rw [isC_eq h1 h2, hq _ _ (hf i hi), feq_al (hf i hi)]]
theorem validG_al {g g' : Gr} (h : GrEq g g') : validG g = validG g' := by
  unfold validG fixOk
  rw [h.wide, h.high, h.fix, cellsTo_eq h.wide h.high, fieldIs_al (fun _ _ => amount_al) h.wide h.high h.con, fieldIs_al (fun _ _ => plain_al) h.wide h.high h.gai, fieldIs_al (fun _ _ => plain_al) h.wide h.high h.hea]
theorem fieldIs_at {q : Nat → Bool} {g : Gr} {f : Nat → Nat} (h : fieldIs q g f = true) (k : Nat) (hk : k < 64) : (isC g k = true → q (f k) = true) ∧ (isC g k = false → feq (f k) 0 = true) := by
  unfold fieldIs at h
  have h1 := anyTo_false.1 (by simpa using h) k hk
  unfold badAt at h1
  cases hc : isC g k <;> simp [hc] at h1 ⊢ <;> exact h1
theorem feq_num {a : Nat} (h : feq a 0 = true) : isN .f32 a = false := by
  cases hn : isN .f32 a
  · rfl
  · unfold feq at h; rw [order_nan_left hn] at h; simp at h
theorem amount_num {a : Nat} (h : amount a = true) : isN .f32 a = false := plain_num (by unfold amount at h; exact (Bool.and_eq_true_iff.1 h).1)
theorem fieldIs_num {q : Nat → Bool} (hq : ∀ a, q a = true → isN .f32 a = false) {g : Gr} {f : Nat → Nat} (h : fieldIs q g f = true) (k : Nat) (hk : k < 64) : isN .f32 (f k) = false := by
  have h1 := fieldIs_at h k hk
  cases hc : isC g k
  · exact feq_num (h1.2 hc)
  · exact hq _ (h1.1 hc)
theorem validG_parts {g : Gr} (h : validG g = true) : (2 ≤ g.wide ∧ g.wide ≤ 8) ∧ (2 ≤ g.high ∧ g.high ≤ 8) ∧ fieldIs amount g g.con = true ∧ fieldIs plain g g.gai = true ∧ fieldIs plain g g.hea = true ∧ fixOk g = true := by
  unfold validG at h
  simp only [Bool.and_eq_true, decide_eq_true_eq] at h
  exact h
theorem validG_small {g : Gr} (h : validG g = true) : g.small := by have := validG_parts h; exact ⟨this.1.2, this.2.1.2⟩
/-- Cells depend on the numbers that there are. -/
theorem Gr.cells_eq {g g' : Gr} (h0 : g.wide = g'.wide) (h1 : g.high = g'.high) (hf : g.fix = g'.fix) (hc : ∀ k, k < 64 → g.con k = g'.con k) (hg : ∀ k, k < 64 → g.gai k = g'.gai k) (hh : ∀ k, k < 64 → g.hea k = g'.hea k) : g.cells = g'.cells := by
  apply Gr.cells_of
  · exact g.size
  · intro i hi
    rw [g.get i hi]
    unfold Gr.at
    congr 1
    by_cases i0 : i = 0
    · simp [i0, h0]
    · by_cases i1 : i = 1
      · simp [i1, h1]
      · simp only [i0, i1, if_false]
        by_cases i2 : i < 66
        · simp only [i2, if_true]; rw [hc _ (by omega)]
        · by_cases i3 : i < 130
          · simp only [i2, i3, if_true, if_false]; rw [hg _ (by omega)]
          · by_cases i4 : i < 194
            · simp only [i2, i3, i4, if_true, if_false]; rw [hh _ (by omega)]
            · simp only [i2, i3, i4, if_false]; rw [hf]
/-- A ground that is alike to a valid one is that one. -/
theorem GrEq.cells {g g' : Gr} (h : GrEq g g') (hv : validG g' = true) : g.cells = g'.cells := by
  obtain ⟨_, _, hc, hg, hh, _⟩ := validG_parts hv
  exact Gr.cells_eq h.wide h.high h.fix (fun k hk => al_eq (h.con k hk) (fieldIs_num (fun _ => amount_num) hc k hk)) (fun k hk => al_eq (h.gai k hk) (fieldIs_num (fun _ => plain_num) hg k hk)) (fun k hk => al_eq (h.hea k hk) (fieldIs_num (fun _ => plain_num) hh k hk))
theorem GrEq.symm {g g' : Gr} (h : GrEq g g') : GrEq g' g := ⟨h.wide.symm, h.high.symm, h.fix.symm, fun k hk => (h.con k hk).symm, fun k hk => (h.gai k hk).symm, fun k hk => (h.hea k hk).symm⟩
theorem GrEq.trans {g g' g'' : Gr} (h : GrEq g g') (h' : GrEq g' g'') : GrEq g g'' := ⟨h.wide.trans h'.wide, h.high.trans h'.high, h.fix.trans h'.fix, fun k hk => (h.con k hk).trans (h'.con k hk), fun k hk => (h.gai k hk).trans (h'.gai k hk), fun k hk => (h.hea k hk).trans (h'.hea k hk)⟩
theorem bes_eq {g g' : Gr} (h1 : g.wide = g'.wide) (h2 : g.high = g'.high) (c s : Nat) : bes g c s = bes g' c s := by unfold bes besIn; rw [h1, h2]
theorem flw_al {g g' : Gr} (hs : g.small) (h : GrEq g g') (c s : Nat) (hc : c < 64) : flw g c s = flw g' c s := by
  have hn := nx_lt hs c s
  have e : nx g' c s = nx g c s := by unfold nx; rw [bes_eq h.wide h.high]
  unfold flw
  rw [e, joint_al (h.con c hc) (h.con _ hn), fop_eq (h.hea c hc) (h.hea _ hn)]
theorem balTo_al {g g' : Gr} (hs : g.small) (h : GrEq g g') (c : Nat) (hc : c < 64) : ∀ k, balTo g c k = balTo g' c k
  | 0 => h.gai c hc
  | k + 1 => by unfold balTo; rw [balTo_al hs h c hc k, flw_al hs h c k hc]; unfold nbr; rw [bes_eq h.wide h.high]

/-! ### Steps. -/
def zeroG : Gr := ⟨0, 0, fun _ => 0, fun _ => 0, fun _ => 0, 0⟩
/-- The head of a cell behind a step. -/
def stepH (g : Gr) (part : Nat) (k : Nat) : Nat := if isC g k && !isFx g k then fop .add (g.hea k) (fop .mul part (bal g k)) else g.hea k
def stepG (g : Gr) (part : Nat) : Gr := { g with hea := stepH g part }
/-- Is there a step? -/
def stepIs (g : Gr) (part : Nat) : Bool := balsOk g && validG (stepG g part)
def stepR (g : Gr) (part : Nat) : Gr := if stepIs g part then stepG g part else zeroG
def stepC (g : Gr) (part : Nat) : Int := if stepIs g part then 0 else 4

/-! ### Settled heads. -/
def aboveTo (g : Gr) (c : Nat) : Nat → Nat
  | 0 => cn (g.gai c)
  | k + 1 => if nbr g c k then fop .add (aboveTo g c k) (fop .mul (joint (g.con c) (g.con (nx g c k))) (g.hea (nx g c k))) else aboveTo g c k
def belowTo (g : Gr) (c : Nat) : Nat → Nat
  | 0 => 0
  | k + 1 => if nbr g c k then fop .add (belowTo g c k) (joint (g.con c) (g.con (nx g c k))) else belowTo g c k
def sett (g : Gr) (c : Nat) : Nat := if isFx g c || feq (belowTo g c 4) 0 then cn (g.hea c) else fop .quo (aboveTo g c 4) (belowTo g c 4)
theorem aboveTo_al {g g' : Gr} (hs : g.small) (h : GrEq g g') (c : Nat) (hc : c < 64) : ∀ k, aboveTo g c k = aboveTo g' c k
  | 0 => h.gai c hc
  | k + 1 => by
    have hn := nx_lt hs c k
    have e : nx g' c k = nx g c k := by unfold nx; rw [bes_eq h.wide h.high]
    unfold aboveTo
    rw [aboveTo_al hs h c hc k, e, joint_al (h.con c hc) (h.con _ hn), fop_eq (op := .mul) rfl (h.hea _ hn)]
    unfold nbr; rw [bes_eq h.wide h.high]
theorem belowTo_al {g g' : Gr} (hs : g.small) (h : GrEq g g') (c : Nat) (hc : c < 64) : ∀ k, belowTo g c k = belowTo g' c k
  | 0 => rfl
  | k + 1 => by
    have hn := nx_lt hs c k
    have e : nx g' c k = nx g c k := by unfold nx; rw [bes_eq h.wide h.high]
    unfold belowTo
    rw [belowTo_al hs h c hc k, e, joint_al (h.con c hc) (h.con _ hn)]
    unfold nbr; rw [bes_eq h.wide h.high]
theorem sett_al {g g' : Gr} (hs : g.small) (h : GrEq g g') (c : Nat) (hc : c < 64) : sett g c = sett g' c := by
  unfold sett
  rw [aboveTo_al hs h c hc, belowTo_al hs h c hc, h.hea c hc]
  have : isFx g c = isFx g' c := by unfold isFx; rw [h.fix]
  rw [this]
theorem cn_sett (g : Gr) (c : Nat) : cn (sett g c) = sett g c := by
  unfold sett; split
  · exact cn_cn _
  · exact cn_fop _ _ _
/-- The ground behind the first k cells of a sweep. -/
def sweepTo (g : Gr) : Nat → Gr
  | 0 => g
  | k + 1 => if isC g k then { sweepTo g k with hea := upd (sweepTo g k).hea k (sett (sweepTo g k) k) } else sweepTo g k
theorem sweepTo_same (g : Gr) : ∀ k, (sweepTo g k).wide = g.wide ∧ (sweepTo g k).high = g.high ∧ (sweepTo g k).fix = g.fix ∧ (sweepTo g k).con = g.con ∧ (sweepTo g k).gai = g.gai
  | 0 => ⟨rfl, rfl, rfl, rfl, rfl⟩
  | k + 1 => by unfold sweepTo; split <;> exact sweepTo_same g k
theorem GrEq.upd {g g' : Gr} (h : GrEq g g') {k b b' : Nat} (hb : cn b = cn b') : GrEq { g with hea := upd g.hea k b } { g' with hea := upd g'.hea k b' } :=
  ⟨h.wide, h.high, h.fix, h.con, h.gai, fun i hi => by
    unfold Go.Proofs.YtdnnjahdcabdmaaGreatDoor.upd
    by_cases hik : i = k
    · simp only [hik, if_true]; exact hb
    · simp only [hik, if_false]; exact h.hea i hi⟩
end Go.Proofs.YtdnnjahdcabdmaaGreatDoor
