/- Numbers of single precision as the walks meet them: what an operation gives where its result is a NaN, of which the language leaves the bits open. Two numbers are alike where their bits are one, or both are NaN. Plain laws; no statement is proved here. -/
import Derived.Test.YtcojgmgoiopboaaGreatDoorSame
import Derived.Test.YtcojgmgoiopboaaGreatDoorRung
namespace Go.Proofs.YtcojgmgoiopboaaGreatDoor
open Go.ChangeShapes Go.WideShapes Go.ChangeAt Go.RowKit
set_option linter.unusedVariables false

/-- The NaN that stands for all. -/
def qn : FloatKind → Nat | .f32 => 2143289344 | .f64 => 9221120237041090560
def isN (k : FloatKind) (b : Nat) : Bool := (k.format.read b).isNaN
/-- A number's bits, one pattern for each NaN. -/
def cnk (k : FloatKind) (b : Nat) : Nat := if isN k b then qn k else b
def cn (b : Nat) : Nat := cnk .f32 b

theorem isN_qn (k : FloatKind) : isN k (qn k) = true := by cases k <;> decide
theorem isN_read {k : FloatKind} {b : Nat} (h : isN k b = true) : ∃ s f, k.format.read b = .nan s f := by
  unfold isN at h
  cases hr : k.format.read b <;> rw [hr] at h <;> simp [Ieee.Datum.isNaN] at h
  exact ⟨_, _, rfl⟩
theorem cnk_of_nan {k : FloatKind} {b : Nat} (h : isN k b = true) : cnk k b = qn k := by simp [cnk, h]
theorem cnk_of_not {k : FloatKind} {b : Nat} (h : isN k b = false) : cnk k b = b := by simp [cnk, h]
theorem isN_cnk (k : FloatKind) (b : Nat) : isN k (cnk k b) = isN k b := by
  cases h : isN k b
  · rw [cnk_of_not h, h]
  · rw [cnk_of_nan h, isN_qn]
theorem cnk_cnk (k : FloatKind) (b : Nat) : cnk k (cnk k b) = cnk k b := by
  cases h : isN k b
  · rw [cnk_of_not h, cnk_of_not h]
  · rw [cnk_of_nan h, cnk_of_nan (isN_qn k)]
theorem cnk_eq {k : FloatKind} {a b : Nat} (h : cnk k a = cnk k b) : (isN k a = true ∧ isN k b = true) ∨ (isN k a = false ∧ a = b) := by
  have h2 : isN k a = isN k b := by rw [← isN_cnk k a, h, isN_cnk]
  cases ha : isN k a
  · right; rw [cnk_of_not ha, cnk_of_not (h2 ▸ ha)] at h; exact ⟨rfl, h⟩
  · left; exact ⟨rfl, h2 ▸ ha⟩

theorem bits_nan_left {op : BinOp} {k : FloatKind} {x y : Nat} (h : isN k x = true) : floatBits op k x y = none := by
  obtain ⟨s, f, hr⟩ := isN_read h
  cases op <;> simp [floatBits, Ieee.Format.add, Ieee.Format.sub, Ieee.Format.mul, Ieee.Format.div, hr, Ieee.Datum.sum, Ieee.Datum.product, Ieee.Datum.quotient]
theorem bits_nan_right {op : BinOp} {k : FloatKind} {x y : Nat} (h : isN k y = true) : floatBits op k x y = none := by
  obtain ⟨s, f, hr⟩ := isN_read h
  cases op <;> simp only [floatBits, Ieee.Format.add, Ieee.Format.sub, Ieee.Format.mul, Ieee.Format.div, hr]
  all_goals cases k.format.read x <;> simp [Ieee.Datum.sum, Ieee.Datum.product, Ieee.Datum.quotient, Ieee.Datum.opposite]
theorem bits_cn (op : BinOp) (k : FloatKind) (x y : Nat) : floatBits op k (cnk k x) (cnk k y) = floatBits op k x y := by
  cases hx : isN k x
  · rw [cnk_of_not hx]
    cases hy : isN k y
    · rw [cnk_of_not hy]
    · rw [cnk_of_nan hy, bits_nan_right (isN_qn k), bits_nan_right hy]
  · rw [cnk_of_nan hx, bits_nan_left (isN_qn k), bits_nan_left hx]
theorem order_nan_left {k : FloatKind} {x y : Nat} (h : isN k x = true) : k.format.order x y = none := by
  obtain ⟨s, f, hr⟩ := isN_read h
  simp [Ieee.Format.order, hr, Ieee.Datum.order]
theorem order_nan_right {k : FloatKind} {x y : Nat} (h : isN k y = true) : k.format.order x y = none := by
  obtain ⟨s, f, hr⟩ := isN_read h
  unfold Ieee.Format.order
  rw [hr]
  cases k.format.read x <;> simp [Ieee.Datum.order]
theorem order_cn (k : FloatKind) (x y : Nat) : k.format.order (cnk k x) (cnk k y) = k.format.order x y := by
  cases hx : isN k x
  · rw [cnk_of_not hx]
    cases hy : isN k y
    · rw [cnk_of_not hy]
    · rw [cnk_of_nan hy, order_nan_right (isN_qn k), order_nan_right hy]
  · rw [cnk_of_nan hx, order_nan_left (isN_qn k), order_nan_left hx]
theorem order_self {k : FloatKind} {x : Nat} (h : isN k x = false) : k.format.order x x = some .eq := by
  unfold Ieee.Format.order
  unfold isN at h
  cases hr : k.format.read x <;> rw [hr] at h
  · simp [Ieee.Datum.order]
  · simp [Ieee.Datum.order]
  · simp [Ieee.Datum.isNaN] at h

/-! ### The operations. -/
/-- What an operation gives: the bits, or the NaN that stands for all. -/
def fop (op : BinOp) (x y : Nat) : Nat := cn ((floatBits op .f32 x y).getD (qn .f32))
def nanOf (k : FloatKind) (q : Question) (w : World) : Nat := q.cut (w.tape w.drawn q)
/-- The very bits that the operation gives in the world w. -/
@[irreducible] def fres (op : BinOp) (x y : Nat) (w : World) : Nat := (floatBits op .f32 x y).getD (nanOf .f32 (.nanBits .f32 x y) w)
@[irreducible] def fcnt (op : BinOp) (x y : Nat) : Nat := if (floatBits op .f32 x y).isSome then 0 else 1

theorem nan32 (t : Nat) : isN .f32 ((t % 2) * 2 ^ 31 + 0x7f800000 + 1 + (t / 2) % (2 ^ 23 - 1)) = true := by
  unfold isN
  show (Ieee.single.read _).isNaN = true
  have h1 : (t / 2) % (2 ^ 23 - 1) < 2 ^ 23 - 1 := Nat.mod_lt _ (by decide)
  have e : ((t % 2) * 2 ^ 31 + 0x7f800000 + 1 + (t / 2) % (2 ^ 23 - 1)) % Ieee.single.signWeight = 0x7f800000 + 1 + (t / 2) % (2 ^ 23 - 1) := by
    show _ % 2147483648 = _
    omega
  have hi : Ieee.single.infRung = 0x7f800000 := by decide
  have hb : Ieee.single.binade = 8388608 := by decide
  unfold Ieee.Format.read
  simp only [e, hi, hb]
  rw [if_neg (by omega), if_neg (by omega), if_neg (by omega)]
  rfl
theorem nan64 (t : Nat) : isN .f64 ((t % 2) * 2 ^ 63 + 0x7ff0000000000000 + 1 + (t / 2) % (2 ^ 52 - 1)) = true := by
  unfold isN
  show (Ieee.double.read _).isNaN = true
  have h1 : (t / 2) % (2 ^ 52 - 1) < 2 ^ 52 - 1 := Nat.mod_lt _ (by decide)
  have e : ((t % 2) * 2 ^ 63 + 0x7ff0000000000000 + 1 + (t / 2) % (2 ^ 52 - 1)) % Ieee.double.signWeight = 0x7ff0000000000000 + 1 + (t / 2) % (2 ^ 52 - 1) := by
    show _ % 9223372036854775808 = _
    omega
  have hi : Ieee.double.infRung = 0x7ff0000000000000 := by decide
  have hb : Ieee.double.binade = 4503599627370496 := by decide
  unfold Ieee.Format.read
  simp only [e, hi, hb]
  rw [if_neg (by omega), if_neg (by omega), if_neg (by omega)]
  rfl

theorem cn_fres (op : BinOp) (x y : Nat) (w : World) : cn (fres op x y w) = fop op (cn x) (cn y) := by
  unfold fres fop
  show _ = cn ((floatBits op .f32 (cnk .f32 x) (cnk .f32 y)).getD _)
  rw [bits_cn]
  cases h : floatBits op .f32 x y with
  | some r => rfl
  | none =>
    simp only [Option.getD_none]
    have : isN .f32 (nanOf .f32 (.nanBits .f32 x y) w) = true := by simp only [nanOf, Question.cut]; exact nan32 _
    unfold cn
    rw [cnk_of_nan this, cnk_of_nan (isN_qn _)]

section
variable {P : Program} (w : World) (t : TypeId) (x y : Nat)
theorem run_arith (op : BinOp) (hop : op = .add ∨ op = .sub ∨ op = .mul ∨ op = .quo) : (binOp op t (.float .f32 x) (.float .f32 y)).run P w = .ok (.float .f32 (fres op x y w)) (w.drewN (fcnt op x y)) := by
  cases h : floatBits op .f32 x y with
  | some r => simpa [fres, fcnt, h, World.drewN_zero] using run_float_arith (P := P) w op t .f32 x y r h
  | none =>
    have hb : (Op.floatArith op .f32 x y).run P w = .ok (.float .f32 (nanOf .f32 (.nanBits .f32 x y) w)) (w.drewN 1) := by
      unfold floatBits at h
      rcases hop with rfl | rfl | rfl | rfl <;> simp only at h <;> simp [Op.floatArith, h, Question.forced, nanOf] <;> rfl
    rcases hop with rfl | rfl | rfl | rfl <;> simp [binOp, hb, fres, fcnt, h]
@[go_sem] theorem run_fadd : (binOp .add t (.float .f32 x) (.float .f32 y)).run P w = .ok (.float .f32 (fres .add x y w)) (w.drewN (fcnt .add x y)) := run_arith w t x y _ (.inl rfl)
@[go_sem] theorem run_fsub : (binOp .sub t (.float .f32 x) (.float .f32 y)).run P w = .ok (.float .f32 (fres .sub x y w)) (w.drewN (fcnt .sub x y)) := run_arith w t x y _ (.inr (.inl rfl))
@[go_sem] theorem run_fmul : (binOp .mul t (.float .f32 x) (.float .f32 y)).run P w = .ok (.float .f32 (fres .mul x y w)) (w.drewN (fcnt .mul x y)) := run_arith w t x y _ (.inr (.inr (.inl rfl)))
@[go_sem] theorem run_fquo : (binOp .quo t (.float .f32 x) (.float .f32 y)).run P w = .ok (.float .f32 (fres .quo x y w)) (w.drewN (fcnt .quo x y)) := run_arith w t x y _ (.inr (.inr (.inr rfl)))
end

/-! ### float64(x) of a narrow number. -/
/-- A narrow number made wide. -/
def widen (b : Nat) : Nat := if isN .f32 b then qn .f64 else FloatKind.f64.encode (FloatKind.f32.decode b)
@[irreducible] def fwid (b : Nat) (w : World) : Nat := if isN .f32 b then nanOf .f64 (.nanConv .f64 b) w else widen b
@[irreducible] def wcnt (b : Nat) : Nat := if isN .f32 b then 1 else 0
theorem widen_bits {b : Nat} (h : isN .f32 b = false) : floatToFloatBits .f32 b .f64 = some (widen b) := by
  unfold floatToFloatBits widen
  rw [h]
  simp only [reduceCtorEq, if_false, Bool.false_eq_true]
  unfold isN at h
  have hd : FloatKind.f32.decode b = FloatKind.f32.format.read b := rfl
  cases hr : FloatKind.f32.format.read b with
  | nan s f => rw [hr] at h; cases h
  | infinity s => simp only [hd, hr]
  | number s m e =>
    simp only [hd, hr]
    have := wide_finite b s m e hr
    rw [if_neg (by
      show ¬ (FloatKind.f64.format.read (FloatKind.f64.format.write (.number s m e))).isInfinity = true
      show ¬ (Ieee.double.read (Ieee.double.nearest s m e)).isInfinity = true
      rw [this]; decide)]
theorem cn_fwid (b : Nat) (w : World) : cnk .f64 (fwid b w) = cnk .f64 (widen b) := by
  unfold fwid
  cases h : isN .f32 b
  · simp
  · have : isN .f64 (nanOf .f64 (.nanConv .f64 b) w) = true := by simp only [nanOf, Question.cut]; exact nan64 _
    simp [widen, h, cnk_of_nan this, cnk_of_nan (isN_qn _)]
theorem widen_cn (b : Nat) : widen (cn b) = widen b := by
  unfold cn
  cases h : isN .f32 b
  · rw [cnk_of_not h]
  · rw [cnk_of_nan h]; simp [widen, h, isN_qn]
section
variable {P : Program} (w : World)
theorem run_widen_conv (b : Nat) : (Conv.floatToFloat .f32 b .f64).run P w = .ok (.float .f64 (fwid b w)) (w.drewN (wcnt b)) := by
  cases h : isN .f32 b
  · rw [run_floatToFloat w (widen_bits h)]
    simp [fwid, wcnt, h, World.drewN_zero]
  · obtain ⟨s, f, hr⟩ := isN_read h
    have hr' : FloatKind.f32.decode b = .nan s f := hr
    simp only [Conv.floatToFloat, reduceCtorEq, if_false, hr']
    simp [fwid, wcnt, h, Question.forced, nanOf]
    rfl
theorem run_convert_widen (src dst : TypeId) (b : Nat) (hs : P.underlying src = some (.float .f32)) (hd : P.underlying dst = some (.float .f64)) : (convert src dst (.float .f32 b)).run P w = .ok (.float .f64 (fwid b w)) (w.drewN (wcnt b)) := by
  simp [convert, run_underlying hs, run_underlying hd, run_widen_conv]
theorem run_convert_wide_complex (src dst : TypeId) (a b : Nat) (hs : P.underlying src = some (.complex .f32)) (hd : P.underlying dst = some (.complex .f64)) :
    (convert src dst (.complex .f32 a b)).run P w = .ok (.complex .f64 (fwid a w) (fwid b (w.drewN (wcnt a)))) (w.drewN (wcnt a + wcnt b)) := by
  simp [convert, run_underlying hs, run_underlying hd, Conv.complexToComplex, run_widen_conv]
end

set_option maxRecDepth 100000 in
set_option maxHeartbeats 400000 in
/-- Two numbers that are alike are held to be the same. -/
theorem sameFloat_alike (a b : Nat) (h : cnk .f64 a = cnk .f64 b) (w : World) :
    Calls Tryz.prog 50 #[.float .f64 a, .float .f64 b] w fun e w' => e = .returned (.bool true) ∧ w' = w := by
  rcases cnk_eq h with ⟨ha, hb⟩ | ⟨ha, rfl⟩
  · have na : (FloatKind.f64.format.order a a != some .eq) = true := by rw [order_nan_left ha]; rfl
    have nb : (FloatKind.f64.format.order b b != some .eq) = true := by rw [order_nan_left hb]; rfl
    clear h
    go_enter Tryz.func50, Tryz.ntmps50
    go_wp2
    go_ret
    exact ⟨rfl, rfl⟩
  · exact sameFloat_refl a (order_self ha) w
end Go.Proofs.YtcojgmgoiopboaaGreatDoor
