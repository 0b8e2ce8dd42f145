import Derived.Test.YtmmfnklnmdhkiaaGreatMU02
import Derived.Test.YtmmfnklnmdhkiaaGreatMU01
/- Numbers of single precision as the walks meet them: what an operation gives where its result is a NaN, of which the language leaves the bits open. Two numbers are alike where their bits are one, or both are NaN. Plain laws; no statement is proved here. -/
namespace Go.Proofs.YtmmfnklnmdhkiaaGreat
open Go.ChangeShapes Go.WideShapes Go.ChangeAt Go.RowKit
set_option linter.unusedVariables false

/-- The NaN that stands for all. -/
def qn : FloatKind → Nat | .f32 => 2143289344 | .f64 => 9221120237041090560
def isN (k : FloatKind) (b : Nat) : Bool := (k.format.read b).isNaN
/-- A number's bits, one pattern for each NaN. -/
def cnk (k : FloatKind) (b : Nat) : Nat := if isN k b then qn k else b
def cn (b : Nat) : Nat := cnk .f32 b

theorem isN_qn (k : FloatKind) : isN k (qn k) = true := by cases k <;> decide
theorem isN_read {k : FloatKind} {b : Nat} (h : isN k b = true) : ∃ s f, k.format.read b = .nan s f := by
  unfold isN at h
  cases hr : k.format.read b <;> rw [hr] at h <;> simp [Ieee.Datum.isNaN] at h
  exact ⟨_, _, rfl⟩
theorem cnk_of_nan {k : FloatKind} {b : Nat} (h : isN k b = true) : cnk k b = qn k := by simp [cnk, h]
theorem cnk_of_not {k : FloatKind} {b : Nat} (h : isN k b = false) : cnk k b = b := by simp [cnk, h]
theorem isN_cnk (k : FloatKind) (b : Nat) : isN k (cnk k b) = isN k b := by
  cases h : isN k b
  · rw [cnk_of_not h, h]
  · rw [cnk_of_nan h, isN_qn]
theorem cnk_cnk (k : FloatKind) (b : Nat) : cnk k (cnk k b) = cnk k b := by
  cases h : isN k b
  · rw [cnk_of_not h, cnk_of_not h]
  · rw [cnk_of_nan h, cnk_of_nan (isN_qn k)]
theorem cnk_eq {k : FloatKind} {a b : Nat} (h : cnk k a = cnk k b) : (isN k a = true ∧ isN k b = true) ∨ (isN k a = false ∧ a = b) := by
  have h2 : isN k a = isN k b := by rw [← isN_cnk k a, h, isN_cnk]
  cases ha : isN k a
  · right; rw [cnk_of_not ha, cnk_of_not (h2 ▸ ha)] at h; exact ⟨rfl, h⟩
  · left; exact ⟨rfl, h2 ▸ ha⟩

theorem bits_nan_left {op : BinOp} {k : FloatKind} {x y : Nat} (h : isN k x = true) : floatBits op k x y = none := by
  obtain ⟨s, f, hr⟩ := isN_read h
  cases op <;> simp [floatBits, Ieee.Format.add, Ieee.Format.sub, Ieee.Format.mul, Ieee.Format.div, hr, Ieee.Datum.sum, Ieee.Datum.product, Ieee.Datum.quotient]
theorem bits_nan_right {op : BinOp} {k : FloatKind} {x y : Nat} (h : isN k y = true) : floatBits op k x y = none := by
  obtain ⟨s, f, hr⟩ := isN_read h
  cases op <;> simp only [floatBits, Ieee.Format.add, Ieee.Format.sub, Ieee.Format.mul, Ieee.Format.div, hr]
  all_goals cases k.format.read x <;> simp [Ieee.Datum.sum, Ieee.Datum.product, Ieee.Datum.quotient, Ieee.Datum.opposite]
theorem bits_cn (op : BinOp) (k : FloatKind) (x y : Nat) : floatBits op k (cnk k x) (cnk k y) = floatBits op k x y := by
  cases hx : isN k x
  · rw [cnk_of_not hx]
    cases hy : isN k y
    · rw [cnk_of_not hy]
    · rw [cnk_of_nan hy, bits_nan_right (isN_qn k), bits_nan_right hy]
  · rw [cnk_of_nan hx, bits_nan_left (isN_qn k), bits_nan_left hx]
theorem order_nan_left {k : FloatKind} {x y : Nat} (h : isN k x = true) : k.format.order x y = none := by
  obtain ⟨s, f, hr⟩ := isN_read h
  simp [Ieee.Format.order, hr, Ieee.Datum.order]
theorem order_nan_right {k : FloatKind} {x y : Nat} (h : isN k y = true) : k.format.order x y = none := by
  obtain ⟨s, f, hr⟩ := isN_read h
  unfold Ieee.Format.order
  rw [hr]
  cases k.format.read x <;> simp [Ieee.Datum.order]
theorem order_cn (k : FloatKind) (x y : Nat) : k.format.order (cnk k x) (cnk k y) = k.format.order x y := by
  cases hx : isN k x
  · rw [cnk_of_not hx]
    cases hy : isN k y
    · rw [cnk_of_not hy]
    · rw [cnk_of_nan hy, order_nan_right (isN_qn k), order_nan_right hy]
  · rw [cnk_of_nan hx, order_nan_left (isN_qn k), order_nan_left hx]
theorem order_self {k : FloatKind} {x : Nat} (h : isN k x = false) : k.format.order x x = some .eq := by
  unfold Ieee.Format.order
  unfold isN at h
  cases hr : k.format.read x <;> rw [hr] at h
  · simp [Ieee.Datum.order]
  · simp [Ieee.Datum.order]
  · simp [Ieee.Datum.isNaN] at h

/-! ### The operations. -/
/-- What an operation gives: the bits, or the NaN that stands for all. -/
def fop (op : BinOp) (x y : Nat) : Nat := cn ((floatBits op .f32 x y).getD (qn .f32))
def nanOf (k : FloatKind) (q : Question) (w : World) : Nat := q.cut (w.tape w.drawn q)
/-- The very bits that the operation gives in the world w. -/
@[irreducible] def fres (op : BinOp) (x y : Nat) (w : World) : Nat := (floatBits op .f32 x y).getD (nanOf .f32 (.nanBits .f32 x y) w)
@[irreducible] def fcnt (op : BinOp) (x y : Nat) : Nat := if (floatBits op .f32 x y).isSome then 0 else 1

theorem nan32 (t : Nat) : isN .f32 ((t % 2) * 2 ^ 31 + 0x7f800000 + 1 + (t / 2) % (2 ^ 23 - 1)) = true := by
  unfold isN
  show (Ieee.single.read _).isNaN = true
  have h1 : (t / 2) % (2 ^ 23 - 1) < 2 ^ 23 - 1 := Nat.mod_lt _ (by decide)
  have e : ((t % 2) * 2 ^ 31 + 0x7f800000 + 1 + (t / 2) % (2 ^ 23 - 1)) % Ieee.single.signWeight = 0x7f800000 + 1 + (t / 2) % (2 ^ 23 - 1) := by
    show _ % 2147483648 = _
    omega
  have hi : Ieee.single.infRung = 0x7f800000 := by decide
  have hb : Ieee.single.binade = 8388608 := by decide
  unfold Ieee.Format.read
  simp only [e, hi, hb]
  rw [if_neg (by omega), if_neg (by omega), if_neg (by omega)]
  rfl
theorem nan64 (t : Nat) : isN .f64 ((t % 2) * 2 ^ 63 + 0x7ff0000000000000 + 1 + (t / 2) % (2 ^ 52 - 1)) = true := by
  unfold isN
  show (Ieee.double.read _).isNaN = true
  have h1 : (t / 2) % (2 ^ 52 - 1) < 2 ^ 52 - 1 := Nat.mod_lt _ (by decide)
  have e : ((t % 2) * 2 ^ 63 + 0x7ff0000000000000 + 1 + (t / 2) % (2 ^ 52 - 1)) % Ieee.double.signWeight = 0x7ff0000000000000 + 1 + (t / 2) % (2 ^ 52 - 1) := by
    show _ % 9223372036854775808 = _
    omega
  have hi : Ieee.double.infRung = 0x7ff0000000000000 := by decide
  have hb : Ieee.double.binade = 4503599627370496 := by decide
  unfold Ieee.Format.read
  simp only [e, hi, hb]
  rw [if_neg (by omega), if_neg (by omega), if_neg (by omega)]
  rfl

theorem cn_fres (op : BinOp) (x y : Nat) (w : World) : cn (fres op x y w) = fop op (cn x) (cn y) := by
  unfold fres fop
  show _ = cn ((floatBits op .f32 (cnk .f32 x) (cnk .f32 y)).getD _)
  rw [bits_cn]
  cases h : floatBits op .f32 x y with
  | some r => rfl
  | none =>
    simp only [Option.getD_none]
    have : isN .f32 (nanOf .f32 (.nanBits .f32 x y) w) = true := by simp only [nanOf, Question.cut]; exact nan32 _
    unfold cn
    rw [cnk_of_nan this, cnk_of_nan (isN_qn _)]

section
variable {P : Program} (w : World) (t : TypeId) (x y : Nat)
theorem run_arith (op : BinOp) (hop : op = .add ∨ op = .sub ∨ op = .mul ∨ op = .quo) : (binOp op t (.float .f32 x) (.float .f32 y)).run P w = .ok (.float .f32 (fres op x y w)) (w.drewN (fcnt op x y)) := by
  cases h : floatBits op .f32 x y with
  | some r => simpa [fres, fcnt, h, World.drewN_zero] using run_float_arith (P := P) w op t .f32 x y r h
  | none =>
    have hb : (Op.floatArith op .f32 x y).run P w = .ok (.float .f32 (nanOf .f32 (.nanBits .f32 x y) w)) (w.drewN 1) := by
      unfold floatBits at h
      rcases hop with rfl | rfl | rfl | rfl <;> simp only at h <;> simp [Op.floatArith, h, Question.forced, nanOf] <;> rfl
    rcases hop with rfl | rfl | rfl | rfl <;> simp [binOp, hb, fres, fcnt, h]
@[go_sem] theorem run_fadd : (binOp .add t (.float .f32 x) (.float .f32 y)).run P w = .ok (.float .f32 (fres .add x y w)) (w.drewN (fcnt .add x y)) := run_arith w t x y _ (.inl rfl)
@[go_sem] theorem run_fsub : (binOp .sub t (.float .f32 x) (.float .f32 y)).run P w = .ok (.float .f32 (fres .sub x y w)) (w.drewN (fcnt .sub x y)) := run_arith w t x y _ (.inr (.inl rfl))
@[go_sem] theorem run_fmul : (binOp .mul t (.float .f32 x) (.float .f32 y)).run P w = .ok (.float .f32 (fres .mul x y w)) (w.drewN (fcnt .mul x y)) := run_arith w t x y _ (.inr (.inr (.inl rfl)))
@[go_sem] theorem run_fquo : (binOp .quo t (.float .f32 x) (.float .f32 y)).run P w = .ok (.float .f32 (fres .quo x y w)) (w.drewN (fcnt .quo x y)) := run_arith w t x y _ (.inr (.inr (.inr rfl)))
end

/-! ### float64(x) of a narrow number. -/
/-- A narrow number made wide. -/
def widen (b : Nat) : Nat := if isN .f32 b then qn .f64 else FloatKind.f64.encode (FloatKind.f32.decode b)
@[irreducible] def fwid (b : Nat) (w : World) : Nat := if isN .f32 b then nanOf .f64 (.nanConv .f64 b) w else widen b
@[irreducible] def wcnt (b : Nat) : Nat := if isN .f32 b then 1 else 0
theorem widen_bits {b : Nat} (h : isN .f32 b = false) : floatToFloatBits .f32 b .f64 = some (widen b) := by
  unfold floatToFloatBits widen
  rw [h]
  simp only [reduceCtorEq, if_false, Bool.false_eq_true]
  unfold isN at h
  have hd : FloatKind.f32.decode b = FloatKind.f32.format.read b := rfl
  cases hr : FloatKind.f32.format.read b with
  | nan s f => rw [hr] at h; cases h
  | infinity s => simp only [hd, hr]
  | number s m e =>
    simp only [hd, hr]
    have := wide_finite b s m e hr
    rw [if_neg (by
      show ¬ (FloatKind.f64.format.read (FloatKind.f64.format.write (.number s m e))).isInfinity = true
      show ¬ (Ieee.double.read (Ieee.double.nearest s m e)).isInfinity = true
      rw [this]; decide)]
theorem cn_fwid (b : Nat) (w : World) : cnk .f64 (fwid b w) = cnk .f64 (widen b) := by
  unfold fwid
  cases h : isN .f32 b
  · simp
  · have : isN .f64 (nanOf .f64 (.nanConv .f64 b) w) = true := by simp only [nanOf, Question.cut]; exact nan64 _
    simp [widen, h, cnk_of_nan this, cnk_of_nan (isN_qn _)]
theorem widen_cn (b : Nat) : widen (cn b) = widen b := by
  unfold cn
  cases h : isN .f32 b
  · rw [cnk_of_not h]
  · rw [cnk_of_nan h]; simp [widen, h, isN_qn]
section
variable {P : Program} (w : World)
theorem run_widen_conv (b : Nat) : (Conv.floatToFloat .f32 b .f64).run P w = .ok (.float .f64 (fwid b w)) (w.drewN (wcnt b)) := by
  cases h : isN .f32 b
  · rw [run_floatToFloat w (widen_bits h)]
    simp [fwid, wcnt, h, World.drewN_zero]
  · obtain ⟨s, f, hr⟩ := isN_read h
    have hr' : FloatKind.f32.decode b = .nan s f := hr
    simp only [Conv.floatToFloat, reduceCtorEq, if_false, hr']
    simp [fwid, wcnt, h, Question.forced, nanOf]
    rfl
theorem run_convert_widen (src dst : TypeId) (b : Nat) (hs : P.underlying src = some (.float .f32)) (hd : P.underlying dst = some (.float .f64)) : (convert src dst (.float .f32 b)).run P w = .ok (.float .f64 (fwid b w)) (w.drewN (wcnt b)) := by
  simp [convert, run_underlying hs, run_underlying hd, run_widen_conv]
theorem run_convert_wide_complex (src dst : TypeId) (a b : Nat) (hs : P.underlying src = some (.complex .f32)) (hd : P.underlying dst = some (.complex .f64)) :
    (convert src dst (.complex .f32 a b)).run P w = .ok (.complex .f64 (fwid a w) (fwid b (w.drewN (wcnt a)))) (w.drewN (wcnt a + wcnt b)) := by
  simp [convert, run_underlying hs, run_underlying hd, Conv.complexToComplex, run_widen_conv]
end

end Go.Proofs.YtmmfnklnmdhkiaaGreat
/- The walks that FnExactDropsLogged needs: levels are copied, and the greatest drop is found. -/
namespace Go.Proofs.YtmmfnklnmdhkiaaGreat
open Go.ChangeShapes Go.WideShapes Go.ChangeAt Go.RowKit
set_option linter.unusedVariables false

/-- A row of int16 numbers. -/
@[irreducible] def i16s (n : Nat) (f : Nat → Int) : Array Value := Array.ofFn (n := n) fun i => .int .i16 (f i)
theorem i16s_size (n : Nat) (f : Nat → Int) : (i16s n f).size = n := by simp [i16s]
theorem i16s_get (n : Nat) (f : Nat → Int) (i : Nat) (h : i < n) : (i16s n f)[i]? = some (.int .i16 (f i)) := by simp [i16s, h]
theorem i16s_one (n : Nat) (f : Nat → Int) : ∀ v ∈ (i16s n f).toList, v.oneCell' = true := by
  intro v hv; simp [i16s] at hv; obtain ⟨i, rfl⟩ := hv; rfl

/-- The first of the first k numbers with the greatest drop. -/
def bestOf (f g : Nat → Int) : Nat → Nat
  | 0 => 0
  | k + 1 => if f (bestOf f g k) - g (bestOf f g k) < f k - g k then k else bestOf f g k
theorem bestOf_lt (f g : Nat → Int) (k : Nat) (h : 0 < k) : bestOf f g k < k := by
  induction k with
  | zero => omega
  | succ k ih =>
    unfold bestOf
    split
    · omega
    · cases k with
      | zero => simp [bestOf]
      | succ k => have := ih (by omega); omega
theorem bestOf_one (f g : Nat → Int) : bestOf f g 1 = 0 := by simp [bestOf]
/-- Each number is an int16. -/
def Is16 (n : Nat) (f : Nat → Int) : Prop := ∀ i, i < n → -32768 ≤ f i ∧ f i ≤ 32767
/-- What both functions return. -/
def dropsOf (f g : Nat → Int) : Value := .tuple #[.int .i64 (bestOf f g 64), .int .i64 (f (bestOf f g 64) - g (bestOf f g 64))]

end Go.Proofs.YtmmfnklnmdhkiaaGreat
/- The walks that FnExactWaveFrom needs: sums of narrow numbers, and the wave that is seen in twelve levels. -/
namespace Go.Proofs.YtmmfnklnmdhkiaaGreat
open Go.ChangeShapes Go.WideShapes Go.ChangeAt Go.RowKit
set_option linter.unusedVariables false

/-- n narrow numbers. -/
@[irreducible] def fls (n : Nat) (f : Nat → Nat) : List Value := (List.range n).map fun i => .float .f32 (f i)
theorem fls_length (n : Nat) (f : Nat → Nat) : (fls n f).length = n := by simp [fls]
theorem fls_get (n : Nat) (f : Nat → Nat) (i : Nat) (h : i < n) : (fls n f)[i]? = some (.float .f32 (f i)) := by simp [fls, h]
theorem fls_zero (f : Nat → Nat) : fls 0 f = [] := by simp [fls]
theorem fls_succ (n : Nat) (f : Nat → Nat) : fls (n + 1) f = fls n f ++ [.float .f32 (f n)] := by simp [fls, List.range_succ]
theorem fls_congr {n : Nat} {f g : Nat → Nat} (h : ∀ i, i < n → f i = g i) : fls n f = fls n g := by
  unfold fls; apply List.map_congr_left; intro i hi; rw [h i (List.mem_range.1 hi)]
/-- f, but at n: b. -/
def upd (f : Nat → Nat) (n b : Nat) : Nat → Nat := fun i => if i = n then b else f i
theorem fls_snoc (n : Nat) (f : Nat → Nat) (b : Nat) : fls n f ++ [.float .f32 b] = fls (n + 1) (upd f n b) := by
  rw [fls_succ, fls_congr (g := upd f n b) (fun i hi => by simp [upd]; omega)]
  simp [upd]
/-- The sum of the first n numbers, from left to right. -/
def fsumTo (f : Nat → Nat) : Nat → Nat
  | 0 => 0
  | 1 => f 0
  | k + 2 => fop .add (fsumTo f (k + 1)) (f (k + 1))
theorem fsumTo_congr {f g : Nat → Nat} : ∀ (n : Nat), (∀ i, i < n → f i = g i) → fsumTo f n = fsumTo g n
  | 0, _ => rfl
  | 1, h => h 0 (by omega)
  | k + 2, h => by simp only [fsumTo]; rw [fsumTo_congr (k + 1) (fun i hi => h i (by omega)), h (k + 1) (by omega)]
theorem fsumTo_succ (f : Nat → Nat) (k : Nat) (h : 1 ≤ k) : fsumTo f (k + 1) = fop .add (fsumTo f k) (f k) := by
  obtain ⟨j, rfl⟩ : ∃ j, k = j + 1 := ⟨k - 1, by omega⟩
  rfl

end Go.Proofs.YtmmfnklnmdhkiaaGreat
/- The program's WaveFrom: the mean and the wave that are seen in twelve levels. -/
namespace Go.Proofs.YtmmfnklnmdhkiaaGreat
open Go.ChangeShapes Go.WideShapes Go.ChangeAt Go.RowKit
set_option linter.unusedVariables false

theorem elF32 : ElemTy Tryz.prog 53 25 1 4 := elem_of (z := .float .f32 0) Tryz.underlying53 (by kernel_rfl) rfl

/-- The height of an hour. -/
def wfY (f : Nat → Int) (i : Nat) : Nat := fop .quo (cn (floatOfInt .f32 (f i))) (cn 1098907648)
/-- The mean of all hours. -/
def wfM (f : Nat → Int) : Nat := fop .quo (fsumTo (wfY f) 12) (cn 1094713344)
def wfA (f : Nat → Int) (i : Nat) : Nat := fop .mul (fop .sub (wfY f i) (wfM f)) (cn (cosT i))
def wfB (f : Nat → Int) (i : Nat) : Nat := fop .sub (cn 0) (fop .mul (fop .sub (wfY f i) (wfM f)) (cn (sinT i)))
def wfRe (f : Nat → Int) : Nat := fop .quo (fsumTo (wfA f) 12) (cn 1086324736)
def wfIm (f : Nat → Int) : Nat := fop .quo (fsumTo (wfB f) 12) (cn 1086324736)

end Go.Proofs.YtmmfnklnmdhkiaaGreat
/- The reference's WaveFrom: the mean and the wave that are seen in twelve levels. -/
namespace Go.Proofs.YtmmfnklnmdhkiaaGreat
open Go.ChangeShapes Go.WideShapes Go.ChangeAt Go.RowKit
set_option linter.unusedVariables false

theorem l06Re_any (a b : Nat) (w : World) : Calls Tryz.prog 101 #[.complex .f32 a b] w fun e w' => e = .returned (.float .f32 a) ∧ w' = w := by
  have hcv := fun (w : World) => run_convert_complex (P := Tryz.prog) w 49 48 .f32 .f32 a b a b (by kernel_rfl) (by kernel_rfl) (by simp [cConvBits, floatToFloatBits])
  go_enter Tryz.func101, Tryz.ntmps101
  go_wp2
  go_ret
  exact ⟨rfl, rfl⟩
theorem l06Im_any (a b : Nat) (w : World) : Calls Tryz.prog 102 #[.complex .f32 a b] w fun e w' => e = .returned (.float .f32 b) ∧ w' = w := by
  have hcv := fun (w : World) => run_convert_complex (P := Tryz.prog) w 49 48 .f32 .f32 a b a b (by kernel_rfl) (by kernel_rfl) (by simp [cConvBits, floatToFloatBits])
  go_enter Tryz.func102, Tryz.ntmps102
  go_wp2
  go_ret
  exact ⟨rfl, rfl⟩

end Go.Proofs.YtmmfnklnmdhkiaaGreat
/- Grounds in memory: a ground's cells, how they are read and set; grounds that a caller hands in, opened. -/
namespace Go.Proofs.YtmmfnklnmdhkiaaGreat
open Go.ChangeShapes Go.WideShapes Go.ChangeAt Go.RowKit
set_option linter.unusedVariables false
set_option linter.unusedSimpArgs false

@[go_sem] theorem run_store_float (P : Program) (w : World) (a : Addr) (m : Mode) (k : FloatKind) (b : Nat) : (store a (.float k b) m).run P w = stored P w a (.float k b) m := run_store P w a _ m rfl

/-- A ground's numbers. -/
structure Gr where
  wide : Int
  high : Int
  con : Nat → Nat
  gai : Nat → Nat
  hea : Nat → Nat
  fix : Int
def Gr.at (g : Gr) (i : Nat) : Value :=
  if i = 0 then .int .i8 g.wide else if i = 1 then .int .i8 g.high else if i < 66 then .float .f32 (g.con (i - 2)) else if i < 130 then .float .f32 (g.gai (i - 66)) else if i < 194 then .float .f32 (g.hea (i - 130)) else .int .u64 g.fix
@[irreducible] def Gr.cells (g : Gr) : Array Value := Array.ofFn (n := 195) fun i => g.at i
theorem Gr.size (g : Gr) : g.cells.size = 195 := by unfold Gr.cells; exact Array.size_ofFn
theorem Gr.get (g : Gr) (i : Nat) (h : i < 195) : g.cells[i]? = some (g.at i) := by unfold Gr.cells; rw [Array.getElem?_ofFn, dif_pos h]
theorem Gr.get0 (g : Gr) : g.cells[0]? = some (.int .i8 g.wide) := by rw [g.get 0 (by omega)]; rfl
theorem Gr.get1 (g : Gr) : g.cells[1]? = some (.int .i8 g.high) := by rw [g.get 1 (by omega)]; rfl
theorem Gr.getC (g : Gr) (k : Nat) (h : k < 64) : g.cells[2 + k]? = some (.float .f32 (g.con k)) := by
  rw [g.get _ (by omega)]; unfold Gr.at; rw [if_neg (by omega), if_neg (by omega), if_pos (by omega), show 2 + k - 2 = k by omega]
theorem Gr.getG (g : Gr) (k : Nat) (h : k < 64) : g.cells[66 + k]? = some (.float .f32 (g.gai k)) := by
  rw [g.get _ (by omega)]; unfold Gr.at; rw [if_neg (by omega), if_neg (by omega), if_neg (by omega), if_pos (by omega), show 66 + k - 66 = k by omega]
theorem Gr.getH (g : Gr) (k : Nat) (h : k < 64) : g.cells[130 + k]? = some (.float .f32 (g.hea k)) := by
  rw [g.get _ (by omega)]; unfold Gr.at; rw [if_neg (by omega), if_neg (by omega), if_neg (by omega), if_neg (by omega), if_pos (by omega), show 130 + k - 130 = k by omega]
theorem Gr.getF (g : Gr) : g.cells[194]? = some (.int .u64 g.fix) := by rw [g.get 194 (by omega)]; rfl
theorem Gr.one (g : Gr) : ∀ v ∈ g.cells.toList, v.oneCell' = true := by
  intro v hv
  rw [Array.mem_toList_iff] at hv
  obtain ⟨i, hi, rfl⟩ := Array.mem_iff_getElem.1 hv
  rw [g.size] at hi
  have h2 := g.get i hi
  rw [Array.getElem?_eq_getElem (by rw [g.size]; exact hi)] at h2
  rw [Option.some.inj h2]
  unfold Gr.at
  repeat' split
  all_goals rfl
theorem Gr.cells_of {cs : Array Value} (g : Gr) (hs : cs.size = 195) (h : ∀ i, i < 195 → cs[i]? = some (g.at i)) : cs = g.cells := by
  apply Array.ext_getElem?
  intro i
  by_cases hi : i < 195
  · rw [h i hi, g.get i hi]
  · rw [Array.getElem?_eq_none (by omega), Array.getElem?_eq_none (by rw [g.size]; omega)]
theorem Gr.set0 (g : Gr) (x : Int) : g.cells.setIfInBounds 0 (.int .i8 x) = ({ g with wide := x } : Gr).cells := by
  apply Gr.cells_of
  · simp [g.size]
  · intro i hi
    rw [Array.getElem?_setIfInBounds, g.get i hi]
    by_cases h : 0 = i
    · subst h; simp [g.size, Gr.at]
    · rw [if_neg h]; simp [Gr.at, Ne.symm h]
theorem Gr.set1 (g : Gr) (x : Int) : g.cells.setIfInBounds 1 (.int .i8 x) = ({ g with high := x } : Gr).cells := by
  apply Gr.cells_of
  · simp [g.size]
  · intro i hi
    rw [Array.getElem?_setIfInBounds, g.get i hi]
    by_cases h : 1 = i
    · subst h; simp [g.size, Gr.at]
    · rw [if_neg h]; simp [Gr.at, Ne.symm h]
theorem Gr.setF (g : Gr) (x : Int) : g.cells.setIfInBounds 194 (.int .u64 x) = ({ g with fix := x } : Gr).cells := by
  apply Gr.cells_of
  · simp [g.size]
  · intro i hi
    rw [Array.getElem?_setIfInBounds, g.get i hi]
    by_cases h : 194 = i
    · subst h; simp [g.size, Gr.at]
    · rw [if_neg h]
      unfold Gr.at
      simp only [show i < 194 by omega, if_true]
theorem Gr.setH (g : Gr) (k b : Nat) (hk : k < 64) : g.cells.setIfInBounds (130 + k) (.float .f32 b) = ({ g with hea := upd g.hea k b } : Gr).cells := by
  apply Gr.cells_of
  · simp [g.size]
  · intro i hi
    rw [Array.getElem?_setIfInBounds, g.get i hi, g.size]
    by_cases h : 130 + k = i
    · subst h
      rw [if_pos rfl, if_pos (by omega)]
      unfold Gr.at
      rw [if_neg (by omega), if_neg (by omega), if_neg (by omega), if_neg (by omega), if_pos (by omega), show 130 + k - 130 = k by omega]
      simp [upd]
    · rw [if_neg h]
      unfold Gr.at
      by_cases h2 : i < 130
      · simp only [h2, if_true]
      · by_cases h3 : i < 194
        · simp only [h2, h3, if_true, if_false, upd, show ¬ (i - 130 = k) by omega]
        · simp only [h2, h3, if_false]
/-- A cell behind a splice. -/
theorem splice_get (C : Array Value) (f : Nat) (c : Array Value) (hf : f + c.size ≤ C.size) (i : Nat) : (splice C f c)[i]? = if i < f then C[i]? else if i < f + c.size then c[i - f]? else C[i]? := by
  unfold splice
  have e1 : (List.take f C.toList).length = f := by simp; omega
  rw [List.getElem?_toArray, List.getElem?_append, List.getElem?_append, List.length_append, e1]
  by_cases h1 : i < f
  · rw [if_pos (by omega), if_pos h1, if_pos h1, List.getElem?_take, if_pos h1]; simp
  · rw [if_neg h1]
    by_cases h2 : i < f + c.size
    · rw [if_pos (by simpa using h2), if_neg h1, if_pos h2]; simp
    · rw [if_neg (by simpa using h2), if_neg h2, List.getElem?_drop]
      simp only [Array.length_toList]
      rw [show f + c.size + (i - (f + c.size)) = i by omega]; simp
theorem splice_size (C : Array Value) (f : Nat) (c : Array Value) (hf : f + c.size ≤ C.size) : (splice C f c).size = C.size := by
  unfold splice; simp; omega
theorem fls_size (n : Nat) (f : Nat → Nat) : (fls n f).toArray.size = n := by simp [fls_length]
theorem fls_one (n : Nat) (f : Nat → Nat) : ∀ v ∈ (fls n f).toArray.toList, v.oneCell' = true := by
  intro v hv; unfold fls at hv; simp at hv; obtain ⟨i, _, rfl⟩ := hv; rfl
theorem Gr.spC (g : Gr) (f : Nat → Nat) : splice g.cells 2 (fls 64 f).toArray = ({ g with con := f } : Gr).cells := by
  have hle : 2 + (fls 64 f).toArray.size ≤ g.cells.size := by rw [fls_size, g.size]; omega
  apply Gr.cells_of
  · rw [splice_size _ _ _ hle, g.size]
  · intro i hi
    rw [splice_get _ _ _ hle, fls_size, g.get i hi]
    unfold Gr.at
    by_cases h1 : i < 2
    · rw [if_pos h1]
      by_cases h0 : i = 0
      · simp [h0]
      · simp [show i = 1 by omega]
    · rw [if_neg h1]
      by_cases h2 : i < 66
      · rw [if_pos (by omega), List.getElem?_toArray, fls_get 64 f (i - 2) (by omega)]
        rw [if_neg (by omega), if_neg (by omega), if_pos h2]
      · rw [if_neg (by omega)]; simp only [h2, if_false]
theorem Gr.spG (g : Gr) (f : Nat → Nat) : splice g.cells 66 (fls 64 f).toArray = ({ g with gai := f } : Gr).cells := by
  have hle : 66 + (fls 64 f).toArray.size ≤ g.cells.size := by rw [fls_size, g.size]; omega
  apply Gr.cells_of
  · rw [splice_size _ _ _ hle, g.size]
  · intro i hi
    rw [splice_get _ _ _ hle, fls_size, g.get i hi]
    unfold Gr.at
    by_cases h1 : i < 66
    · rw [if_pos h1]; simp only [h1, if_true]
    · rw [if_neg h1]
      by_cases h2 : i < 130
      · rw [if_pos (by omega), List.getElem?_toArray, fls_get 64 f (i - 66) (by omega)]
        rw [if_neg (by omega), if_neg (by omega), if_neg (by omega), if_pos h2]
      · rw [if_neg (by omega)]; simp only [h2, if_false]
theorem Gr.spH (g : Gr) (f : Nat → Nat) : splice g.cells 130 (fls 64 f).toArray = ({ g with hea := f } : Gr).cells := by
  have hle : 130 + (fls 64 f).toArray.size ≤ g.cells.size := by rw [fls_size, g.size]; omega
  apply Gr.cells_of
  · rw [splice_size _ _ _ hle, g.size]
  · intro i hi
    rw [splice_get _ _ _ hle, fls_size, g.get i hi]
    unfold Gr.at
    by_cases h1 : i < 130
    · rw [if_pos h1]; simp only [h1, if_true]
    · rw [if_neg h1]
      by_cases h2 : i < 194
      · rw [if_pos (by omega), List.getElem?_toArray, fls_get 64 f (i - 130) (by omega)]
        rw [if_neg (by omega), if_neg (by omega), if_neg (by omega), if_neg (by omega), if_pos h2]
      · rw [if_neg (by omega)]; simp only [h2, if_false]
theorem fls_of {cs : Array Value} {n : Nat} {f : Nat → Nat} (hs : cs.size = n) (h : ∀ i, i < n → cs[i]? = some (.float .f32 (f i))) : cs = (fls n f).toArray := by
  apply Array.ext_getElem?
  intro i
  by_cases hi : i < n
  · rw [h i hi, List.getElem?_toArray, fls_get n f i hi]
  · rw [Array.getElem?_eq_none (by omega), Array.getElem?_eq_none (by rw [fls_size]; omega)]
theorem Gr.exC (g : Gr) : g.cells.extract 2 66 = (fls 64 g.con).toArray := fls_of (by simp [g.size]) fun i hi => by
  rw [Array.getElem?_extract, if_pos (by rw [g.size]; omega), g.getC i hi]
theorem Gr.exG (g : Gr) : g.cells.extract 66 130 = (fls 64 g.gai).toArray := fls_of (by simp [g.size]) fun i hi => by
  rw [Array.getElem?_extract, if_pos (by rw [g.size]; omega), g.getG i hi]
theorem Gr.exH (g : Gr) : g.cells.extract 130 194 = (fls 64 g.hea).toArray := fls_of (by simp [g.size]) fun i hi => by
  rw [Array.getElem?_extract, if_pos (by rw [g.size]; omega), g.getH i hi]

/-- A ground lies at the head of block b. -/
structure GAt (w : World) (b : Nat) (g : Gr) : Prop where
  lt : b < w.heap.size
  mem : ∀ i, i < 195 → w.cell? ⟨b, i, none⟩ = some (g.at i)
theorem cell_move {w w' : World} {b : Nat} (h : w'.heap[b]? = w.heap[b]?) (o : Nat) : w'.cell? ⟨b, o, none⟩ = w.cell? ⟨b, o, none⟩ := by
  unfold World.cell?; simp only [h]
theorem Blk.gat {w : World} {b : Nat} {g : Gr} {T : TypeId} (h : Blk w b g.cells T) : GAt w b g := ⟨h.lt, fun i hi => (h.cell i).trans (g.get i hi)⟩
section
variable {w w' : World} {b : Nat} {g : Gr}
theorem GAt.get0 (h : GAt w b g) : w.cell? ⟨b, 0, none⟩ = some (.int .i8 g.wide) := (h.mem 0 (by omega)).trans ((g.get 0 (by omega)).symm.trans g.get0)
theorem GAt.get1 (h : GAt w b g) : w.cell? ⟨b, 1, none⟩ = some (.int .i8 g.high) := (h.mem 1 (by omega)).trans ((g.get 1 (by omega)).symm.trans g.get1)
theorem GAt.getF (h : GAt w b g) : w.cell? ⟨b, 194, none⟩ = some (.int .u64 g.fix) := (h.mem 194 (by omega)).trans ((g.get 194 (by omega)).symm.trans g.getF)
theorem GAt.getC (h : GAt w b g) (k : Nat) (hk : k < 64) : w.cell? ⟨b, 2 + k, none⟩ = some (.float .f32 (g.con k)) := (h.mem (2 + k) (by omega)).trans ((g.get (2 + k) (by omega)).symm.trans (g.getC k hk))
theorem GAt.getG (h : GAt w b g) (k : Nat) (hk : k < 64) : w.cell? ⟨b, 66 + k, none⟩ = some (.float .f32 (g.gai k)) := (h.mem (66 + k) (by omega)).trans ((g.get (66 + k) (by omega)).symm.trans (g.getG k hk))
theorem GAt.getH (h : GAt w b g) (k : Nat) (hk : k < 64) : w.cell? ⟨b, 130 + k, none⟩ = some (.float .f32 (g.hea k)) := (h.mem (130 + k) (by omega)).trans ((g.get (130 + k) (by omega)).symm.trans (g.getH k hk))
theorem GAt.move (h : GAt w b g) (hm : w'.heap[b]? = w.heap[b]?) : GAt w' b g := by
  refine ⟨?_, fun i hi => (cell_move hm i).trans (h.mem i hi)⟩
  have hl := h.lt
  rw [Array.getElem?_eq_getElem hl] at hm
  exact lt_of_block hm
theorem GAt.below (h : GAt w b g) {B : Nat} (hb : Below B w w') (hB : b < B) : GAt w' b g := h.move (hb.block b hB)
theorem GAt.drewN (h : GAt w b g) (k : Nat) : GAt (w.drewN k) b g := h.move rfl
theorem GAt.alloc (h : GAt w b g) (o : Obj) : GAt (w.alloc o) b g := h.move (heap_alloc_old w o h.lt)
theorem GAt.grown (h : GAt w b g) {row : Option Nat} (hg : w.grownBy w' row) (hr : row ≠ some b) : GAt w' b g := h.move (hg.block b h.lt (Ne.symm hr))
end

theorem row66 : RowTy Tryz.prog 30 195 := ⟨_, Tryz.underlying30, rfl, by kernel_rfl⟩
theorem zero66 : ZeroTy Tryz.prog 30 (Gr.cells ⟨0, 0, fun _ => 0, fun _ => 0, fun _ => 0, 0⟩) := by unfold ZeroTy Gr.cells; kernel_rfl
theorem row58 : RowTy Tryz.prog 26 64 := ⟨_, Tryz.underlying26, rfl, by kernel_rfl⟩
theorem row64 : RowTy Tryz.prog 27 64 := ⟨_, Tryz.underlying27, rfl, by kernel_rfl⟩
theorem zero64 : ZeroTy Tryz.prog 27 (fls 64 fun _ => 0).toArray := by unfold ZeroTy fls; kernel_rfl
theorem fls_set (n : Nat) (f : Nat → Nat) (k b : Nat) (hk : k < n) : (fls n f).toArray.setIfInBounds k (.float .f32 b) = (fls n (upd f k b)).toArray := fls_of (by simp [fls_length]) fun i hi => by
  rw [Array.getElem?_setIfInBounds, fls_size]
  by_cases h : k = i
  · subst h; simp [hk, upd]
  · rw [if_neg h, List.getElem?_toArray, fls_get n f i hi]; simp [upd, Ne.symm h]

/-- Each number of a ground fits its kind. -/
structure Gr.ok (g : Gr) : Prop where
  wide : -128 ≤ g.wide ∧ g.wide ≤ 127
  high : -128 ≤ g.high ∧ g.high ≤ 127
  fix : 0 ≤ g.fix ∧ g.fix < 18446744073709551616

end Go.Proofs.YtmmfnklnmdhkiaaGreat
