import Derived.Test.YtglimhkpndfjgaaMT11
import Derived.Test.YtglimhkpndfjgaaMT03
import Derived.Test.YtglimhkpndfjgaaMT08
import Derived.Test.YtglimhkpndfjgaaMT02
import Derived.Test.YtglimhkpndfjgaaMT01
import Derived.Lib.ParseIntBMem
import Derived.Lib.CutLaws
/- The argument and the drawdown of a well: the program's walks. -/
namespace Go.Proofs.Ytglimhkpndfjgaa
open Go.ChangeShapes Go.WideShapes Go.ChangeAt Go.RowKit
set_option linter.unusedVariables false
set_option linter.unusedSimpArgs false
attribute [local irreducible] Calls
theorem run_max32 {P : Program} (w : World) (ts : Array TypeId) (t : TypeId) {a b : Nat} (ha1 : 8388608 ≤ a) (ha2 : a < 2139095040) (hb1 : 8388608 ≤ b) (hb2 : b < 2139095040) : (Builtin.max_ ts t #[.float .f32 a, .float .f32 b]).run P w = .ok (.float .f32 (if a < b then b else a)) w := by
  have h : FloatKind.f32.format.order a b = some (compare (a : Int) (b : Int)) := order_norm ha1 ha2 hb1 hb2
  rw [cmp_int] at h
  rcases Nat.lt_trichotomy a b with hl | hl | hl
  · rw [if_pos (by omega)] at h
    rw [if_pos hl]
    simp [Builtin.max_, Builtin.max2, h]
  · subst hl
    rw [if_neg (by omega), if_pos rfl] at h
    simp [Builtin.max_, Builtin.max2, h]
  · rw [if_neg (by omega), if_neg (by omega)] at h
    rw [if_neg (by omega)]
    simp [Builtin.max_, Builtin.max2, h]
theorem sq_zero {x y : Int} (hx : -15 ≤ x ∧ x ≤ 15) (hy : -15 ≤ y ∧ y ≤ 15) : feq (fI (x * x + y * y)) 0 = decide (x = 0 ∧ y = 0) := by
  by_cases h : x = 0 ∧ y = 0
  · obtain ⟨rfl, rfl⟩ := h
    decide +kernel
  · have hn := sqD_nrm hx hy
    unfold sqD at hn
    rw [if_neg h] at hn
    have h1 := hn.lo (by omega)
    have h2 := hn.hi (by omega)
    rw [decide_eq_false h]
    unfold feq
    rw [show FloatKind.f32.format.order (fI (x * x + y * y)) 0 = Ieee.single.order (fI (x * x + y * y)) 0 from rfl, order_fin h2 (by omega), cmp_int, if_neg (by omega), if_neg (by omega)]
    rfl
set_option maxRecDepth 100000 in
set_option maxHeartbeats 1000000 in
theorem argument_any (T S : Nat) (p : Wl) (x y : Int) (time : Nat) (h : Aq T S) (hp : (-100 ≤ p.px ∧ p.px ≤ 100) ∧ (-100 ≤ p.py ∧ p.py ≤ 100)) (hx : -15 ≤ x - p.px ∧ x - p.px ≤ 15) (hy : -15 ≤ y - p.py ∧ y - p.py ≤ 15) (h1 : 1 ≤ time) (h2 : time ≤ 100000) (w : World) :
    Calls Try.prog 86 #[.agg #[.float .f32 T, .float .f32 S], .agg p.cells, .int .i64 x, .int .i64 y, .int .i64 time] w fun e w' => e = .returned (.float .f32 (argV T S (x - p.px) (y - p.py) time)) ∧ Below w.heap.size w w' := by
  rw [p.cells_eq]
  have w1 : wrap64 p.px = p.px := by unfold wrap64; omega
  have w2 : wrap64 p.py = p.py := by unfold wrap64; omega
  have w3 : wrap64 (x - p.px) = x - p.px := by unfold wrap64; omega
  have w4 : wrap64 (y - p.py) = y - p.py := by unfold wrap64; omega
  obtain ⟨a, b, ⟨c1, r1⟩, ⟨c2, r2⟩, ⟨c3, r3⟩⟩ := sqD_steps hx hy
  have e0 := feq_eq (fI ((x - p.px) * (x - p.px) + (y - p.py) * (y - p.py))) 0
  rw [sq_zero hx hy] at e0
  obtain ⟨c, d, f, ⟨c4, r4⟩, ⟨c5, r5⟩, ⟨c6, r6⟩, ⟨c7, r7⟩⟩ := argX_steps h hx hy h1 h2
  have hn := argX_nrm h hx hy h1 h2
  have hmx := fun (w : World) ts t => run_max32 (P := Try.prog) w ts t (hn.lo (by omega)) (hn.hi (by omega)) (b := 562036736) (by omega) (by omega)
  have hV : argV T S (x - p.px) (y - p.py) time = if argX T S (x - p.px) (y - p.py) time < 562036736 then 562036736 else argX T S (x - p.px) (y - p.py) time := rfl
  rw [← hV] at hmx
  clear hV hn
  generalize argV T S (x - p.px) (y - p.py) time = V at *
  generalize argX T S (x - p.px) (y - p.py) time = U at *
  unfold sqD at c4 r4
  unfold fI at *
  generalize floatOfInt .f32 ((x - p.px) * (x - p.px) + (y - p.py) * (y - p.py)) = D at *
  by_cases hz : x - p.px = 0 ∧ y - p.py = 0
  · rw [decide_eq_true hz] at e0
    rw [if_pos hz] at c4 r4
    clear hz h
    go_enter Try.func86, Try.ntmps86
    go_upto_region 1 with fail
    have hbel := below2 w (.cells #[.float .f32 T, .float .f32 S] 26) (.cells #[.int .i8 p.px, .int .i8 p.py, .float .f32 p.rt] 30)
    go_quiet (fail)
    go_wp2_with fail
    go_ret
    exact ⟨rfl, below_drewN hbel _⟩
  · rw [decide_eq_false hz] at e0
    rw [if_neg hz] at c4 r4
    clear hz h
    go_enter Try.func86, Try.ntmps86
    go_upto_region 1 with fail
    have hbel := below2 w (.cells #[.float .f32 T, .float .f32 S] 26) (.cells #[.int .i8 p.px, .int .i8 p.py, .float .f32 p.rt] 30)
    go_quiet (fail)
    go_wp2_with fail
    go_ret
    exact ⟨rfl, below_drewN hbel _⟩
theorem rowAq : RowTy Try.prog 26 2 := ⟨_, Try.underlying26, rfl, by kernel_rfl⟩
set_option maxRecDepth 100000 in
theorem fourPi_any (w : World) : Calls Try.prog 88 #[] w fun e w' => e = .returned (.float .f32 1095307227) ∧ ∃ n, w' = w.drewN n := by
  obtain ⟨c1, r1⟩ := Opr.told (op := .mul) (a := 1082130432) (b := 1078530011) (r := 1095307227) (by decide +kernel)
  go_enter Try.func88, Try.ntmps88
  go_wp2_with fail
  go_ret
  exact ⟨rfl, 0, rfl⟩
set_option maxRecDepth 100000 in
set_option maxHeartbeats 1000000 in
theorem drawdown_any (T S : Nat) (p : Wl) (x y : Int) (time : Nat) (h : Aq T S) (hp : (-100 ≤ p.px ∧ p.px ≤ 100) ∧ (-100 ≤ p.py ∧ p.py ≤ 100)) (hR : Mg p.rt 147) (hx : -15 ≤ x - p.px ∧ x - p.px ≤ 15) (hy : -15 ≤ y - p.py ∧ y - p.py ≤ 15) (h1 : 1 ≤ time) (h2 : time ≤ 100000) (w : World) :
    Calls Try.prog 79 #[.agg #[.float .f32 T, .float .f32 S], .agg p.cells, .int .i64 x, .int .i64 y, .int .i64 time] w fun e w' => e = .returned (.float .f32 (ddX T S p.rt (x - p.px) (y - p.py) time)) ∧ Below w.heap.size w w' := by
  have harg := fun w' => argument_any T S p x y time h hp hx hy h1 h2 w'
  have hv := argV_in h hx hy h1 h2
  have hst := ddX_steps h hR hx hy h1 h2
  have h0 : 1117782016 < argV T S (x - p.px) (y - p.py) time → ddX T S p.rt (x - p.px) (y - p.py) time = 0 := fun h => by unfold ddX; rw [if_pos h]
  generalize ddX T S p.rt (x - p.px) (y - p.py) time = D at *
  generalize argV T S (x - p.px) (y - p.py) time = V at *
  rw [p.cells_eq] at harg ⊢
  have t := fgt_eq V 1117782016
  rw [fgt_norm (by omega) (by omega) (by omega) (by omega)] at t
  by_cases hbig : 1117782016 < V
  · rw [decide_eq_true hbig] at t
    obtain rfl := h0 hbig
    clear hst h0 hv hbig
    go_enter Try.func79, Try.ntmps79
    go_upto_region 1 with fail
    have hbel := below2 w (.cells #[.float .f32 T, .float .f32 S] 26) (.cells #[.int .i8 p.px, .int .i8 p.py, .float .f32 p.rt] 30)
    go_wp2_with (go_at_call 86; refine (harg _).mono ?_; rintro e w1 ⟨rfl, hb1⟩)
    go_ret
    exact ⟨rfl, hbel.trans (hb1.mono hbel.size)⟩
  · rw [decide_eq_false hbig] at t
    obtain ⟨a, b, ⟨c1, r1⟩, ⟨c2, r2⟩, ⟨c3, r3⟩⟩ := hst (by omega)
    have hwf := fun w' => wellFunction_any V hv.1 (by omega) w'
    have h4 := fun w' => fourPi_any w'
    generalize wfX V = F at *
    clear h0 hbig
    go_enter Try.func79, Try.ntmps79
    go_upto_region 1 with fail
    have hbel := below2 w (.cells #[.float .f32 T, .float .f32 S] 26) (.cells #[.int .i8 p.px, .int .i8 p.py, .float .f32 p.rt] 30)
    have hA : Blk ((w.alloc (.cells #[.float .f32 T, .float .f32 S] 26)).alloc (.cells #[.int .i8 p.px, .int .i8 p.py, .float .f32 p.rt] 30)) w.heap.size #[.float .f32 T, .float .f32 S] 26 := (Blk.new _ _ _).alloc _
    have hB : Blk ((w.alloc (.cells #[.float .f32 T, .float .f32 S] 26)).alloc (.cells #[.int .i8 p.px, .int .i8 p.py, .float .f32 p.rt] 30)) (w.heap.size + 1) #[.int .i8 p.px, .int .i8 p.py, .float .f32 p.rt] 30 := Blk.new1 _ _ _ _
    generalize (w.alloc (.cells #[.float .f32 T, .float .f32 S] 26)).alloc (.cells #[.int .i8 p.px, .int .i8 p.py, .float .f32 p.rt] 30) = W at *
    go_upto_region 5 with (first | (refine wpList_load_blk rfl rfl rfl rowAq hA rfl ?_) | (refine wpList_load_blk rfl rfl rfl rowWl hB rfl ?_) | (go_at_call 86; refine (harg _).mono ?_; rintro e w1 ⟨rfl, hb1⟩; replace hA := hA.below hb1 hA.lt; replace hB := hB.below hb1 hB.lt) | (go_at_call 87; refine (hwf _).mono ?_; rintro e w' ⟨rfl, n1, rfl⟩))
    have x1 : (w1.drewN n1).cell? ⟨w.heap.size, 0, none⟩ = some (.float .f32 T) := hA.cell 0
    have x2 : (w1.drewN n1).cell? ⟨w.heap.size + 1, 2, none⟩ = some (.float .f32 p.rt) := hB.cell 2
    have hb2 := below_drewN (hbel.trans (hb1.mono hbel.size)) n1
    generalize w1.drewN n1 = W2 at *
    go_quiet ((go_at_call 88; exact Calls.quiet_of (h4 _)))
    go_wp2_with fail
    go_ret
    exact ⟨rfl, below_drewN hb2 _⟩
end Go.Proofs.Ytglimhkpndfjgaa
/- Stores into a ground's cells, one by one. -/
namespace Go.Proofs.Ytglimhkpndfjgaa
open Go.ChangeShapes Go.WideShapes Go.ChangeAt Go.RowKit
set_option linter.unusedVariables false
set_option linter.unusedSimpArgs false

/-- A store into one cell of a block: the world behind it by what it holds. -/
theorem wpList_store_abs {P : Program} {ops : Array Oper} {rest : List Oper} {o : Oper} {a : Act} {Q : Exit → Act → World → Prop} {w : World} {ty t : TypeId} {x y : Operand} {b f : Nat} {v : Value} {C : Array Value} (hgd : o.guard = none) (ho : o.op = .store ty x y) (hx : a.eval x = .pointer (some ⟨b, f, none⟩)) (hy : a.eval y = v) (hi : (P.info? ty).map (·.size) = some 1) (hv : v.cells = #[v]) (h1 : v.oneCell' = true) (hb : Blk w b C t) (hf : f < C.size)
    (h : ∀ W, Blk W b (C.setIfInBounds f v) t → w.grownBy W (some b) → wpList P ops Q rest (a.put o.dst undef) W) : wpList P ops Q (o :: rest) a w :=
  wpList_plain hgd fun K hK => by
    have hst := run_storeCells_at P b f t [v] 0 C w hb (by simp; omega) (by simpa using h1)
    unfold Oper.wp execOp
    cases hq : P.info? ty with
    | none => simp [hq] at hi
    | some i =>
      have hsz : i.size = 1 := by simpa [hq] using hi
      simp only [ho, hx, hy, Instr.storeAt, Instr.sureAddr, Sem.run_bind, Sem.run_pure, Result.andThen_ok]
      obtain ⟨W, hW, hB, hG⟩ : ∃ W, (storeVar ty ⟨b, f, none⟩ v).run P w = .ok () W ∧ Blk W b (C.setIfInBounds f v) t ∧ w.grownBy W (some b) := by
        refine ⟨w.setRow b (splice C f #[v]), ?_, ?_, ?_⟩
        · have hst' : (storeCells ⟨b, f, none⟩ [v] 0).run P w = .ok () (w.setRow b (splice C f #[v])) := by simpa [splice] using hst
          simp [storeVar, sizeOf, typeInfo, hq, hv, hsz, hst']
        · have := hb.setRow (splice C f #[v])
          have e : splice C f #[v] = C.setIfInBounds f v := by
            unfold splice
            apply Array.ext'
            simp only [Array.toList_setIfInBounds]
            rw [List.set_eq_take_append_cons_drop, if_pos (by simpa using hf)]
            simp
          rw [e] at this ⊢
          exact this
        · exact ⟨rfl, rfl, rfl, by simp, fun j hj hne => setRow_other w b j _ (fun e => hne (by rw [e]))⟩
      rw [hW]
      exact hK _ _ (h W hB hG)
def zeroGr : Gr := ⟨0, 0, fun _ => 0, fun _ => 0, fun _ => 0, 0⟩
theorem Gr.putC (g : Gr) (k b : Nat) (hk : k < 64) : g.cells.setIfInBounds (2 + k) (.float .f32 b) = ({ g with con := upd g.con k b } : Gr).cells := by
  refine Gr.cells_of _ (by simp [g.size]) fun i hi => ?_
  rw [Array.getElem?_setIfInBounds]
  by_cases h : 2 + k = i
  · rw [if_pos h, if_pos (by rw [g.size]; omega)]
    subst h
    unfold Gr.at upd
    simp only [show ¬ (2 + k = 0) by omega, show ¬ (2 + k = 1) by omega, show 2 + k < 66 by omega, if_true, if_false, show 2 + k - 2 = k by omega]
  · rw [if_neg h, g.get i hi]
    congr 1
    unfold Gr.at upd
    by_cases i0 : i = 0
    · simp only [i0, if_true]
    · by_cases i1 : i = 1
      · simp only [i1]; rfl
      · by_cases i2 : i < 66
        · simp only [i0, i1, i2, if_true, if_false, show ¬ (i - 2 = k) by omega]
        · simp only [i0, i1, i2, if_false]
theorem Gr.putG (g : Gr) (k b : Nat) (hk : k < 64) : g.cells.setIfInBounds (66 + k) (.float .f32 b) = ({ g with gai := upd g.gai k b } : Gr).cells := by
  refine Gr.cells_of _ (by simp [g.size]) fun i hi => ?_
  rw [Array.getElem?_setIfInBounds]
  by_cases h : 66 + k = i
  · rw [if_pos h, if_pos (by rw [g.size]; omega)]
    subst h
    unfold Gr.at upd
    simp only [show ¬ (66 + k = 0) by omega, show ¬ (66 + k = 1) by omega, show ¬ (66 + k < 66) by omega, show 66 + k < 130 by omega, if_true, if_false, show 66 + k - 66 = k by omega]
  · rw [if_neg h, g.get i hi]
    congr 1
    unfold Gr.at upd
    by_cases i0 : i = 0
    · simp only [i0, if_true]
    · by_cases i1 : i = 1
      · simp only [i1]; rfl
      · by_cases i2 : i < 66
        · simp only [i0, i1, i2, if_true, if_false]
        · by_cases i3 : i < 130
          · simp only [i0, i1, i2, i3, if_true, if_false, show ¬ (i - 66 = k) by omega]
          · simp only [i0, i1, i2, i3, if_false]
theorem szF32 : (Try.prog.info? 24).map (·.size) = some 1 := by kernel_rfl
theorem szU64 : (Try.prog.info? 88).map (·.size) = some 1 := by kernel_rfl
end Go.Proofs.Ytglimhkpndfjgaa
/- The walk through the drawing of a ground. -/
namespace Go.Proofs.Ytglimhkpndfjgaa
open Go.ChangeShapes Go.WideShapes Go.ChangeAt Go.RowKit
set_option linter.unusedVariables false
set_option linter.unusedSimpArgs false
attribute [local irreducible] Calls

section
variable {w0 wr w1 : World} {b q0 q1 K K' : Nat} {G : Gr}
end
theorem Drawn.one {W H : Int} {k : Nat} {G : Gr} (h : Drawn W H k G) (hW : 2 ≤ W) (hH : 2 ≤ H) (hf : (G.fix == 0) = true) : Drawn W H k { G with fix := 1 } := by
  have hc : isC G 0 = true := by unfold isC; rw [h.wide, h.high]; simp; omega
  have := h.setF 0 (by omega) hc
  rw [show orB G.fix 0 = 1 by rw [show G.fix = 0 by simpa using hf]; kernel_rfl] at this
  exact this
/-- What l01Drawn gives. -/
def GaveG (w : World) (b k : Nat) (e : Ending) (w' : World) : Prop := ∃ G : Gr, IsDrawn G ∧ e = .returned (.agg G.cells) ∧ Src w' b k ∧ w.grownBy w' (some b)
end Go.Proofs.Ytglimhkpndfjgaa
/- A ground drawn from bytes (A2Ground), a cell's question (A2Is), and whether bytes are too many (a2Long). -/
namespace Go.Proofs.Ytglimhkpndfjgaa
open Go.ChangeShapes Go.WideShapes Go.ChangeAt Go.RowKit
set_option linter.unusedVariables false
set_option linter.unusedSimpArgs false
attribute [local irreducible] Calls

set_option maxRecDepth 100000 in
set_option maxHeartbeats 400000 in
theorem l00From_any (v : Value) (n : Nat) (w : World) (hv : Bytes w w.heap.size v n) :
    Calls Try.prog 26 #[v] w fun e w' => e = .returned (.pointer (some ⟨w.heap.size, 0, none⟩)) ∧ w' = w.alloc (.cells #[v, .int .i64 0, .int .u64 0] 90) := by
  obtain ⟨a, c, rfl, hn, hc⟩ := hv
  clear hc
  go_enter Try.func26, Try.ntmps26
  go_wp2_with fail
  go_ret
  exact ⟨rfl, rfl⟩
theorem src_new {w : World} {v : Value} {n : Nat} (hv : Bytes w w.heap.size v n) : Src (w.alloc (.cells #[v, .int .i64 0, .int .u64 0] 90)) w.heap.size 0 :=
  ⟨v, n, 0, 0, Blk.new _ _ _, Nat.le_refl _, by omega, by omega, hv.move fun r hr => heap_alloc_old w _ hr⟩
def GotG (w : World) (e : Ending) (w' : World) : Prop := ∃ G : Gr, IsDrawn G ∧ e = .returned (.agg G.cells) ∧ Below w.heap.size w w'
end Go.Proofs.Ytglimhkpndfjgaa
/- The program's WaveFrom: the mean and the wave that are seen in twelve levels. -/
namespace Go.Proofs.Ytglimhkpndfjgaa
open Go.ChangeShapes Go.WideShapes Go.ChangeAt Go.RowKit
set_option linter.unusedVariables false

theorem cell16 : CellTy Try.prog 63 := ⟨.int .i16, Try.underlying63, rfl, by kernel_rfl⟩
theorem elF32 : ElemTy Try.prog 79 24 1 4 := elem_of (z := .float .f32 0) Try.underlying79 (by kernel_rfl) rfl

/-- The height of an hour. -/
def wfY (f : Nat → Int) (i : Nat) : Nat := fop .quo (cn (floatOfInt .f32 (f i))) (cn 1098907648)
/-- The mean of all hours. -/
def wfM (f : Nat → Int) : Nat := fop .quo (fsumTo (wfY f) 12) (cn 1094713344)
def wfA (f : Nat → Int) (i : Nat) : Nat := fop .mul (fop .sub (wfY f i) (wfM f)) (cn (cosT i))
def wfB (f : Nat → Int) (i : Nat) : Nat := fop .sub (cn 0) (fop .mul (fop .sub (wfY f i) (wfM f)) (cn (sinT i)))
def wfRe (f : Nat → Int) : Nat := fop .quo (fsumTo (wfA f) 12) (cn 1086324736)
def wfIm (f : Nat → Int) : Nat := fop .quo (fsumTo (wfB f) 12) (cn 1086324736)

end Go.Proofs.Ytglimhkpndfjgaa
/- The reference's WaveFrom: the mean and the wave that are seen in twelve levels. -/
namespace Go.Proofs.Ytglimhkpndfjgaa
open Go.ChangeShapes Go.WideShapes Go.ChangeAt Go.RowKit
set_option linter.unusedVariables false

end Go.Proofs.Ytglimhkpndfjgaa
/- Draws of the sixth week: a ground, a number, a factor, how long a step is. -/
namespace Go.Proofs.Ytglimhkpndfjgaa
open Go.ChangeShapes Go.WideShapes Go.ChangeAt Go.RowKit
set_option linter.unusedVariables false
set_option linter.unusedSimpArgs false
attribute [local irreducible] Calls
def partOf (x : Nat) : Nat := (floatBits .quo .f32 (floatOfInt .f32 (x : Int)) 1140850688).getD 0
def numOf (x : Nat) : Nat := (floatBits .quo .f32 (floatOfInt .f32 ((x : Int) - 3200)) 1115684864).getD 0
def facOf (x : Nat) : Nat := (floatBits .quo .f32 (floatOfInt .f32 ((x : Int) - 128)) 1126170624).getD 0
theorem part_all : ∀ x : Nat, x < 32 → (floatBits .quo .f32 (floatOfInt .f32 (x : Int)) 1140850688).isSome = true ∧ plain (partOf x) = true := by
  have h : (List.range 32).all (fun (x : Nat) => (floatBits .quo .f32 (floatOfInt .f32 (x : Int)) 1140850688).isSome && plain (partOf x)) = true := by kernel_rfl
  intro x hx
  have := List.all_eq_true.1 h x (List.mem_range.2 hx)
  simpa using this
theorem fac_all : ∀ x : Nat, x < 257 → (floatBits .quo .f32 (floatOfInt .f32 ((x : Int) - 128)) 1126170624).isSome = true ∧ plain (facOf x) = true := by
  have h : (List.range 257).all (fun (x : Nat) => (floatBits .quo .f32 (floatOfInt .f32 ((x : Int) - 128)) 1126170624).isSome && plain (facOf x)) = true := by kernel_rfl
  intro x hx
  have := List.all_eq_true.1 h x (List.mem_range.2 hx)
  simpa using this
/-- The mean of a tide: a number over 8. -/
def meanOf (x : Nat) : Nat := (floatBits .quo .f32 (numOf x) 1090519040).getD 0
theorem num_all : ∀ x : Nat, x < 6401 → (floatBits .quo .f32 (floatOfInt .f32 ((x : Int) - 3200)) 1115684864).isSome = true ∧ (floatBits .quo .f32 (numOf x) 1090519040).isSome = true ∧ plain (meanOf x) = true := by
  have h : (List.range 6401).all (fun (x : Nat) => (floatBits .quo .f32 (floatOfInt .f32 ((x : Int) - 3200)) 1115684864).isSome && (floatBits .quo .f32 (numOf x) 1090519040).isSome && plain (meanOf x)) = true := by kernel_rfl
  intro x hx
  have := List.all_eq_true.1 h x (List.mem_range.2 hx)
  simpa [and_assoc] using this
theorem part_is {x : Nat} (h : x < 32) : floatBits .quo .f32 (floatOfInt .f32 (x : Int)) 1140850688 = some (partOf x) := by
  obtain ⟨r, hr⟩ := Option.isSome_iff_exists.1 (part_all x h).1
  unfold partOf; rw [hr]; rfl
theorem fac_is {x : Nat} (h : x < 257) : floatBits .quo .f32 (floatOfInt .f32 ((x : Int) - 128)) 1126170624 = some (facOf x) := by
  obtain ⟨r, hr⟩ := Option.isSome_iff_exists.1 (fac_all x h).1
  unfold facOf; rw [hr]; rfl
theorem num_is {x : Nat} (h : x < 6401) : floatBits .quo .f32 (floatOfInt .f32 ((x : Int) - 3200)) 1115684864 = some (numOf x) := by
  obtain ⟨r, hr⟩ := Option.isSome_iff_exists.1 (num_all x h).1
  unfold numOf; rw [hr]; rfl
theorem mean_is {x : Nat} (h : x < 6401) : floatBits .quo .f32 (numOf x) 1090519040 = some (meanOf x) := by
  obtain ⟨r, hr⟩ := Option.isSome_iff_exists.1 (num_all x h).2.1
  unfold meanOf; rw [hr]; rfl
theorem below_src (w : World) (v : Value) {q k : Nat} (hq : w.heap.size = q) {w2 : World} (h : (w.alloc (.cells #[v, .int .i64 0, .int .u64 0] 90)).grownBy w2 (some q)) : Below w.heap.size w w2 :=
  (below1 w _).grown h (by simp) (fun k e => by injection e; omega)
set_option maxRecDepth 100000 in
set_option maxHeartbeats 400000 in
theorem p6Pick_any (v : Value) (n : Nat) (m : Int) (h1 : 1 ≤ m) (h2 : m ≤ 1099511627776) (w : World) (hv : Bytes w w.heap.size v n) :
    Calls Try.prog 18 #[v, .int .i64 m] w fun e w' => ∃ x : Int, 0 ≤ x ∧ x < m ∧ e = .returned (.int .i64 x) ∧ Below w.heap.size w w' := by
  have hs := src_new hv
  have hfr := l00From_any v n w hv
  have hbs := fun (w2 : World) (q : Nat) hq h => below_src w v (k := 0) (q := q) hq (w2 := w2) h
  generalize w.alloc (.cells #[v, .int .i64 0, .int .u64 0] 90) = W1 at *
  have hbs := fun w2 h => hbs w2 _ rfl h
  generalize hq : w.heap.size = q at *
  have hp := pick_any q 0 m (by omega) h1 h2 W1 hs
  clear hs hv
  go_enter Try.func18, Try.ntmps18
  go_wp2_with (first | (go_at_call 26; refine hfr.mono ?_; rintro e w1 ⟨rfl, hw⟩; subst hw) | (go_at_call 27; refine hp.mono ?_; rintro e w2 ⟨x, ⟨x0, x1⟩, rfl, hs2, hg2⟩))
  go_ret
  exact ⟨x, x0, x1, rfl, hbs _ hg2⟩
end Go.Proofs.Ytglimhkpndfjgaa
/- A text cut at a byte, in the reference: the walk. -/
namespace Go.Proofs.Ytglimhkpndfjgaa
open Go.ChangeShapes Go.WideShapes Go.ChangeAt Go.RowKit
set_option linter.unusedVariables false
set_option linter.unusedSimpArgs false
attribute [local irreducible] Calls

/-- A text's words between a byte. -/
def splitL (c : UInt8) : List UInt8 → List (List UInt8)
  | [] => [[]]
  | x :: l => if x = c then [] :: splitL c l else match splitL c l with | h :: t => (x :: h) :: t | [] => [[x]]
def preL (p : List UInt8) : List (List UInt8) → List (List UInt8)
  | h :: t => (p ++ h) :: t
  | [] => [p]
theorem splitL_ne (c : UInt8) (l : List UInt8) : splitL c l ≠ [] := by
  cases l with
  | nil => simp [splitL]
  | cons x l =>
    unfold splitL
    split
    · simp
    · split <;> simp
theorem preL_nil {L : List (List UInt8)} (h : L ≠ []) : preL [] L = L := by cases L <;> simp_all [preL]
theorem splitL_hit (c : UInt8) (l : List UInt8) (p : List UInt8) : preL p (splitL c (c :: l)) = p :: splitL c l := by
  rw [splitL, if_pos rfl]; simp [preL]
theorem splitL_miss {c x : UInt8} (h : x ≠ c) (l : List UInt8) (p : List UInt8) : preL p (splitL c (x :: l)) = preL (p ++ [x]) (splitL c l) := by
  rw [splitL, if_neg h]
  cases hs : splitL c l with
  | nil => exact absurd hs (splitL_ne c l)
  | cons a t => simp [preL]
theorem splitL_length (c : UInt8) : ∀ l : List UInt8, (splitL c l).length ≤ l.length + 1
  | [] => by simp [splitL]
  | x :: l => by
    have ih := splitL_length c l
    rw [splitL]
    split
    · simp; omega
    · cases hs : splitL c l with
      | nil => simp
      | cons a t => rw [hs] at ih; simp at ih ⊢; omega
/-- The values of words. -/
def strs (L : List (List UInt8)) : List Value := L.map fun l => .string ⟨l.toArray⟩
theorem strs_length (L : List (List UInt8)) : (strs L).length = L.length := by simp [strs]
theorem strs_snoc (L : List (List UInt8)) (l : List UInt8) : strs L ++ [.string ⟨l.toArray⟩] = strs (L ++ [l]) := by simp [strs]
theorem strs_get {L : List (List UInt8)} {j : Nat} {l : List UInt8} (h : L[j]? = some l) : (strs L)[j]? = some (.string ⟨l.toArray⟩) := by simp [strs, h]
theorem extract_eq (s : ByteArray) (f k : Nat) : s.extract f k = ⟨((s.data.toList.drop f).take (k - f)).toArray⟩ := by
  rcases s with ⟨d⟩
  apply congrArg ByteArray.mk (a₁ := (ByteArray.extract ⟨d⟩ f k).data)
  rcases d with ⟨l⟩
  simp [ByteArray.data_extract, List.extract_eq_take_drop]
end Go.Proofs.Ytglimhkpndfjgaa
/- Numbers written with eight digits to the base 16: plain laws; no statement is proved here. -/
namespace Go.Proofs.Ytglimhkpndfjgaa
open Go.ChangeShapes Go.WideShapes Go.ChangeAt Go.RowKit
set_option linter.unusedVariables false

/-- A digit's value. -/
def hexD (c : UInt8) : Option Nat := if 48 ≤ c.toNat ∧ c.toNat ≤ 57 then some (c.toNat - 48) else if 97 ≤ c.toNat ∧ c.toNat ≤ 102 then some (c.toNat - 87) else none
/-- The value of a great or a small digit. -/
def hexE (c : UInt8) : Option Nat := if 65 ≤ c.toNat ∧ c.toNat ≤ 70 then some (c.toNat - 55) else hexD c
def hexV : Nat → List UInt8 → Option Nat
  | a, [] => some a
  | a, c :: l => match hexD c with | some d => hexV (a * 16 + d) l | none => none
/-- What a reader of digits answers that stops at M: the number; or whether it is too great. -/
def hexU (M : Nat) : Nat → List UInt8 → Sum Nat Bool
  | a, [] => .inl a
  | a, c :: l => match hexE c with | some d => if M < a * 16 + d then .inr true else hexU M (a * 16 + d) l | none => .inr false
/-- A digit. -/
def dig (n : Nat) : UInt8 := UInt8.ofNat (if n < 10 then 48 + n else 87 + n)
/-- The last k digits. -/
def hexK : Nat → Nat → List UInt8
  | 0, _ => []
  | k + 1, u => dig (u / 16 ^ k) :: hexK k (u % 16 ^ k)
/-- The digits without zeros ahead. -/
def hexL (u : Nat) : List UInt8 := if h : u < 16 then [dig u] else hexL (u / 16) ++ [dig (u % 16)]
termination_by u
decreasing_by omega

theorem hexD_lt {c : UInt8} {d : Nat} (h : hexD c = some d) : d < 16 := by
  unfold hexD at h
  split at h
  · injection h with h; omega
  · split at h
    · injection h with h; omega
    · cases h
theorem hexE_lt {c : UInt8} {d : Nat} (h : hexE c = some d) : d < 16 := by
  unfold hexE at h
  split at h
  · injection h with h; omega
  · exact hexD_lt h
theorem hexE_of {c : UInt8} {d : Nat} (h : hexD c = some d) : hexE c = some d := by
  have h0 := h
  unfold hexD at h
  unfold hexE
  rw [if_neg, h0]
  split at h
  · omega
  · split at h
    · omega
    · cases h
theorem toNat_dig {n : Nat} (h : n < 16) : (dig n).toNat = if n < 10 then 48 + n else 87 + n := by
  unfold dig
  rw [UInt8.toNat_ofNat']
  split <;> omega
theorem hexD_dig {n : Nat} (h : n < 16) : hexD (dig n) = some n := by
  unfold hexD
  rw [toNat_dig h]
  by_cases h1 : n < 10
  · rw [if_pos h1, if_pos (by omega)]; congr 1; omega
  · rw [if_neg h1, if_neg (by omega), if_pos (by omega)]; congr 1; omega
theorem dig_hexD {c : UInt8} {d : Nat} (h : hexD c = some d) : c = dig d := by
  have hl := hexD_lt h
  apply UInt8.toNat_inj.1
  rw [toNat_dig hl]
  unfold hexD at h
  split at h
  · injection h with h; rw [if_pos (by omega)]; omega
  · split at h
    · injection h with h; rw [if_neg (by omega)]; omega
    · cases h
theorem hexK_length : ∀ k u, (hexK k u).length = k
  | 0, _ => rfl
  | k + 1, u => by simp [hexK, hexK_length k]
theorem hexV_hexK : ∀ k a u, u < 16 ^ k → hexV a (hexK k u) = some (a * 16 ^ k + u)
  | 0, a, u, h => by simp at h; subst h; simp [hexK, hexV]
  | k + 1, a, u, h => by
    have h1 : u / 16 ^ k < 16 := by
      apply Nat.div_lt_of_lt_mul; rw [Nat.pow_succ] at h; exact h
    have h2 : u % 16 ^ k < 16 ^ k := Nat.mod_lt _ (Nat.pow_pos (by decide))
    unfold hexK hexV
    rw [hexD_dig h1]
    show hexV (a * 16 + u / 16 ^ k) (hexK k (u % 16 ^ k)) = _
    rw [hexV_hexK k _ _ h2]
    congr 1
    have h3 := Nat.div_add_mod u (16 ^ k)
    rw [Nat.pow_succ, Nat.add_mul, Nat.mul_assoc a 16, Nat.mul_comm 16 (16 ^ k), Nat.mul_comm (u / 16 ^ k)]
    omega
theorem hexK_hexV : ∀ (l : List UInt8) (a b : Nat), hexV a l = some b → ∃ u, u < 16 ^ l.length ∧ b = a * 16 ^ l.length + u ∧ l = hexK l.length u
  | [], a, b, h => by
    injection h with h
    exact ⟨0, by simp, by simp [h], rfl⟩
  | c :: l, a, b, h => by
    unfold hexV at h
    cases hd : hexD c with
    | none => rw [hd] at h; cases h
    | some d =>
      rw [hd] at h
      obtain ⟨u, h1, h2, h3⟩ := hexK_hexV l _ _ h
      have hl := hexD_lt hd
      have hp : 0 < 16 ^ l.length := Nat.pow_pos (by decide)
      have hm : d * 16 ^ l.length + u < 16 * 16 ^ l.length := by
        have : d * 16 ^ l.length ≤ 15 * 16 ^ l.length := Nat.mul_le_mul_right _ (by omega)
        omega
      refine ⟨d * 16 ^ l.length + u, ?_, ?_, ?_⟩
      · show _ < 16 ^ (l.length + 1)
        rw [Nat.pow_succ, Nat.mul_comm (16 ^ l.length) 16]; exact hm
      · show b = a * 16 ^ (l.length + 1) + _
        rw [h2, Nat.pow_succ, Nat.add_mul, Nat.mul_comm (16 ^ l.length) 16, ← Nat.mul_assoc]; omega
      · show c :: l = dig ((d * 16 ^ l.length + u) / 16 ^ l.length) :: hexK l.length ((d * 16 ^ l.length + u) % 16 ^ l.length)
        have e1 : (d * 16 ^ l.length + u) / 16 ^ l.length = d := by
          rw [Nat.mul_comm, Nat.mul_add_div hp, Nat.div_eq_of_lt h1]; omega
        have e2 : (d * 16 ^ l.length + u) % 16 ^ l.length = u := by
          rw [Nat.mul_comm, Nat.mul_add_mod]; exact Nat.mod_eq_of_lt h1
        rw [e1, e2, ← h3, dig_hexD hd]
theorem hexV_le : ∀ (l : List UInt8) (a b : Nat), hexV a l = some b → a ≤ b
  | [], a, b, h => by injection h with h; omega
  | c :: l, a, b, h => by
    unfold hexV at h
    cases hd : hexD c with
    | none => rw [hd] at h; cases h
    | some d => rw [hd] at h; have := hexV_le l _ _ h; omega
theorem hexU_of (M : Nat) : ∀ (l : List UInt8) (a b : Nat), hexV a l = some b → b ≤ M → hexU M a l = .inl b
  | [], a, b, h, _ => by injection h with h; rw [← h]; rfl
  | c :: l, a, b, h, hM => by
    unfold hexV at h
    cases hd : hexD c with
    | none => rw [hd] at h; cases h
    | some d =>
      rw [hd] at h
      have hle := hexV_le l _ _ h
      unfold hexU
      rw [hexE_of hd]
      show (if M < a * 16 + d then _ else _) = _
      rw [if_neg (by omega)]
      exact hexU_of M l _ _ h hM
theorem hexU_le (M : Nat) : ∀ (l : List UInt8) (a b : Nat), a ≤ M → hexU M a l = .inl b → b ≤ M
  | [], a, b, ha, h => by injection h with h; omega
  | c :: l, a, b, ha, h => by
    unfold hexU at h
    cases hd : hexE c with
    | none => rw [hd] at h; cases h
    | some d =>
      rw [hd] at h
      have h : (if M < a * 16 + d then _ else _) = _ := h
      split at h
      · cases h
      · exact hexU_le M l _ _ (by omega) h
/-- From the other end. -/
theorem hexK_snoc : ∀ k u, u < 16 ^ (k + 1) → hexK (k + 1) u = hexK k (u / 16) ++ [dig (u % 16)]
  | 0, u, h => by
    have h : u < 16 := by simpa using h
    show [dig (u / 16 ^ 0)] = [dig (u % 16)]
    rw [Nat.mod_eq_of_lt h]; simp
  | k + 1, u, h => by
    have h2 : u % 16 ^ (k + 1) < 16 ^ (k + 1) := Nat.mod_lt _ (Nat.pow_pos (by decide))
    show dig (u / 16 ^ (k + 1)) :: hexK (k + 1) (u % 16 ^ (k + 1)) = (dig (u / 16 / 16 ^ k) :: hexK k (u / 16 % 16 ^ k)) ++ [dig (u % 16)]
    rw [hexK_snoc k _ h2]
    have e1 : u / 16 / 16 ^ k = u / 16 ^ (k + 1) := by rw [Nat.div_div_eq_div_mul, Nat.pow_succ, Nat.mul_comm]
    have e2 : u % 16 ^ (k + 1) / 16 = u / 16 % 16 ^ k := by rw [Nat.pow_succ, Nat.mul_comm, Nat.mod_mul_right_div_self]
    have e3 : u % 16 ^ (k + 1) % 16 = u % 16 := Nat.mod_mod_of_dvd _ ⟨16 ^ k, by rw [Nat.pow_succ, Nat.mul_comm]⟩
    rw [e1, e2, e3]; rfl
theorem hexK_zero : ∀ k, hexK k 0 = List.replicate k 48
  | 0 => rfl
  | k + 1 => by
    unfold hexK
    rw [Nat.zero_div, Nat.zero_mod, hexK_zero k]; rfl
theorem hexL_lt {u : Nat} (h : u < 16) : hexL u = [dig u] := by unfold hexL; rw [dif_pos h]
theorem hexL_ge {u : Nat} (h : ¬ u < 16) : hexL u = hexL (u / 16) ++ [dig (u % 16)] := by rw [hexL, dif_neg h]
theorem hexL_pad : ∀ k u, u < 16 ^ (k + 1) → (hexL u).length ≤ k + 1 ∧ hexK (k + 1) u = List.replicate (k + 1 - (hexL u).length) 48 ++ hexL u
  | 0, u, h => by
    have h : u < 16 := by simpa using h
    rw [hexL_lt h]
    exact ⟨Nat.le_refl _, by rw [hexK_snoc 0 u (by simpa using h), Nat.mod_eq_of_lt h]; rfl⟩
  | k + 1, u, h => by
    by_cases hu : u < 16
    · rw [hexL_lt hu, hexK_snoc _ _ h, Nat.div_eq_of_lt hu, hexK_zero, Nat.mod_eq_of_lt hu]
      exact ⟨by simp, by simp⟩
    · have h1 : u / 16 < 16 ^ (k + 1) := by
        apply Nat.div_lt_of_lt_mul; rw [Nat.pow_succ, Nat.mul_comm] at h; exact h
      obtain ⟨h2, h3⟩ := hexL_pad k _ h1
      rw [hexL_ge hu, hexK_snoc _ _ h, h3]
      refine ⟨by simp; omega, ?_⟩
      rw [show k + 1 + 1 - (hexL (u / 16) ++ [dig (u % 16)]).length = k + 1 - (hexL (u / 16)).length by simp]
      simp
theorem hexL_length {u : Nat} (h : u < 4294967296) : (hexL u).length ≤ 8 ∧ hexK 8 u = List.replicate (8 - (hexL u).length) 48 ++ hexL u := hexL_pad 7 u (by simpa using h)
theorem hexL_pos (u : Nat) : 0 < (hexL u).length := by
  by_cases h : u < 16
  · rw [hexL_lt h]; simp
  · rw [hexL_ge h]; simp

/-- The text of a number. -/
def txt (b : Nat) : List UInt8 := hexK 8 (cn b)
/-- The number with a text. -/
def numL (l : List UInt8) : Option Nat := if l.length = 8 then (match hexV 0 l with | some b => if cn b = b then some b else none | none => none) else none
theorem cn_lt {b : Nat} (h : b < 4294967296) : cn b < 4294967296 := by
  unfold cn
  cases hn : isN .f32 b
  · rw [cnk_of_not hn]; exact h
  · rw [cnk_of_nan hn]; decide
theorem txt_length (b : Nat) : (txt b).length = 8 := hexK_length 8 _
theorem hexV_txt {b : Nat} (h : b < 4294967296) : hexV 0 (txt b) = some (cn b) := by
  unfold txt
  rw [hexV_hexK 8 0 (cn b) (by simpa using cn_lt h)]; simp
theorem numL_some {l : List UInt8} {b : Nat} (h : numL l = some b) : l.length = 8 ∧ hexV 0 l = some b ∧ cn b = b ∧ b < 4294967296 ∧ l = txt b := by
  unfold numL at h
  split at h
  · rename_i hl
    cases hv : hexV 0 l with
    | none => rw [hv] at h; cases h
    | some b' =>
      rw [hv] at h
      have h : (if cn b' = b' then some b' else none) = some b := h
      split at h
      · rename_i hc
        injection h with h
        subst h
        obtain ⟨u, h1, h2, h3⟩ := hexK_hexV l 0 b' hv
        rw [hl] at h1 h2 h3
        have hu : b' = u := by omega
        subst hu
        exact ⟨hl, rfl, hc, by simpa using h1, by unfold txt; rw [hc]; exact h3⟩
      · cases h
  · cases h
theorem numL_txt {b : Nat} (h : b < 4294967296) : numL (txt b) = some (cn b) := by
  unfold numL
  rw [if_pos (txt_length b), hexV_txt h]
  show (if cn (cn b) = cn b then some (cn b) else none) = _
  exact if_pos (cnk_cnk .f32 b)
theorem numL_cases {l : List UInt8} {n : Nat} (h : hexU 4294967295 0 l = .inl n) : n < 4294967296 ∧ ((txt n = l ∧ numL l = some n) ∨ (txt n ≠ l ∧ numL l = none)) := by
  have hn := hexU_le _ l 0 n (by omega) h
  refine ⟨by omega, ?_⟩
  by_cases ht : txt n = l
  · left
    have e := numL_txt (b := n) (by omega)
    have e2 := hexU_of 4294967295 (txt n) 0 (cn n) (hexV_txt (by omega)) (by have := cn_lt (b := n) (by omega); omega)
    rw [ht, h] at e2
    injection e2 with e2
    rw [ht, ← e2] at e
    exact ⟨ht, e⟩
  · right
    refine ⟨ht, ?_⟩
    cases hm : numL l with
    | none => rfl
    | some b =>
      obtain ⟨h1, h2, h3, h4, h5⟩ := numL_some hm
      have e := hexU_of 4294967295 l 0 b h2 (by omega)
      rw [h] at e
      injection e with e
      exact absurd (by rw [e]; exact h5.symm) ht
theorem numL_none {l : List UInt8} (h : ∀ n, hexU 4294967295 0 l ≠ .inl n) : numL l = none := by
  cases hm : numL l with
  | none => rfl
  | some b =>
    obtain ⟨h1, h2, h3, h4, h5⟩ := numL_some hm
    exact absurd (hexU_of 4294967295 l 0 b h2 (by omega)) (h b)
/-- No text of a number holds a byte that is no digit. -/
theorem numL_digits {l : List UInt8} {b : Nat} (h : numL l = some b) : ∀ c ∈ l, ∃ d, hexD c = some d := by
  have hv := (numL_some h).2.1
  have go : ∀ (l : List UInt8) (a b : Nat), hexV a l = some b → ∀ c ∈ l, ∃ d, hexD c = some d := by
    intro l
    induction l with
    | nil => intro a b _ c hc; cases hc
    | cons x l ih =>
      intro a b h c hc
      unfold hexV at h
      cases hd : hexD x with
      | none => rw [hd] at h; cases h
      | some d =>
        rw [hd] at h
        rcases List.mem_cons.1 hc with rfl | hc
        · exact ⟨d, hd⟩
        · exact ih _ _ h c hc
  exact go l 0 b hv
/-- What a reader gives: the number (0 if there is none), and the code. -/
def numB (l : List UInt8) : Nat := (numL l).getD 0
def numC (l : List UInt8) : Int := if (numL l).isSome then 0 else 5
end Go.Proofs.Ytglimhkpndfjgaa
/- A text cut at the first of some byte, and at all of them: plain laws; no statement is proved here. -/
namespace Go.Proofs.Ytglimhkpndfjgaa
open Go.ChangeShapes Go.WideShapes Go.ChangeAt Go.RowKit
set_option linter.unusedVariables false

theorem index_split (c : UInt8) : ∀ l : List UInt8, (∃ i : Nat, Lib.index l [c] = i ∧ i < l.length ∧ splitL c l = l.take i :: splitL c (l.drop (i + 1))) ∨ (Lib.index l [c] = -1 ∧ splitL c l = [l])
  | [] => .inr ⟨by simp [Lib.index], rfl⟩
  | b :: l => by
    by_cases hb : b = c
    · subst hb
      left
      exact ⟨0, by simp [Lib.index], by simp, by simp [splitL]⟩
    · have hp : ([c].isPrefixOf (b :: l)) = false := by simp [List.isPrefixOf]; intro h; exact hb h.symm
      rcases index_split c l with ⟨i, h1, h2, h3⟩ | ⟨h1, h2⟩
      · left
        refine ⟨i + 1, ?_, by simp; omega, ?_⟩
        · rw [Lib.index, hp, h1]
          simp
        · rw [splitL, if_neg hb, h3]; simp
      · right
        refine ⟨?_, ?_⟩
        · rw [Lib.index, hp, h1]; simp
        · rw [splitL, if_neg hb, h2]
theorem cut_split (c : UInt8) (l : List UInt8) : (∃ p q, Lib.cut l [c] = (p, q, true) ∧ splitL c l = p :: splitL c q) ∨ (Lib.cut l [c] = (l, [], false) ∧ splitL c l = [l]) := by
  rcases index_split c l with ⟨i, h1, h2, h3⟩ | ⟨h1, h2⟩
  · left
    refine ⟨l.take i, l.drop (i + 1), ?_, h3⟩
    unfold Lib.cut
    rw [h1, if_pos (by omega)]
    rfl
  · right
    refine ⟨?_, h2⟩
    unfold Lib.cut
    rw [h1, if_neg (by decide)]
theorem splitL_one {c : UInt8} : ∀ {l : List UInt8}, c ∉ l → splitL c l = [l]
  | [], _ => rfl
  | x :: l, h => by
    rw [splitL, if_neg (fun e => h (by rw [e]; exact List.mem_cons_self)), splitL_one (fun e => h (List.mem_cons_of_mem _ e))]
theorem splitL_mem {c : UInt8} : ∀ {l : List UInt8}, c ∈ l → 2 ≤ (splitL c l).length
  | [], h => by cases h
  | x :: l, h => by
    rw [splitL]
    split
    · have := List.length_pos_iff.2 (splitL_ne c l)
      simp; omega
    · rename_i hx
      have hm : c ∈ l := by
        rcases List.mem_cons.1 h with e | e
        · exact absurd e.symm hx
        · exact e
      have ih := splitL_mem hm
      cases hs : splitL c l with
      | nil => rw [hs] at ih; simp at ih
      | cons a t => rw [hs] at ih; simpa using ih
theorem numL_nil : numL [] = none := rfl
theorem numL_space {l : List UInt8} (h : (32 : UInt8) ∈ l) : numL l = none := by
  cases hm : numL l with
  | none => rfl
  | some b =>
    obtain ⟨d, hd⟩ := numL_digits hm 32 h
    exact absurd (hd.symm.trans (show hexD 32 = none by decide)) (by simp)
theorem numC_none {l : List UInt8} (h : numL l = none) : numC l = 5 := by unfold numC; rw [h]; rfl
theorem numC_cases (l : List UInt8) : numC l = 0 ∨ numC l = 5 := by
  unfold numC; cases numL l <;> simp
/-- The two halves of a text, and what the reference's words have to do with them. -/
theorem wave_words (l : List UInt8) : (splitL 32 l = [(Lib.cut l [32]).1, (Lib.cut l [32]).2.1]) ∨ ((splitL 32 l).length ≠ 2 ∧ numC (Lib.cut l [32]).2.1 = 5) := by
  rcases cut_split 32 l with ⟨p, q, h1, h2⟩ | ⟨h1, h2⟩
  · rw [h1]
    by_cases hq : (32 : UInt8) ∈ q
    · right
      have := splitL_mem hq
      exact ⟨by rw [h2]; simp; omega, numC_none (numL_space hq)⟩
    · left
      rw [h2, splitL_one hq]
  · right
    rw [h1, h2]
    exact ⟨by simp, numC_none numL_nil⟩
end Go.Proofs.Ytglimhkpndfjgaa
