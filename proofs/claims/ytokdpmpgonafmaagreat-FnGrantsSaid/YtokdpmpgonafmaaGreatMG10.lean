import Derived.Test.YtokdpmpgonafmaaGreatMG07
import Derived.Test.YtokdpmpgonafmaaGreatMG09
/- What flows in a ground, as plain numbers: balances, steps, sweeps; what a valid ground's numbers are. Plain laws; no statement is proved here. -/
namespace Go.Proofs.YtokdpmpgonafmaaGreat
open Go.ChangeShapes Go.WideShapes Go.ChangeAt Go.RowKit
set_option linter.unusedVariables false
set_option linter.unusedSimpArgs false

/-! ### Numbers that are alike. -/
theorem fop_cn (op : BinOp) (x y : Nat) : fop op (cn x) (cn y) = fop op x y := by unfold fop cn; rw [bits_cn]
theorem fop_eq {op : BinOp} {x y x' y' : Nat} (h : cn x = cn x') (h' : cn y = cn y') : fop op x y = fop op x' y' := by rw [← fop_cn op x y, h, h', fop_cn]
theorem cn_cn (x : Nat) : cn (cn x) = cn x := cnk_cnk _ _
theorem cn_fop (op : BinOp) (x y : Nat) : cn (fop op x y) = fop op x y := cnk_cnk _ _
theorem cn_res (op : BinOp) (x y : Nat) (w : World) : cn (fres op x y w) = fop op x y := by rw [cn_fres, fop_cn]
theorem cn_num {b : Nat} (h : isN .f32 b = false) : cn b = b := cnk_of_not h
theorem isN_cn (b : Nat) : isN .f32 (cn b) = isN .f32 b := isN_cnk _ _
@[irreducible] def fgt (a b : Nat) : Bool := FloatKind.f32.format.order a b == some .gt
theorem fgt_eq (a b : Nat) : (FloatKind.f32.format.order a b == some .gt) = fgt a b := by unfold fgt; rfl
theorem fge_cn (x y : Nat) : fge (cn x) (cn y) = fge x y := by unfold fge cn; rw [order_cn]
theorem fle_cn (x y : Nat) : fle (cn x) (cn y) = fle x y := by unfold fle cn; rw [order_cn]
theorem flt_cn (x y : Nat) : flt (cn x) (cn y) = flt x y := by unfold flt cn; rw [order_cn]
theorem fgt_cn (x y : Nat) : fgt (cn x) (cn y) = fgt x y := by unfold fgt cn; rw [order_cn]
theorem feq_cn (x y : Nat) : feq (cn x) (cn y) = feq x y := by unfold feq cn; rw [order_cn]
theorem fge_al {x x' : Nat} (h : cn x = cn x') (y : Nat) : fge x y = fge x' y := by rw [← fge_cn, h, fge_cn]
theorem fle_al {x x' : Nat} (h : cn x = cn x') (y : Nat) : fle x y = fle x' y := by rw [← fle_cn, h, fle_cn]
theorem flt_al {x x' : Nat} (h : cn x = cn x') (y : Nat) : flt x y = flt x' y := by rw [← flt_cn, h, flt_cn]
theorem fgt_al {x x' : Nat} (h : cn x = cn x') (y : Nat) : fgt x y = fgt x' y := by rw [← fgt_cn, h, fgt_cn]
theorem feq_al {x x' : Nat} (h : cn x = cn x') (y : Nat) : feq x y = feq x' y := by rw [← feq_cn, h, feq_cn]
theorem fgt_al2 {x x' y y' : Nat} (h : cn x = cn x') (h' : cn y = cn y') : fgt x y = fgt x' y' := by rw [← fgt_cn, h, h', fgt_cn]
theorem flt_al2 {x x' y y' : Nat} (h : cn x = cn x') (h' : cn y = cn y') : flt x y = flt x' y' := by rw [← flt_cn, h, h', flt_cn]
theorem fge_al2 {x x' y y' : Nat} (h : cn x = cn x') (h' : cn y = cn y') : fge x y = fge x' y' := by rw [← fge_cn, h, h', fge_cn]
theorem fle_al2 {x x' y y' : Nat} (h : cn x = cn x') (h' : cn y = cn y') : fle x y = fle x' y' := by rw [← fle_cn, h, h', fle_cn]
theorem feq_al2 {x x' y y' : Nat} (h : cn x = cn x') (h' : cn y = cn y') : feq x y = feq x' y' := by rw [← feq_cn, h, h', feq_cn]
theorem fop_res_l (op op' : BinOp) (x y z : Nat) (w : World) : fop op (fres op' x y w) z = fop op (fop op' x y) z := fop_eq (by rw [cn_res, cn_fop]) rfl
theorem fop_res_r (op op' : BinOp) (x y z : Nat) (w : World) : fop op z (fres op' x y w) = fop op z (fop op' x y) := fop_eq rfl (by rw [cn_res, cn_fop])
theorem plain_al {x x' : Nat} (h : cn x = cn x') : plain x = plain x' := by unfold plain; rw [fge_al h, fle_al h]
theorem amount_al {x x' : Nat} (h : cn x = cn x') : amount x = amount x' := by unfold amount; rw [plain_al h, fge_al h]
theorem al_eq {x x' : Nat} (h : cn x = cn x') (hn : isN .f32 x' = false) : x = x' := by
  have h2 : isN .f32 x = false := by rw [← isN_cn, h, isN_cn, hn]
  rw [cn_num h2, cn_num hn] at h; exact h

/-! ### What flows. -/
/-- The joint of two conductances. -/
def joint (a b : Nat) : Nat := if fgt a 0 && fgt b 0 then fop .quo (fop .mul 1073741824 (fop .mul a b)) (fop .add a b) else 0
theorem joint_al {a a' b b' : Nat} (h : cn a = cn a') (h' : cn b = cn b') : joint a b = joint a' b' := by
  unfold joint; rw [fgt_al h, fgt_al h', fop_eq h h' (op := .mul), fop_eq h h' (op := .add)]
theorem cn_joint (a b : Nat) : cn (joint a b) = joint a b := by
  unfold joint; split
  · exact cn_fop _ _ _
  · decide
/-- The cell on a side of a cell, or -1. -/
def besX (c s : Nat) : Int := (c : Int) % 8 + (if s = 1 then 1 else if s = 3 then -1 else 0)
def besY (c s : Nat) : Int := (c : Int) / 8 + (if s = 0 then -1 else if s = 2 then 1 else 0)
def besIn (g : Gr) (c s : Nat) : Bool := (decide (0 ≤ besX c s) && decide (besX c s < g.wide)) && (decide (0 ≤ besY c s) && decide (besY c s < g.high))
def bes (g : Gr) (c s : Nat) : Int := if besIn g c s then besX c s + 8 * besY c s else -1
/-- Not greater than there is room. -/
def Gr.small (g : Gr) : Prop := g.wide ≤ 8 ∧ g.high ≤ 8
theorem bes_lt {g : Gr} (hs : g.small) (c s : Nat) : -1 ≤ bes g c s ∧ bes g c s < 64 := by
  obtain ⟨h1, h2⟩ := hs
  unfold bes besIn
  split
  · rename_i h; simp at h; omega
  · omega
/-- Is there a neighbour? -/
def nbr (g : Gr) (c s : Nat) : Bool := decide (0 ≤ bes g c s)
def nx (g : Gr) (c s : Nat) : Nat := (bes g c s).toNat
theorem nx_lt {g : Gr} (hs : g.small) (c s : Nat) : nx g c s < 64 := by have := bes_lt hs c s; unfold nx; omega
/-- What flows to the neighbour. -/
def flw (g : Gr) (c s : Nat) : Nat := fop .mul (joint (g.con c) (g.con (nx g c s))) (fop .sub (g.hea c) (g.hea (nx g c s)))
/-- The balance behind the first k sides. -/
def balTo (g : Gr) (c : Nat) : Nat → Nat
  | 0 => cn (g.gai c)
  | k + 1 => if nbr g c k then fop .sub (balTo g c k) (flw g c k) else balTo g c k
def bal (g : Gr) (c : Nat) : Nat := balTo g c 4
theorem cn_balTo (g : Gr) (c k : Nat) : cn (balTo g c k) = balTo g c k := by
  induction k with
  | zero => exact cn_cn _
  | succ k ih => unfold balTo; split
                 · exact cn_fop _ _ _
                 · exact ih
/-- Is a number finite? -/
def fin (b : Nat) : Bool := feq (fop .sub b b) 0
theorem fin_al {b b' : Nat} (h : cn b = cn b') : fin b = fin b' := by unfold fin; rw [fop_eq h h]
def notFin (g : Gr) (k : Nat) : Bool := isC g k && !fin (bal g k)
def balsOk (g : Gr) : Bool := !anyTo (notFin g) (fun i => i) 64
/-- Is cell k fixed? -/
@[irreducible] def isFx (g : Gr) (k : Nat) : Bool := decide (g.fix / 2 ^ k % 2 = 1)

/-! ### Grounds that are alike. -/
theorem isC_eq {g g' : Gr} (h1 : g.wide = g'.wide) (h2 : g.high = g'.high) (k : Nat) : isC g k = isC g' k := by unfold isC; rw [h1, h2]
theorem cellsTo_eq {g g' : Gr} (h1 : g.wide = g'.wide) (h2 : g.high = g'.high) (k : Nat) : cellsTo g k = cellsTo g' k := by
  unfold cellsTo; congr 1; funext i; exact isC_eq h1 h2 i
theorem anyTo_congr {α : Type} {q q' : α → Bool} {P P' : Nat → α} : ∀ {n : Nat}, (∀ i, i < n → q (P i) = q' (P' i)) → anyTo q P n = anyTo q' P' n
  | 0, _ => rfl
  | n + 1, h => by simp only [anyTo]; rw [anyTo_congr (fun i hi => h i (by omega)), h n (by omega)]
theorem fieldIs_al {q : Nat → Bool} (hq : ∀ a b, cn a = cn b → q a = q b) {g g' : Gr} (h1 : g.wide = g'.wide) (h2 : g.high = g'.high) {f f' : Nat → Nat} (hf : ∀ k, k < 64 → cn (f k) = cn (f' k)) : fieldIs q g f = fieldIs q g' f' := by
  unfold fieldIs
  rw [anyTo_congr (q' := badAt q g' f') (P' := fun i => i) fun i hi => by unfold badAt; rw [isC_eq h1 h2, hq _ _ (hf i hi), feq_al (hf i hi)]]
theorem validG_al {g g' : Gr} (h : GrEq g g') : validG g = validG g' := by
  unfold validG fixOk
  rw [h.wide, h.high, h.fix, cellsTo_eq h.wide h.high, fieldIs_al (fun _ _ => amount_al) h.wide h.high h.con, fieldIs_al (fun _ _ => plain_al) h.wide h.high h.gai, fieldIs_al (fun _ _ => plain_al) h.wide h.high h.hea]
theorem fieldIs_at {q : Nat → Bool} {g : Gr} {f : Nat → Nat} (h : fieldIs q g f = true) (k : Nat) (hk : k < 64) : (isC g k = true → q (f k) = true) ∧ (isC g k = false → feq (f k) 0 = true) := by
  unfold fieldIs at h
  have h1 := anyTo_false.1 (by simpa using h) k hk
  unfold badAt at h1
  cases hc : isC g k <;> simp [hc] at h1 ⊢ <;> exact h1
theorem feq_num {a : Nat} (h : feq a 0 = true) : isN .f32 a = false := by
  cases hn : isN .f32 a
  · rfl
  · unfold feq at h; rw [order_nan_left hn] at h; simp at h
theorem amount_num {a : Nat} (h : amount a = true) : isN .f32 a = false := plain_num (by unfold amount at h; exact (Bool.and_eq_true_iff.1 h).1)
theorem fieldIs_num {q : Nat → Bool} (hq : ∀ a, q a = true → isN .f32 a = false) {g : Gr} {f : Nat → Nat} (h : fieldIs q g f = true) (k : Nat) (hk : k < 64) : isN .f32 (f k) = false := by
  have h1 := fieldIs_at h k hk
  cases hc : isC g k
  · exact feq_num (h1.2 hc)
  · exact hq _ (h1.1 hc)
theorem validG_parts {g : Gr} (h : validG g = true) : (2 ≤ g.wide ∧ g.wide ≤ 8) ∧ (2 ≤ g.high ∧ g.high ≤ 8) ∧ fieldIs amount g g.con = true ∧ fieldIs plain g g.gai = true ∧ fieldIs plain g g.hea = true ∧ fixOk g = true := by
  unfold validG at h
  simp only [Bool.and_eq_true, decide_eq_true_eq] at h
  exact h
theorem validG_small {g : Gr} (h : validG g = true) : g.small := by have := validG_parts h; exact ⟨this.1.2, this.2.1.2⟩
/-- Cells depend on the numbers that there are. -/
theorem Gr.cells_eq {g g' : Gr} (h0 : g.wide = g'.wide) (h1 : g.high = g'.high) (hf : g.fix = g'.fix) (hc : ∀ k, k < 64 → g.con k = g'.con k) (hg : ∀ k, k < 64 → g.gai k = g'.gai k) (hh : ∀ k, k < 64 → g.hea k = g'.hea k) : g.cells = g'.cells := by
  apply Gr.cells_of
  · exact g.size
  · intro i hi
    rw [g.get i hi]
    unfold Gr.at
    congr 1
    by_cases i0 : i = 0
    · simp [i0, h0]
    · by_cases i1 : i = 1
      · simp [i1, h1]
      · simp only [i0, i1, if_false]
        by_cases i2 : i < 66
        · simp only [i2, if_true]; rw [hc _ (by omega)]
        · by_cases i3 : i < 130
          · simp only [i2, i3, if_true, if_false]; rw [hg _ (by omega)]
          · by_cases i4 : i < 194
            · simp only [i2, i3, i4, if_true, if_false]; rw [hh _ (by omega)]
            · simp only [i2, i3, i4, if_false]; rw [hf]
/-- A ground that is alike to a valid one is that one. -/
theorem GrEq.cells {g g' : Gr} (h : GrEq g g') (hv : validG g' = true) : g.cells = g'.cells := by
  obtain ⟨_, _, hc, hg, hh, _⟩ := validG_parts hv
  exact Gr.cells_eq h.wide h.high h.fix (fun k hk => al_eq (h.con k hk) (fieldIs_num (fun _ => amount_num) hc k hk)) (fun k hk => al_eq (h.gai k hk) (fieldIs_num (fun _ => plain_num) hg k hk)) (fun k hk => al_eq (h.hea k hk) (fieldIs_num (fun _ => plain_num) hh k hk))
theorem GrEq.symm {g g' : Gr} (h : GrEq g g') : GrEq g' g := ⟨h.wide.symm, h.high.symm, h.fix.symm, fun k hk => (h.con k hk).symm, fun k hk => (h.gai k hk).symm, fun k hk => (h.hea k hk).symm⟩
theorem GrEq.trans {g g' g'' : Gr} (h : GrEq g g') (h' : GrEq g' g'') : GrEq g g'' := ⟨h.wide.trans h'.wide, h.high.trans h'.high, h.fix.trans h'.fix, fun k hk => (h.con k hk).trans (h'.con k hk), fun k hk => (h.gai k hk).trans (h'.gai k hk), fun k hk => (h.hea k hk).trans (h'.hea k hk)⟩
theorem bes_eq {g g' : Gr} (h1 : g.wide = g'.wide) (h2 : g.high = g'.high) (c s : Nat) : bes g c s = bes g' c s := by unfold bes besIn; rw [h1, h2]
theorem flw_al {g g' : Gr} (hs : g.small) (h : GrEq g g') (c s : Nat) (hc : c < 64) : flw g c s = flw g' c s := by
  have hn := nx_lt hs c s
  have e : nx g' c s = nx g c s := by unfold nx; rw [bes_eq h.wide h.high]
  unfold flw
  rw [e, joint_al (h.con c hc) (h.con _ hn), fop_eq (h.hea c hc) (h.hea _ hn)]
theorem balTo_al {g g' : Gr} (hs : g.small) (h : GrEq g g') (c : Nat) (hc : c < 64) : ∀ k, balTo g c k = balTo g' c k
  | 0 => h.gai c hc
  | k + 1 => by unfold balTo; rw [balTo_al hs h c hc k, flw_al hs h c k hc]; unfold nbr; rw [bes_eq h.wide h.high]

/-! ### Steps. -/
def zeroG : Gr := ⟨0, 0, fun _ => 0, fun _ => 0, fun _ => 0, 0⟩
/-- The head of a cell behind a step. -/
def stepH (g : Gr) (part : Nat) (k : Nat) : Nat := if isC g k && !isFx g k then fop .add (g.hea k) (fop .mul part (bal g k)) else g.hea k
def stepG (g : Gr) (part : Nat) : Gr := { g with hea := stepH g part }
/-- Is there a step? -/
def stepIs (g : Gr) (part : Nat) : Bool := balsOk g && validG (stepG g part)
def stepR (g : Gr) (part : Nat) : Gr := if stepIs g part then stepG g part else zeroG
def stepC (g : Gr) (part : Nat) : Int := if stepIs g part then 0 else 4

/-! ### Settled heads. -/
def aboveTo (g : Gr) (c : Nat) : Nat → Nat
  | 0 => cn (g.gai c)
  | k + 1 => if nbr g c k then fop .add (aboveTo g c k) (fop .mul (joint (g.con c) (g.con (nx g c k))) (g.hea (nx g c k))) else aboveTo g c k
def belowTo (g : Gr) (c : Nat) : Nat → Nat
  | 0 => 0
  | k + 1 => if nbr g c k then fop .add (belowTo g c k) (joint (g.con c) (g.con (nx g c k))) else belowTo g c k
def sett (g : Gr) (c : Nat) : Nat := if isFx g c || feq (belowTo g c 4) 0 then cn (g.hea c) else fop .quo (aboveTo g c 4) (belowTo g c 4)
theorem aboveTo_al {g g' : Gr} (hs : g.small) (h : GrEq g g') (c : Nat) (hc : c < 64) : ∀ k, aboveTo g c k = aboveTo g' c k
  | 0 => h.gai c hc
  | k + 1 => by
    have hn := nx_lt hs c k
    have e : nx g' c k = nx g c k := by unfold nx; rw [bes_eq h.wide h.high]
    unfold aboveTo
    rw [aboveTo_al hs h c hc k, e, joint_al (h.con c hc) (h.con _ hn), fop_eq (op := .mul) rfl (h.hea _ hn)]
    unfold nbr; rw [bes_eq h.wide h.high]
theorem belowTo_al {g g' : Gr} (hs : g.small) (h : GrEq g g') (c : Nat) (hc : c < 64) : ∀ k, belowTo g c k = belowTo g' c k
  | 0 => rfl
  | k + 1 => by
    have hn := nx_lt hs c k
    have e : nx g' c k = nx g c k := by unfold nx; rw [bes_eq h.wide h.high]
    unfold belowTo
    rw [belowTo_al hs h c hc k, e, joint_al (h.con c hc) (h.con _ hn)]
    unfold nbr; rw [bes_eq h.wide h.high]
theorem sett_al {g g' : Gr} (hs : g.small) (h : GrEq g g') (c : Nat) (hc : c < 64) : sett g c = sett g' c := by
  unfold sett
  rw [aboveTo_al hs h c hc, belowTo_al hs h c hc, h.hea c hc]
  have : isFx g c = isFx g' c := by unfold isFx; rw [h.fix]
  rw [this]
theorem cn_sett (g : Gr) (c : Nat) : cn (sett g c) = sett g c := by
  unfold sett; split
  · exact cn_cn _
  · exact cn_fop _ _ _
/-- The ground behind the first k cells of a sweep. -/
def sweepTo (g : Gr) : Nat → Gr
  | 0 => g
  | k + 1 => if isC g k then { sweepTo g k with hea := upd (sweepTo g k).hea k (sett (sweepTo g k) k) } else sweepTo g k
theorem sweepTo_same (g : Gr) : ∀ k, (sweepTo g k).wide = g.wide ∧ (sweepTo g k).high = g.high ∧ (sweepTo g k).fix = g.fix ∧ (sweepTo g k).con = g.con ∧ (sweepTo g k).gai = g.gai
  | 0 => ⟨rfl, rfl, rfl, rfl, rfl⟩
  | k + 1 => by unfold sweepTo; split <;> exact sweepTo_same g k
theorem GrEq.upd {g g' : Gr} (h : GrEq g g') {k b b' : Nat} (hb : cn b = cn b') : GrEq { g with hea := upd g.hea k b } { g' with hea := upd g'.hea k b' } :=
  ⟨h.wide, h.high, h.fix, h.con, h.gai, fun i hi => by
    unfold Go.Proofs.YtokdpmpgonafmaaGreat.upd
    by_cases hik : i = k
    · simp only [hik, if_true]; exact hb
    · simp only [hik, if_false]; exact h.hea i hi⟩
end Go.Proofs.YtokdpmpgonafmaaGreat
/- The neighbour of a cell: the walks through the program's function and the reference's. -/
namespace Go.Proofs.YtokdpmpgonafmaaGreat
open Go.ChangeShapes Go.WideShapes Go.ChangeAt Go.RowKit
set_option linter.unusedVariables false
set_option linter.unusedSimpArgs false
attribute [local irreducible] Calls

set_option maxRecDepth 100000 in
set_option maxHeartbeats 800000 in
theorem beside_any (g : Gr) (b : Nat) (c s : Nat) (hg : g.ok) (hc : c < 64) (hs : s < 4) (w : World) (hb : GAt w b g) :
    Calls Tryz.prog 133 #[.pointer (some ⟨b, 0, none⟩), .int .i64 c, .int .i64 s] w fun e w' => e = .returned (.int .i64 (bes g c s)) ∧ w' = w := by
  obtain ⟨h1, h2, h3⟩ := hg
  have c0 : w.cell? ⟨b, 0, none⟩ = some (.int .i8 g.wide) := hb.get0
  have c1 : w.cell? ⟨b, 1, none⟩ = some (.int .i8 g.high) := hb.get1
  have bk : (0 : Int) ≤ c := by omega
  have bl : (c : Int) < 64 := by omega
  have H : ∀ r, r = bes g c s → ∀ w', w' = w → (Ending.returned (.int .i64 r) = .returned (.int .i64 (bes g c s)) ∧ w' = w) := fun r h w' h' => ⟨by rw [h], h'⟩
  match s, hs with
  | 0, _ | 1, _ | 2, _ | 3, _ =>
    go_enter Tryz.func133, Tryz.ntmps133
    go_wp2_with fail
    all_goals
      go_ret
      exact H _ (by unfold bes besIn besX besY; simp; omega) _ rfl

set_option maxRecDepth 100000 in
set_option maxHeartbeats 400000 in
theorem l01Beside_0 (g : Gr) (b : Nat) (c : Nat) (hg : g.ok) (hc : c < 64) (w : World) (hb : GAt w b g) :
    Calls Tryz.prog 143 #[.pointer (some ⟨b, 0, none⟩), .int .i64 c, .int .i64 0] w fun e w' => e = .returned (.int .i64 (bes g c 0)) ∧ w' = w := by
  obtain ⟨h1, h2, h3⟩ := hg
  have c0 : w.cell? ⟨b, 0, none⟩ = some (.int .i8 g.wide) := hb.get0
  have c1 : w.cell? ⟨b, 1, none⟩ = some (.int .i8 g.high) := hb.get1
  have bk : (0 : Int) ≤ c := by omega
  have bl : (c : Int) < 64 := by omega
  by_cases hx : 0 ≤ (c : Int) % 8 ∧ (c : Int) % 8 < g.wide
  · have d1 : (decide (0 ≤ (c : Int) % 8) && decide ((c : Int) % 8 ≤ g.wide - 1)) = true := by simp; omega
    by_cases hy : 0 ≤ (c : Int) / 8 - 1 ∧ (c : Int) / 8 - 1 < g.high
    · have d2 : (decide (0 ≤ (c : Int) / 8 - 1) && decide ((c : Int) / 8 - 1 ≤ g.high - 1)) = true := by simp; omega
      have HB : Hid (bes g c 0 = (c : Int) % 8 + 8 * ((c : Int) / 8 - 1)) := Lib.hid (by unfold bes besIn besX besY; simp; omega)
      have HD := Lib.hid (And.intro hx hy)
      clear hx hy
      go_enter Tryz.func143, Tryz.ntmps143
      go_wp2_with (go_at_call 86; refine (l00In_any _ _ _ _).mono ?_; (first | rw [d1] | rw [d2]); rintro e w' ⟨rfl, hw⟩; rw [hw]; clear hw w')
      go_ret
      exact ⟨int_eq HB.out.symm, rfl⟩
    · have d2 : (decide (0 ≤ (c : Int) / 8 - 1) && decide ((c : Int) / 8 - 1 ≤ g.high - 1)) = false := by simp; omega
      have HB : Hid (bes g c 0 = -1) := Lib.hid (by unfold bes besIn besX besY; simp; omega)
      clear hx hy
      go_enter Tryz.func143, Tryz.ntmps143
      go_wp2_with (go_at_call 86; refine (l00In_any _ _ _ _).mono ?_; (first | rw [d1] | rw [d2]); rintro e w' ⟨rfl, hw⟩; rw [hw]; clear hw w')
      go_ret
      exact ⟨int_eq HB.out.symm, rfl⟩
  · have d1 : (decide (0 ≤ (c : Int) % 8) && decide ((c : Int) % 8 ≤ g.wide - 1)) = false := by simp; omega
    have HB : Hid (bes g c 0 = -1) := Lib.hid (by unfold bes besIn besX besY; simp; omega)
    clear hx
    go_enter Tryz.func143, Tryz.ntmps143
    go_wp2_with (go_at_call 86; refine (l00In_any _ _ _ _).mono ?_; rw [d1]; rintro e w' ⟨rfl, hw⟩; rw [hw]; clear hw w')
    go_ret
    exact ⟨int_eq HB.out.symm, rfl⟩
set_option maxRecDepth 100000 in
set_option maxHeartbeats 400000 in
theorem l01Beside_1 (g : Gr) (b : Nat) (c : Nat) (hg : g.ok) (hc : c < 64) (w : World) (hb : GAt w b g) :
    Calls Tryz.prog 143 #[.pointer (some ⟨b, 0, none⟩), .int .i64 c, .int .i64 1] w fun e w' => e = .returned (.int .i64 (bes g c 1)) ∧ w' = w := by
  obtain ⟨h1, h2, h3⟩ := hg
  have c0 : w.cell? ⟨b, 0, none⟩ = some (.int .i8 g.wide) := hb.get0
  have c1 : w.cell? ⟨b, 1, none⟩ = some (.int .i8 g.high) := hb.get1
  have bk : (0 : Int) ≤ c := by omega
  have bl : (c : Int) < 64 := by omega
  by_cases hx : 0 ≤ (c : Int) % 8 + 1 ∧ (c : Int) % 8 + 1 < g.wide
  · have d1 : (decide (0 ≤ (c : Int) % 8 + 1) && decide ((c : Int) % 8 + 1 ≤ g.wide - 1)) = true := by simp; omega
    by_cases hy : 0 ≤ (c : Int) / 8 ∧ (c : Int) / 8 < g.high
    · have d2 : (decide (0 ≤ (c : Int) / 8) && decide ((c : Int) / 8 ≤ g.high - 1)) = true := by simp; omega
      have HB : Hid (bes g c 1 = (c : Int) % 8 + 1 + 8 * ((c : Int) / 8)) := Lib.hid (by unfold bes besIn besX besY; simp; omega)
      have HD := Lib.hid (And.intro hx hy)
      clear hx hy
      go_enter Tryz.func143, Tryz.ntmps143
      go_wp2_with (go_at_call 86; refine (l00In_any _ _ _ _).mono ?_; (first | rw [d1] | rw [d2]); rintro e w' ⟨rfl, hw⟩; rw [hw]; clear hw w')
      go_ret
      exact ⟨int_eq HB.out.symm, rfl⟩
    · have d2 : (decide (0 ≤ (c : Int) / 8) && decide ((c : Int) / 8 ≤ g.high - 1)) = false := by simp; omega
      have HB : Hid (bes g c 1 = -1) := Lib.hid (by unfold bes besIn besX besY; simp; omega)
      clear hx hy
      go_enter Tryz.func143, Tryz.ntmps143
      go_wp2_with (go_at_call 86; refine (l00In_any _ _ _ _).mono ?_; (first | rw [d1] | rw [d2]); rintro e w' ⟨rfl, hw⟩; rw [hw]; clear hw w')
      go_ret
      exact ⟨int_eq HB.out.symm, rfl⟩
  · have d1 : (decide (0 ≤ (c : Int) % 8 + 1) && decide ((c : Int) % 8 + 1 ≤ g.wide - 1)) = false := by simp; omega
    have HB : Hid (bes g c 1 = -1) := Lib.hid (by unfold bes besIn besX besY; simp; omega)
    clear hx
    go_enter Tryz.func143, Tryz.ntmps143
    go_wp2_with (go_at_call 86; refine (l00In_any _ _ _ _).mono ?_; rw [d1]; rintro e w' ⟨rfl, hw⟩; rw [hw]; clear hw w')
    go_ret
    exact ⟨int_eq HB.out.symm, rfl⟩
set_option maxRecDepth 100000 in
set_option maxHeartbeats 400000 in
theorem l01Beside_2 (g : Gr) (b : Nat) (c : Nat) (hg : g.ok) (hc : c < 64) (w : World) (hb : GAt w b g) :
    Calls Tryz.prog 143 #[.pointer (some ⟨b, 0, none⟩), .int .i64 c, .int .i64 2] w fun e w' => e = .returned (.int .i64 (bes g c 2)) ∧ w' = w := by
  obtain ⟨h1, h2, h3⟩ := hg
  have c0 : w.cell? ⟨b, 0, none⟩ = some (.int .i8 g.wide) := hb.get0
  have c1 : w.cell? ⟨b, 1, none⟩ = some (.int .i8 g.high) := hb.get1
  have bk : (0 : Int) ≤ c := by omega
  have bl : (c : Int) < 64 := by omega
  by_cases hx : 0 ≤ (c : Int) % 8 ∧ (c : Int) % 8 < g.wide
  · have d1 : (decide (0 ≤ (c : Int) % 8) && decide ((c : Int) % 8 ≤ g.wide - 1)) = true := by simp; omega
    by_cases hy : 0 ≤ (c : Int) / 8 + 1 ∧ (c : Int) / 8 + 1 < g.high
    · have d2 : (decide (0 ≤ (c : Int) / 8 + 1) && decide ((c : Int) / 8 + 1 ≤ g.high - 1)) = true := by simp; omega
      have HB : Hid (bes g c 2 = (c : Int) % 8 + 8 * ((c : Int) / 8 + 1)) := Lib.hid (by unfold bes besIn besX besY; simp; omega)
      have HD := Lib.hid (And.intro hx hy)
      clear hx hy
      go_enter Tryz.func143, Tryz.ntmps143
      go_wp2_with (go_at_call 86; refine (l00In_any _ _ _ _).mono ?_; (first | rw [d1] | rw [d2]); rintro e w' ⟨rfl, hw⟩; rw [hw]; clear hw w')
      go_ret
      exact ⟨int_eq HB.out.symm, rfl⟩
    · have d2 : (decide (0 ≤ (c : Int) / 8 + 1) && decide ((c : Int) / 8 + 1 ≤ g.high - 1)) = false := by simp; omega
      have HB : Hid (bes g c 2 = -1) := Lib.hid (by unfold bes besIn besX besY; simp; omega)
      clear hx hy
      go_enter Tryz.func143, Tryz.ntmps143
      go_wp2_with (go_at_call 86; refine (l00In_any _ _ _ _).mono ?_; (first | rw [d1] | rw [d2]); rintro e w' ⟨rfl, hw⟩; rw [hw]; clear hw w')
      go_ret
      exact ⟨int_eq HB.out.symm, rfl⟩
  · have d1 : (decide (0 ≤ (c : Int) % 8) && decide ((c : Int) % 8 ≤ g.wide - 1)) = false := by simp; omega
    have HB : Hid (bes g c 2 = -1) := Lib.hid (by unfold bes besIn besX besY; simp; omega)
    clear hx
    go_enter Tryz.func143, Tryz.ntmps143
    go_wp2_with (go_at_call 86; refine (l00In_any _ _ _ _).mono ?_; rw [d1]; rintro e w' ⟨rfl, hw⟩; rw [hw]; clear hw w')
    go_ret
    exact ⟨int_eq HB.out.symm, rfl⟩
set_option maxRecDepth 100000 in
set_option maxHeartbeats 400000 in
theorem l01Beside_3 (g : Gr) (b : Nat) (c : Nat) (hg : g.ok) (hc : c < 64) (w : World) (hb : GAt w b g) :
    Calls Tryz.prog 143 #[.pointer (some ⟨b, 0, none⟩), .int .i64 c, .int .i64 3] w fun e w' => e = .returned (.int .i64 (bes g c 3)) ∧ w' = w := by
  obtain ⟨h1, h2, h3⟩ := hg
  have c0 : w.cell? ⟨b, 0, none⟩ = some (.int .i8 g.wide) := hb.get0
  have c1 : w.cell? ⟨b, 1, none⟩ = some (.int .i8 g.high) := hb.get1
  have bk : (0 : Int) ≤ c := by omega
  have bl : (c : Int) < 64 := by omega
  by_cases hx : 0 ≤ (c : Int) % 8 - 1 ∧ (c : Int) % 8 - 1 < g.wide
  · have d1 : (decide (0 ≤ (c : Int) % 8 - 1) && decide ((c : Int) % 8 - 1 ≤ g.wide - 1)) = true := by simp; omega
    by_cases hy : 0 ≤ (c : Int) / 8 ∧ (c : Int) / 8 < g.high
    · have d2 : (decide (0 ≤ (c : Int) / 8) && decide ((c : Int) / 8 ≤ g.high - 1)) = true := by simp; omega
      have HB : Hid (bes g c 3 = (c : Int) % 8 - 1 + 8 * ((c : Int) / 8)) := Lib.hid (by unfold bes besIn besX besY; simp; omega)
      have HD := Lib.hid (And.intro hx hy)
      clear hx hy
      go_enter Tryz.func143, Tryz.ntmps143
      go_wp2_with (go_at_call 86; refine (l00In_any _ _ _ _).mono ?_; (first | rw [d1] | rw [d2]); rintro e w' ⟨rfl, hw⟩; rw [hw]; clear hw w')
      go_ret
      exact ⟨int_eq HB.out.symm, rfl⟩
    · have d2 : (decide (0 ≤ (c : Int) / 8) && decide ((c : Int) / 8 ≤ g.high - 1)) = false := by simp; omega
      have HB : Hid (bes g c 3 = -1) := Lib.hid (by unfold bes besIn besX besY; simp; omega)
      clear hx hy
      go_enter Tryz.func143, Tryz.ntmps143
      go_wp2_with (go_at_call 86; refine (l00In_any _ _ _ _).mono ?_; (first | rw [d1] | rw [d2]); rintro e w' ⟨rfl, hw⟩; rw [hw]; clear hw w')
      go_ret
      exact ⟨int_eq HB.out.symm, rfl⟩
  · have d1 : (decide (0 ≤ (c : Int) % 8 - 1) && decide ((c : Int) % 8 - 1 ≤ g.wide - 1)) = false := by simp; omega
    have HB : Hid (bes g c 3 = -1) := Lib.hid (by unfold bes besIn besX besY; simp; omega)
    clear hx
    go_enter Tryz.func143, Tryz.ntmps143
    go_wp2_with (go_at_call 86; refine (l00In_any _ _ _ _).mono ?_; rw [d1]; rintro e w' ⟨rfl, hw⟩; rw [hw]; clear hw w')
    go_ret
    exact ⟨int_eq HB.out.symm, rfl⟩
theorem l01Beside_any (g : Gr) (b : Nat) (c s : Nat) (hg : g.ok) (hc : c < 64) (hs : s < 4) (w : World) (hb : GAt w b g) :
    Calls Tryz.prog 143 #[.pointer (some ⟨b, 0, none⟩), .int .i64 c, .int .i64 s] w fun e w' => e = .returned (.int .i64 (bes g c s)) ∧ w' = w := by
  match s, hs with
  | 0, _ => exact l01Beside_0 g b c hg hc w hb
  | 1, _ => exact l01Beside_1 g b c hg hc w hb
  | 2, _ => exact l01Beside_2 g b c hg hc w hb
  | 3, _ => exact l01Beside_3 g b c hg hc w hb
end Go.Proofs.YtokdpmpgonafmaaGreat
