import Derived.Test.YtglimhkpndfjgaaRows
import Derived.WalkKit
import Derived.ProofKit
import Derived.WalkLawsBesides
import Derived.WalkSpells
import Derived.Deep.QuietTactic
import Derived.Deep.WholeRow
import Derived.Deep.MidRow
import Derived.BigQuiet
import Derived.Deep.Cut
import Derived.Deep.CutBlock
import Derived.Lib.Hide
import Derived.Laws.CopyOwn
import Derived.OpenShut
/- Plain laws that the walks of this claim use: whole rows of cells stored and loaded at once. -/
namespace Go.Proofs.Ytglimhkpndfjgaa
open Go.ChangeShapes Go.WideShapes Go.ChangeAt Go.RowKit
set_option linter.unusedVariables false

section
variable {P : Program} {ops : Array Oper} {rest : List Oper} {o : Oper} {a : Act} {Q : Exit → Act → World → Prop}
/-- A whole row into the block that was made last. -/
theorem wpList_store_last {w : World} {t t' : TypeId} {x y : Operand} {n : Nat} {c c' : Array Value} (hgd : o.guard = none) (ho : o.op = .store t x y) (hx : a.eval x = .pointer (some ⟨n, 0, none⟩)) (hn : n = w.heap.size)
    (hy : a.eval y = .agg c') (hi : (P.info? t).map (·.size) = some c'.size) (hs : c.size = c'.size) (h1 : c'.toList.all (·.oneCell') = true)
    (h : wpList P ops Q rest (a.put o.dst undef) (w.alloc (.cells c' t'))) : wpList P ops Q (o :: rest) a (w.alloc (.cells c t')) :=
  wpList_plain hgd fun K hK => by
    subst hn
    refine wp_store_row t x y ho w.heap.size c' hx hy t' c (heap_alloc_last w _) hi hs (by rw [← Array.all_toList]; exact h1) ?_
    rw [World.setRow_alloc_new]
    exact hK _ _ h
end

@[go_sem] theorem run_neg_float {P : Program} (w : World) (k : FloatKind) (b : Nat) : (Op.unary .neg (.float k b)).run P w = .ok (.float k (Op.negFloat k b)) w := rfl
@[go_sem] theorem neg_half : Op.negFloat .f32 1056964608 = 3204448256 := by decide
@[go_sem] theorem neg_root : Op.negFloat .f32 1063105495 = 3210589143 := by decide
end Go.Proofs.Ytglimhkpndfjgaa
/- Whole rows of cells in memory: what a block holds, how it is loaded and stored, what stays as it was. Plain laws that the walks use; no statement is proved here. -/
namespace Go.Proofs.Ytglimhkpndfjgaa
open Go.ChangeShapes Go.WideShapes Go.ChangeAt Go.RowKit
set_option linter.unusedVariables false

/-- Block b holds the cells C, and may be written. -/
def Blk (w : World) (b : Nat) (C : Array Value) (t : TypeId) : Prop := w.heap[b]? = some (.cells C t (0, 0))

theorem Blk.lt {w : World} {b : Nat} {C : Array Value} {t : TypeId} (h : Blk w b C t) : b < w.heap.size := lt_of_block h
theorem Blk.cell {w : World} {b : Nat} {C : Array Value} {t : TypeId} (h : Blk w b C t) (o : Nat) : w.cell? ⟨b, o, none⟩ = C[o]? := cell_of_row w b o C t _ h
theorem Blk.free {w : World} {b : Nat} {C : Array Value} {t : TypeId} (h : Blk w b C t) (o : Nat) : w.frozen? ⟨b, o, none⟩ = false := frozen_of_row w b o C t h
theorem Blk.drew {w : World} {b : Nat} {C : Array Value} {t : TypeId} (h : Blk w b C t) : Blk w.drew b C t := h
theorem Blk.drewN {w : World} {b : Nat} {C : Array Value} {t : TypeId} (h : Blk w b C t) (n : Nat) : Blk (w.drewN n) b C t := h
theorem Blk.alloc {w : World} {b : Nat} {C : Array Value} {t : TypeId} (h : Blk w b C t) (o : Obj) : Blk (w.alloc o) b C t := (heap_alloc_old w o h.lt).trans h
theorem Blk.new (w : World) (C : Array Value) (t : TypeId) : Blk (w.alloc (.cells C t)) w.heap.size C t := heap_alloc_last w _
theorem Blk.new1 (w : World) (a : Obj) (C : Array Value) (t : TypeId) : Blk ((w.alloc a).alloc (.cells C t)) (w.heap.size + 1) C t := by
  have := Blk.new (w.alloc a) C t
  simpa using this
theorem Blk.new2 (w : World) (a b : Obj) (C : Array Value) (t : TypeId) : Blk (((w.alloc a).alloc b).alloc (.cells C t)) (w.heap.size + 1 + 1) C t := by
  have := Blk.new ((w.alloc a).alloc b) C t
  simpa using this
theorem Blk.new3 (w : World) (a b c : Obj) (C : Array Value) (t : TypeId) : Blk ((((w.alloc a).alloc b).alloc c).alloc (.cells C t)) (w.heap.size + 1 + 1 + 1) C t := by
  have := Blk.new (((w.alloc a).alloc b).alloc c) C t
  simpa using this
theorem below1 (w : World) (a : Obj) : Below w.heap.size w (w.alloc a) := (Below.refl _ _).alloc (Nat.le_refl _) _
theorem below2 (w : World) (a b : Obj) : Below w.heap.size w ((w.alloc a).alloc b) := (below1 w a).alloc (by simp) _
theorem below3 (w : World) (a b c : Obj) : Below w.heap.size w (((w.alloc a).alloc b).alloc c) := (below2 w a b).alloc (by simp; omega) _
theorem below4 (w : World) (a b c d : Obj) : Below w.heap.size w ((((w.alloc a).alloc b).alloc c).alloc d) := (below3 w a b c).alloc (by simp; omega) _
theorem Blk.below {w w' : World} {B b : Nat} {C : Array Value} {t : TypeId} (h : Blk w b C t) (hb : Below B w w') (hB : b < B) : Blk w' b C t := (hb.block b hB).trans h
theorem Blk.setCell {w : World} {b : Nat} {C : Array Value} {t : TypeId} (h : Blk w b C t) (i : Nat) (v : Value) : Blk (w.setCell ⟨b, i, none⟩ v) b (C.setIfInBounds i v) t := heap_setCell_same w b i C t v h
theorem Blk.setOther {w : World} {b : Nat} {C : Array Value} {t : TypeId} (h : Blk w b C t) {a : Addr} (v : Value) (ha : b ≠ a.block) : Blk (w.setCell a v) b C t := (heap_setCell_other w a b v ha).trans h
theorem Blk.setRow {w : World} {b : Nat} {C : Array Value} {t : TypeId} (h : Blk w b C t) (C' : Array Value) : Blk (w.setRow b C') b C' t := setRow_heap w b C C' t _ h
theorem Blk.rowOther {w : World} {b g : Nat} {C : Array Value} {t : TypeId} (h : Blk w b C t) (C' : Array Value) (hg : b ≠ g) : Blk (w.setRow g C') b C t := (setRow_other w g b C' hg).trans h
theorem Blk.grown {w w' : World} {b : Nat} {row : Option Nat} {C : Array Value} {t : TypeId} (h : Blk w b C t) (hg : w.grownBy w' row) (hr : row ≠ some b) : Blk w' b C t := (hg.block b h.lt (Ne.symm hr)).trans h

/-- A type whose values are rows of n cells. -/
def RowTy (P : Program) (t : TypeId) (n : Nat) : Prop := ∃ d, P.underlying t = some d ∧ d.isRow = true ∧ (P.info? t).map (·.size) = some n
/-- A type whose values are one cell. -/
def CellTy (P : Program) (e : TypeId) : Prop := ∃ d, P.underlying e = some d ∧ d.isRow = false ∧ (P.info? e).map (·.size) = some 1
/-- Such a type's zero value. -/
def ZeroTy (P : Program) (t : TypeId) (Z : Array Value) : Prop := (P.info? t).map (·.zero) = some (some (.agg Z))

section
variable {P : Program} {ops : Array Oper} {rest : List Oper} {o : Oper} {a : Act} {Q : Exit → Act → World → Prop} {w : World}

theorem wpList_load_blk {ty t : TypeId} {x : Operand} {b n : Nat} {C : Array Value} (hgd : o.guard = none) (ho : o.op = .load ty x) (hx : a.eval x = .pointer (some ⟨b, 0, none⟩)) (hr : RowTy P ty n) (hb : Blk w b C t) (hs : C.size = n)
    (h : wpList P ops Q rest (a.put o.dst (.agg C)) w) : wpList P ops Q (o :: rest) a w := by
  obtain ⟨d, hu, hd, hi⟩ := hr
  exact wpList_load_row hgd ty x ho b hx t C (0, 0) d hb hu (by cases d <;> simp_all) (by rw [hi, hs]) h

theorem wpList_load_part {ty t : TypeId} {x : Operand} {b f n : Nat} {C : Array Value} (hgd : o.guard = none) (ho : o.op = .load ty x) (hx : a.eval x = .pointer (some ⟨b, f, none⟩)) (hr : RowTy P ty n) (hb : Blk w b C t) (hs : f + n ≤ C.size)
    (h : wpList P ops Q rest (a.put o.dst (.agg (C.extract f (f + n)))) w) : wpList P ops Q (o :: rest) a w := by
  obtain ⟨d, hu, hd, hi⟩ := hr
  have hl : (C.extract f (f + n)).toList.length = n := by simp; omega
  refine wpList_load_mid hgd ty x ho b f hx (C.extract f (f + n)).toList d (World.rangeAt_of_block hb f n) hu hd (by rw [hi, hl]) ?_
  rw [Array.toArray_toList]; exact h

theorem wpList_store_blk {ty t : TypeId} {x y : Operand} {b n : Nat} {C C' : Array Value} (hgd : o.guard = none) (ho : o.op = .store ty x y) (hx : a.eval x = .pointer (some ⟨b, 0, none⟩)) (hy : a.eval y = .agg C') (hr : RowTy P ty n) (hb : Blk w b C t) (hs : C.size = n) (hs' : C'.size = n)
    (h1 : ∀ v ∈ C'.toList, v.oneCell' = true)
    (h : wpList P ops Q rest (a.put o.dst undef) (w.setRow b C')) : wpList P ops Q (o :: rest) a w :=
  wpList_plain hgd fun K hK => by
    obtain ⟨d, hu, hd, hi⟩ := hr
    exact wp_store_row ty x y ho b C' hx hy t C hb (by rw [hi, hs']) (by rw [hs, hs']) (by rw [← Array.all_toList]; exact List.all_eq_true.2 h1) (hK _ _ h)

/-- The row C with the cells c from f on. -/
@[irreducible] def splice (C : Array Value) (f : Nat) (c : Array Value) : Array Value := (C.toList.take f ++ c.toList ++ C.toList.drop (f + c.size)).toArray

theorem wpList_store_part {ty t : TypeId} {x y : Operand} {b f n : Nat} {C C' : Array Value} (hgd : o.guard = none) (ho : o.op = .store ty x y) (hx : a.eval x = .pointer (some ⟨b, f, none⟩)) (hy : a.eval y = .agg C') (hr : RowTy P ty n) (hb : Blk w b C t) (hs : f + n ≤ C.size) (hs' : C'.size = n)
    (h1 : ∀ v ∈ C'.toList, v.oneCell' = true)
    (h : wpList P ops Q rest (a.put o.dst undef) (w.setRow b (splice C f C'))) : wpList P ops Q (o :: rest) a w :=
  wpList_plain hgd fun K hK => by
    obtain ⟨d, hu, hd, hi⟩ := hr
    have hst := run_storeCells_at P b f t C'.toList 0 C w hb (by simp; omega) h1
    unfold Oper.wp execOp
    cases hq : P.info? ty with
    | none => simp [hq] at hi
    | some i =>
      have hsz : C'.size = i.size := by simp [hq] at hi; omega
      have hst' : (storeCells ⟨b, f, none⟩ C'.toList 0).run P w = .ok () (w.setRow b (splice C f C')) := by simpa [splice] using hst
      simp only [ho, hx, hy, Instr.storeAt, Instr.sureAddr, Sem.run_bind, Sem.run_pure, Result.andThen_ok]
      have : (storeVar ty ⟨b, f, none⟩ (.agg C')).run P w = .ok () (w.setRow b (splice C f C')) := by
        simp [storeVar, sizeOf, typeInfo, hq, Value.cells, hsz, hst']
      rw [this]
      exact hK _ _ h

theorem wpList_alloc_as {t : TypeId} {Z : Array Value} (hgd : o.guard = none) (ho : o.op = .alloc t) (hz : ZeroTy P t Z)
    (h : wpList P ops Q rest (a.put o.dst (.pointer (some ⟨w.heap.size, 0, none⟩))) (w.alloc (.cells Z t))) : wpList P ops Q (o :: rest) a w :=
  wpList_plain hgd fun K hK => by
    unfold ZeroTy at hz
    cases hq : P.info? t with
    | none => simp [hq] at hz
    | some i =>
      have hz' : i.zero = some (.agg Z) := by simpa [hq] using hz
      have hr : (Instr.alloc t true (.tuple #[])).run P w = .ok (.pointer (some ⟨w.heap.size, 0, none⟩)) (w.alloc (.cells Z t)) := by
        simp [Instr.alloc, zeroValue, typeInfo, hq, hz', newVar, newRow, Value.cells]
      unfold Oper.wp execOp
      simp only [ho, Sem.run_bind, hr, Result.andThen_ok]
      exact hK _ _ h

theorem wpList_box_as {t : TypeId} {x : Operand} {C : Array Value} (hgd : o.guard = none) (ho : o.op = .box t x) (hx : a.eval x = .agg C)
    (h : wpList P ops Q rest (a.put o.dst (.pointer (some ⟨w.heap.size, 0, none⟩))) (w.alloc (.cells C t))) : wpList P ops Q (o :: rest) a w :=
  wpList_plain hgd fun K hK => by
    have hr : (Instr.box t (.agg C)).run P w = .ok (.pointer (some ⟨w.heap.size, 0, none⟩)) (w.alloc (.cells C t)) := by
      simp [Instr.box, newVar, newRow, Value.cells]
    unfold Oper.wp execOp
    simp only [ho, hx, Sem.run_bind, hr, Result.andThen_ok]
    exact hK _ _ h
end

/-- A function that has a text of its own. -/
def Callable (P : Program) (f : FuncId) : Prop := ∃ fn, P.funcs[f]? = some fn ∧ (fn.name == "runtime.NumGoroutine") = false ∧ fn.body.isNone = false
/-- A call of a function value. -/
theorem wpList_callv {P : Program} {ops : Array Oper} {rest : List Oper} {o : Oper} {a : Act} {Q : Exit → Act → World → Prop} {w : World} {x : Operand} {xs : Array Operand} {ts : Array TypeId} {f : FuncId} {cap : Array Value} {l : List Value} (hgd : o.guard = none) (ho : o.op = .call { callee := .value x, args := xs, argTypes := ts }) (hx : a.eval x = .func (.func f) #[] cap) (ha : xs.toList.map a.eval = l) (hf : Callable P f)
    (h : Calls P f (l.toArray ++ cap) w fun e w' => ∃ v, e = .returned v ∧ wpList P ops Q rest (a.put o.dst v) w') : wpList P ops Q (o :: rest) a w :=
  wpList_plain hgd fun K hK => by
    obtain ⟨fn, hf, hn, hb⟩ := hf
    have e : xs.map a.eval = l.toArray := by rw [← ha, ← Array.toList_map, Array.toArray_toList]
    have hn' : fn.name ≠ "runtime.NumGoroutine" := by simpa using hn
    have hb' : ¬ fn.body = none := by intro h0; rw [h0] at hb; simp at hb
    have hr : (execOp a.eval o).run P w = .ok (.enter f (l.toArray ++ cap)) w := by
      simp [execOp, ho, resolve, e, hx, Deferred.ofValue, invoke, callFunc, hf, hn', hb']
    unfold Oper.wp
    rw [hr]
    exact h.mono fun e w' ⟨v, he, hv⟩ => by subst he; exact hK _ _ hv

/-- 'x[i]' of an array by value. -/
theorem run_index_row {P : Program} {tA e : TypeId} {n i : Nat} {C : Array Value} {v : Value} (ht : P.underlying tA = some (.array n e)) (he : CellTy P e) (hi : i < n) (hv : C[i]? = some v) (w : World) :
    (Instr.index tA (.agg C) (.int .i64 i)).run P w = .ok v w := by
  obtain ⟨d, hd, hr, hs⟩ := he
  have hagg : (isAgg e).run P w = .ok false w := by
    unfold isAgg
    rw [Sem.run_bind, run_underlying hd w]
    cases d <;> simp_all
  cases hq : P.info? e with
  | none => simp [hq] at hs
  | some inf =>
    have hs' : inf.size = 1 := by simpa [hq] using hs
    simp [Instr.index, asIntOf, run_underlying ht, hi, sizeOf, typeInfo, hq, hs', part, hagg, hv]

/-- A function whose one result is a row in memory returns that row. -/
theorem bodyPost_row {P : Program} {fn : Func} {R : Ending → World → Prop} {a : Act} {w : World} {p : Tmp} {ty t : TypeId} {b n : Nat} {C : Array Value} (hf : fn.results = #[.cell p ty]) (hp : a.tmps.getD p undef = .pointer (some ⟨b, 0, none⟩)) (hr : RowTy P ty n) (hb : Blk w b C t) (hs : C.size = n) (hd : a.defers = [])
    (hR : R (.returned (.agg C)) w) : bodyPost P fn R .ret a w := by
  obtain ⟨d, hu, hd', hi⟩ := hr
  exact bodyPost_ret (results_cell_row hf _ _ b t C (0, 0) d hp hb hu (by cases d <;> simp_all) (by rw [hi, hs])) hd hR
/-- .. and of two results, the first a row. -/
theorem bodyPost_row2 {P : Program} {fn : Func} {R : Ending → World → Prop} {a : Act} {w : World} {p u : Tmp} {ty t : TypeId} {b n : Nat} {C : Array Value} (hf : fn.results = #[.cell p ty, .tmp u]) (hp : a.tmps.getD p undef = .pointer (some ⟨b, 0, none⟩)) (hr : RowTy P ty n) (hb : Blk w b C t) (hs : C.size = n) (hd : a.defers = [])
    (hR : R (.returned (.tuple #[.agg C, a.tmps.getD u undef])) w) : bodyPost P fn R .ret a w := by
  obtain ⟨d, hu, hd', hi⟩ := hr
  have hl := run_loadVar_row (P := P) w b t ty C (0, 0) d hb hu (by cases d <;> simp_all) (by rw [hi, hs])
  refine bodyPost_ret (v := .tuple #[.agg C, a.tmps.getD u undef]) ?_ hd hR
  have hp' : a.tmps[p]?.getD undef = .pointer (some ⟨b, 0, none⟩) := by simpa using hp
  simp [results, hf, hp', asAddr, hl]

/-- The first k cells of C, the others of Z. -/
@[irreducible] def mixed (C Z : Array Value) (k : Nat) : Array Value := (C.toList.take k ++ Z.toList.drop k).toArray
theorem mixed_zero (C Z : Array Value) : mixed C Z 0 = Z := by simp [mixed]
theorem mixed_all (C Z : Array Value) (h : C.size = Z.size) : mixed C Z C.size = C := by
  unfold mixed; rw [List.take_of_length_le (by simp), List.drop_of_length_le (by simp; omega)]; simp
theorem mixed_size (C Z : Array Value) (h : C.size = Z.size) (k : Nat) (hk : k ≤ C.size) : (mixed C Z k).size = C.size := by simp [mixed]; omega
theorem mixed_set (C Z : Array Value) (h : C.size = Z.size) (k : Nat) (hk : k < C.size) : (mixed C Z k).setIfInBounds k C[k] = mixed C Z (k + 1) := by
  apply Array.ext_getElem?
  intro i
  simp only [mixed, Array.getElem?_setIfInBounds, List.getElem?_toArray, List.size_toArray, List.getElem?_append, List.length_take, List.length_append, List.length_drop, Array.length_toList, List.getElem?_take, List.getElem?_drop, Array.getElem?_toList]
  have e1 : min k C.size = k := by omega
  have e2 : min (k + 1) C.size = k + 1 := by omega
  simp only [e1, e2]
  by_cases h1 : k = i
  · subst h1
    simp [hk]
    omega
  · by_cases h2 : i < k
    · simp [h1, h2, show i < k + 1 by omega]
    · simp only [h1, if_false, h2, show ¬ i < k + 1 by omega]
      congr 1; omega

theorem splice_mixed (C Z : Array Value) (h : C.size = Z.size) (f : Nat) (c : Array Value) (hc : (C.toList.drop f).take c.size = c.toList) (hf : f + c.size ≤ C.size) : splice (mixed C Z f) f c = mixed C Z (f + c.size) := by
  unfold splice mixed
  congr 1
  have e1 : (C.toList.take f).length = f := by simp; omega
  have t1 : (C.toList.take f ++ Z.toList.drop f).take f = C.toList.take f := by
    rw [List.take_append_of_le_length (by omega), List.take_of_length_le (by omega)]
  have t2 : (C.toList.take f ++ Z.toList.drop f).drop (f + c.size) = Z.toList.drop (f + c.size) := by
    rw [List.drop_append, List.drop_of_length_le (by omega), List.nil_append, e1, List.drop_drop]
    congr 1; omega
  show List.take f (C.toList.take f ++ Z.toList.drop f) ++ c.toList ++ List.drop (f + c.size) (C.toList.take f ++ Z.toList.drop f) = _
  rw [t1, t2, List.take_add, hc]

/-! ### A region that draws its order, whose callees make memory but hand back plain values: one walk serves every order. The class of worlds: nothing that was there has turned. -/
section
variable {P : Program} {ops : Array Oper} {rest : List Oper} {o : Oper} {a : Act} {C : World → Prop} {Q : Act → Prop}
theorem quiet_val {v : Value} (hw : Region.wanted o (yielded ops a.tmps) = true) (hr : ∀ w, (execOp a.eval o).run P w = .ok (.value v) w) (h : wpQuiet P ops C Q rest (a.put o.dst v)) : wpQuiet P ops C Q (o :: rest) a := by
  refine wpQuiet_step fun K hK => ?_
  rw [if_pos hw]
  exact ⟨v, fun w _ => by unfold Oper.quietAt; rw [hr w]; exact ⟨rfl, rfl⟩, hK _ h⟩
end
section
variable {P : Program} {ops : Array Oper} {rest : List Oper} {o : Oper} {s : List Value} {df : List Deferred} {C : World → Prop} {Q : Act → Prop} {i : Nat}
theorem put_list (s : List Value) (df : List Deferred) (i : Nat) (v : Value) : Act.put ⟨s.toArray, df⟩ (some i) v = ⟨(s.set i v).toArray, df⟩ := by simp [Act.put]
theorem eval_slot {n : Nat} {v : Value} (h : s[n]? = some v) : Act.eval ⟨s.toArray, df⟩ (.tmp n) = v := by simp [Act.eval, h]
theorem quiet_skip (hw : Region.wanted o (yielded ops s.toArray) = false) (hi : o.dst = some i) (h : wpQuiet P ops C Q rest ⟨(s.set i undef).toArray, df⟩) : wpQuiet P ops C Q (o :: rest) ⟨s.toArray, df⟩ := by
  refine wpQuiet_step fun K hK => ?_
  rw [if_neg (by rw [hw]; exact Bool.false_ne_true), hi, put_list]
  exact hK _ h
theorem quiet_run {v : Value} (hw : Region.wanted o (yielded ops s.toArray) = true) (hi : o.dst = some i) (hr : ∀ w, (execOp (Act.eval ⟨s.toArray, df⟩) o).run P w = .ok (.value v) w) (h : wpQuiet P ops C Q rest ⟨(s.set i v).toArray, df⟩) : wpQuiet P ops C Q (o :: rest) ⟨s.toArray, df⟩ :=
  quiet_val (v := v) hw hr (by rw [hi, put_list]; exact h)
theorem quiet_move {n : Nat} {v : Value} (hw : Region.wanted o (yielded ops s.toArray) = true) (ho : o.op = .move (.tmp n)) (hi : o.dst = some i) (hv : s[n]? = some v) (h : wpQuiet P ops C Q rest ⟨(s.set i v).toArray, df⟩) : wpQuiet P ops C Q (o :: rest) ⟨s.toArray, df⟩ :=
  quiet_val (v := v) hw (fun w => by simp [execOp, ho, eval_slot hv]) (by rw [hi, put_list]; exact h)
theorem quiet_assign {n : Nat} {v : Value} (hw : Region.wanted o (yielded ops s.toArray) = true) (ho : o.op = .assign (.tmp n)) (hi : o.dst = some i) (hv : s[n]? = some v) (h : wpQuiet P ops C Q rest ⟨(s.set i v).toArray, df⟩) : wpQuiet P ops C Q (o :: rest) ⟨s.toArray, df⟩ :=
  quiet_val (v := v) hw (fun w => by simp [execOp, ho, eval_slot hv]) (by rw [hi, put_list]; exact h)
theorem quiet_extract {n k : Nat} {l : List Value} {v : Value} (hw : Region.wanted o (yielded ops s.toArray) = true) (ho : o.op = .extract (.tmp n) k) (hi : o.dst = some i) (hx : s[n]? = some (.tuple l.toArray)) (hv : l[k]? = some v) (h : wpQuiet P ops C Q rest ⟨(s.set i v).toArray, df⟩) : wpQuiet P ops C Q (o :: rest) ⟨s.toArray, df⟩ :=
  quiet_val (v := v) hw (fun w => by simp [execOp, ho, eval_slot hx, Instr.extract, hv]) (by rw [hi, put_list]; exact h)
/-- '&x[i]' of a slice. -/
theorem quiet_index {n m : Nat} {t e : TypeId} {b f len cap k sz : Nat} (hw : Region.wanted o (yielded ops s.toArray) = true) (ho : o.op = .indexAddr t (.tmp n) (.tmp m)) (hi : o.dst = some i) (hx : s[n]? = some (.slice (some ⟨b, f, none⟩) len cap)) (hk : s[m]? = some (.int .i64 k)) (ht : P.underlying t = some (.slice e)) (hs : (P.info? e).map (·.size) = some sz) (hlt : k < len)
    (h : wpQuiet P ops C Q rest ⟨(s.set i (.pointer (some ⟨b, f + k * sz, none⟩))).toArray, df⟩) : wpQuiet P ops C Q (o :: rest) ⟨s.toArray, df⟩ := by
  cases hq : P.info? e with
  | none => simp [hq] at hs
  | some inf =>
    have hs' : inf.size = sz := by simpa [hq] using hs
    refine quiet_val (v := .pointer (some ⟨b, f + k * sz, none⟩)) hw (fun w => ?_) (by rw [hi, put_list]; exact h)
    simp [execOp, ho, eval_slot hx, eval_slot hk, Instr.indexAt, asIntOf, run_underlying ht, hlt, sizeOf, typeInfo, hq, hs', Addr.add_mid]
/-- A load of a part of a block, in every world of the class. -/
theorem quiet_part {n : Nat} {ty : TypeId} {b f m : Nat} {cs : List Value} (hw : Region.wanted o (yielded ops s.toArray) = true) (ho : o.op = .load ty (.tmp n)) (hi : o.dst = some i) (hx : s[n]? = some (.pointer (some ⟨b, f, none⟩))) (hr : RowTy P ty m) (hm : cs.length = m) (hc : ∀ w, C w → w.rangeAt b f cs)
    (h : wpQuiet P ops C Q rest ⟨(s.set i (.agg cs.toArray)).toArray, df⟩) : wpQuiet P ops C Q (o :: rest) ⟨s.toArray, df⟩ := by
  refine wpQuiet_step fun K hK => ?_
  rw [if_pos hw]
  refine ⟨.agg cs.toArray, fun w hw => ?_, hK _ (by rw [hi, put_list]; exact h)⟩
  obtain ⟨d, hu, hd, hi'⟩ := hr
  have hl := run_loadVar_mid (P := P) w b f ty cs d (hc w hw) hu hd (by rw [hi', hm])
  unfold Oper.quietAt execOp
  simp only [ho, eval_slot hx, Instr.loadAt, Instr.sureAddr, Sem.run_bind, Sem.run_pure, Result.andThen_ok, hl]
  exact ⟨rfl, rfl⟩
/-- A load of one cell, in every world of the class. -/
theorem quiet_cell {n : Nat} {ty : TypeId} {b f : Nat} {v : Value} (hw : Region.wanted o (yielded ops s.toArray) = true) (ho : o.op = .load ty (.tmp n)) (hi : o.dst = some i) (hx : s[n]? = some (.pointer (some ⟨b, f, none⟩))) (hr : CellTy P ty) (hc : ∀ w, C w → w.cell? ⟨b, f, none⟩ = some v)
    (h : wpQuiet P ops C Q rest ⟨(s.set i v).toArray, df⟩) : wpQuiet P ops C Q (o :: rest) ⟨s.toArray, df⟩ := by
  refine wpQuiet_step fun K hK => ?_
  rw [if_pos hw]
  refine ⟨v, fun w hw => ?_, hK _ (by rw [hi, put_list]; exact h)⟩
  obtain ⟨d, hu, hd, hi'⟩ := hr
  have hagg : (isAgg ty).run P w = .ok false w := by
    unfold isAgg
    rw [Sem.run_bind, run_underlying hu w]
    cases d <;> simp_all
  have hl : (loadVar ty ⟨b, f, none⟩).run P w = .ok v w := by
    simp [loadVar, hagg, load, Sem.run, hc w hw]
  unfold Oper.quietAt execOp
  simp only [ho, eval_slot hx, Instr.loadAt, Instr.sureAddr, Sem.run_bind, Sem.run_pure, Result.andThen_ok, hl]
  exact ⟨rfl, rfl⟩
theorem quiet_not {n : Nat} {ty : TypeId} {b : Bool} (hw : Region.wanted o (yielded ops s.toArray) = true) (ho : o.op = .unOp .not ty (.tmp n)) (hi : o.dst = some i) (hx : s[n]? = some (.bool b)) (h : wpQuiet P ops C Q rest ⟨(s.set i (.bool !b)).toArray, df⟩) : wpQuiet P ops C Q (o :: rest) ⟨s.toArray, df⟩ :=
  quiet_val (v := .bool !b) hw (fun w => by simp [execOp, ho, eval_slot hx, Op.unary]) (by rw [hi, put_list]; exact h)
theorem quiet_load {ty t : TypeId} {x : Operand} {b n : Nat} {D : Array Value} (hw : Region.wanted o (yielded ops s.toArray) = true) (ho : o.op = .load ty x) (hi : o.dst = some i) (hx : Act.eval ⟨s.toArray, df⟩ x = .pointer (some ⟨b, 0, none⟩)) (hr : RowTy P ty n) (hs : D.size = n) (hb : ∀ w, C w → Blk w b D t)
    (h : wpQuiet P ops C Q rest ⟨(s.set i (.agg D)).toArray, df⟩) : wpQuiet P ops C Q (o :: rest) ⟨s.toArray, df⟩ := by
  refine wpQuiet_step fun K hK => ?_
  rw [if_pos hw]
  refine ⟨.agg D, fun w hw => ?_, hK _ (by rw [hi, put_list]; exact h)⟩
  obtain ⟨d, hu, hd, hi'⟩ := hr
  have hl := run_loadVar_row (P := P) w b t ty D (0, 0) d (hb w hw) hu (by cases d <;> simp_all) (by rw [hi', hs])
  unfold Oper.quietAt execOp
  simp only [ho, hx, Instr.loadAt, Instr.sureAddr, Sem.run_bind, Sem.run_pure, Result.andThen_ok, hl]
  exact ⟨rfl, rfl⟩
theorem quiet_call {f : FuncId} {xs : Array Operand} {ts : Array TypeId} {fn : Func} {v : Value} {l : List Value} (hw : Region.wanted o (yielded ops s.toArray) = true) (ho : o.op = .call { callee := .value (.func f), args := xs, argTypes := ts }) (hi : o.dst = some i) (hf : P.funcs[f]? = some fn) (hn : (fn.name == "runtime.NumGoroutine") = false) (hb : fn.body.isNone = false) (ha : xs.toList.map (Act.eval ⟨s.toArray, df⟩) = l)
    (hc : ∀ w, C w → Calls P f l.toArray w fun e w' => e = .returned v ∧ C w') (h : wpQuiet P ops C Q rest ⟨(s.set i v).toArray, df⟩) : wpQuiet P ops C Q (o :: rest) ⟨s.toArray, df⟩ := by
  refine wpQuiet_step fun K hK => ?_
  rw [if_pos hw]
  refine ⟨v, fun w hw => ?_, hK _ (by rw [hi, put_list]; exact h)⟩
  have e : xs.map (Act.eval ⟨s.toArray, df⟩) = l.toArray := by rw [← ha, ← Array.toList_map, Array.toArray_toList]
  have hr : (execOp (Act.eval ⟨s.toArray, df⟩) o).run P w = .ok (.enter f l.toArray) w := by
    have hn' : fn.name ≠ "runtime.NumGoroutine" := by simpa using hn
    have hb' : ¬ fn.body = none := by intro h0; rw [h0] at hb; simp at hb
    have e2 : Act.eval ⟨s.toArray, df⟩ (.func f) = .func (.func f) #[] #[] := rfl
    simp [execOp, ho, resolve, e, e2, Deferred.ofValue, invoke, callFunc, hf, hn', hb']
  unfold Oper.quietAt
  rw [hr]
  exact ⟨rfl, hc w hw⟩
end
section
variable {P : Program}
theorem wp_region_below {id : Nat} {Q : Exit → Act → World → Prop} {a : Act} {w : World} {l : List Oper} (hm : P.follows .mixedOrders = true) (hB : Region.lexB .any l.toArray = true)
    (h : wpQuiet P l.toArray (Below w.heap.size w) (fun a' => ∀ w', Below w.heap.size w w' → Q .normal a' w') l a) : (Code.region id l.toArray true).wp P Q a w :=
  wp_region_quiet (C := Below w.heap.size w) hm hB (Below.refl _ _).drew (by simpa using h)
end

/-! ### Arguments that are arrays by value, opened. -/
section
variable {H : Type} {enc : TypeId × Value → H} {P : Program} {W : World} {r : Reach} {b0 base : Nat} {spare : Nat → Bool} {held : Bool}
theorem okWide_row {t e : TypeId} {n : Nat} {v : Value} (ht : P.underlying t = some (.array n e)) (h : Value.okWide P W r b0 t v) : ∃ cs, v = .agg cs ∧ cs.size = P.cellsOf t := by
  simp only [Value.okWide, ht] at h
  obtain ⟨cs, h1, h2, _⟩ := h
  exact ⟨cs, h1, h2⟩
/-- The cells of an array whose elements are one cell each. -/
theorem trod_row {t e : TypeId} {n fuel : Nat} {cs : List Value} {x : DataW H × List MemPlace} (ht : P.underlying t = some (.array n e)) (hce : P.cellsOf e = 1) (h : DataW.trod enc P W base spare held fuel t cs = some x) :
    ∃ m, ∀ i, i < n → ∃ y, DataW.trod enc P W base spare held m e ((cs.drop i).take 1) = some y := by
  obtain ⟨xs, m, _, _, _, hl, hx⟩ := DataW.trod_array ht h
  refine ⟨m, fun i hi => ?_⟩
  have := hx i hi
  rw [hce, Nat.mul_one] at this
  exact ⟨xs[i]'(by omega), by rw [this, List.getElem?_eq_getElem]⟩
theorem head_of_take {cs : List Value} {i : Nat} {v : Value} (h : (cs.drop i).take 1 = [v]) : cs[i]? = some v := by
  have := congrArg (fun l : List Value => l[0]?) h
  simpa [List.getElem?_take] using this
theorem ints_of_row {t e : TypeId} {k : IntKind} {n fuel : Nat} {cs : List Value} {x : DataW H × List MemPlace} (ht : P.underlying t = some (.array n e)) (he : P.underlying e = some (.int k)) (hce : P.cellsOf e = 1)
    (h : DataW.trod enc P W base spare held fuel t cs = some x) : ∃ f : Nat → Int, ∀ i, i < n → cs[i]? = some (.int k (f i)) ∧ (Lit.int k (f i)).wf = true := by
  obtain ⟨m, hm⟩ := trod_row ht hce h
  refine ⟨fun i => intOf ((cs[i]?).getD undef), fun i hi => ?_⟩
  obtain ⟨y, hy⟩ := hm i hi
  obtain ⟨q, hq, _, hw⟩ := DataW.trod_int he hy
  have e := head_of_take hq
  have hfi : intOf ((cs[i]?).getD undef) = q := by rw [e]; rfl
  exact ⟨by show cs[i]? = some (Value.int k (intOf ((cs[i]?).getD undef))); rw [hfi, e], by show (Lit.int k (intOf ((cs[i]?).getD undef))).wf = true; rw [hfi]; exact hw⟩
/-- The bits in a slot. -/
def bitsOf : Value → Nat | .float _ b => b | _ => 0
theorem trod_float {t : TypeId} {k : FloatKind} {fuel : Nat} {cs : List Value} {x : DataW H × List MemPlace} (ht : P.underlying t = some (.float k)) (h : DataW.trod enc P W base spare held fuel t cs = some x) : ∃ b, cs = [.float k b] ∧ (Lit.float k b).wf = true := by
  cases fuel with
  | zero => simp [DataW.trod] at h
  | succ n =>
    unfold DataW.trod at h
    rw [ht] at h
    split at h <;> simp_all
theorem floats_of_row {t e : TypeId} {k : FloatKind} {n fuel : Nat} {cs : List Value} {x : DataW H × List MemPlace} (ht : P.underlying t = some (.array n e)) (he : P.underlying e = some (.float k)) (hce : P.cellsOf e = 1)
    (h : DataW.trod enc P W base spare held fuel t cs = some x) : ∃ f : Nat → Nat, ∀ i, i < n → cs[i]? = some (.float k (f i)) ∧ (Lit.float k (f i)).wf = true := by
  obtain ⟨m, hm⟩ := trod_row ht hce h
  refine ⟨fun i => bitsOf ((cs[i]?).getD undef), fun i hi => ?_⟩
  obtain ⟨y, hy⟩ := hm i hi
  obtain ⟨q, hq, hw⟩ := trod_float he hy
  have e := head_of_take hq
  have hfi : bitsOf ((cs[i]?).getD undef) = q := by rw [e]; rfl
  exact ⟨by show cs[i]? = some (Value.float k (bitsOf ((cs[i]?).getD undef))); rw [hfi, e], by show (Lit.float k (bitsOf ((cs[i]?).getD undef))).wf = true; rw [hfi]; exact hw⟩
end
end Go.Proofs.Ytglimhkpndfjgaa
/- Slices that a call makes for itself and appends to: where their cells lie, and what an append leaves alone. Plain laws; no statement is proved here. -/
namespace Go.Proofs.Ytglimhkpndfjgaa
open Go.ChangeShapes Go.WideShapes Go.ChangeAt Go.RowKit
set_option linter.unusedVariables false

/-- The slice v has n elements of s cells each, xs, in block g, which it may write. -/
def Own (w : World) (g : Nat) (e : TypeId) (s : Nat) (v : Value) (n : Nat) (xs : List Value) : Prop :=
  xs.length = n * s ∧ ∃ cap cur, v = .slice (some ⟨g, 0, none⟩) n cap ∧ Blk w g cur e ∧ n ≤ cap ∧ cap ≤ maxLen ∧ cur.size = cap * s ∧ cur.toList.take (n * s) = xs

section
variable {w w' : World} {g : Nat} {e : TypeId} {s : Nat} {v : Value} {n : Nat} {xs : List Value}
theorem Own.row (h : Own w g e s v n xs) : w.ownsRow g e s v n xs := by
  obtain ⟨h1, cap, cur, rfl, hb, h2, h3, h4, h5⟩ := h
  exact ⟨h1, .inr ⟨g, cap, cur, rfl, Nat.le_refl _, hb, h2, h3, h4, h5⟩⟩
theorem Own.form (h : Own w g e s v n xs) : ∃ cap, v = .slice (some ⟨g, 0, none⟩) n cap ∧ n ≤ cap ∧ cap ≤ maxLen := by
  obtain ⟨h1, cap, cur, rfl, hb, h2, h3, _⟩ := h
  exact ⟨cap, rfl, h2, h3⟩
theorem Own.lt (h : Own w g e s v n xs) : g < w.heap.size := by obtain ⟨_, _, _, _, hb, _⟩ := h; exact hb.lt
theorem Own.move (h : Own w g e s v n xs) (hg : w'.heap[g]? = w.heap[g]?) : Own w' g e s v n xs := by
  obtain ⟨h1, cap, cur, rfl, hb, h2⟩ := h
  exact ⟨h1, cap, cur, rfl, hg.trans hb, h2⟩
theorem Own.below (h : Own w g e s v n xs) {B : Nat} (hb : Below B w w') (hB : g < B) : Own w' g e s v n xs := h.move (hb.block g hB)
theorem Own.drewN (h : Own w g e s v n xs) (k : Nat) : Own (w.drewN k) g e s v n xs := h.move rfl
theorem Own.alloc (h : Own w g e s v n xs) (o : Obj) : Own (w.alloc o) g e s v n xs := h.move (heap_alloc_old w o h.lt)
theorem Own.grown (h : Own w g e s v n xs) {row : Option Nat} (hg : w.grownBy w' row) (hr : row ≠ some g) : Own w' g e s v n xs := h.move (hg.block g h.lt (Ne.symm hr))
theorem Own.setOther (h : Own w g e s v n xs) {a : Addr} (u : Value) (ha : g ≠ a.block) : Own (w.setCell a u) g e s v n xs := h.move (heap_setCell_other w a g u ha)
theorem Own.rowOther (h : Own w g e s v n xs) {b : Nat} (C : Array Value) (hb : g ≠ b) : Own (w.setRow b C) g e s v n xs := h.move (setRow_other w b g C hb)
/-- An element's cell. -/
theorem Own.cell (h : Own w g e s v n xs) (j : Nat) (hj : j < n * s) : w.cell? ⟨g, j, none⟩ = xs[j]? := by
  obtain ⟨h1, cap, cur, rfl, hb, h2, h3, h4, h5⟩ := h
  rw [hb.cell, ← h5, List.getElem?_take, if_pos hj]; simp
theorem Own.free (h : Own w g e s v n xs) (j : Nat) : w.frozen? ⟨g, j, none⟩ = false := by
  obtain ⟨h1, cap, cur, rfl, hb, _⟩ := h
  exact hb.free j
theorem own_blk {w : World} {g : Nat} {e : TypeId} {s : Nat} {C : Array Value} {n : Nat} {xs : List Value} (h : Blk w g C e) (hs : C.size = n * s) (hm : n ≤ maxLen) (hx : C.toList = xs) : Own w g e s (.slice (some ⟨g, 0, none⟩) n n) n xs := by
  subst hx
  exact ⟨by simp [hs], n, C, rfl, h, Nat.le_refl _, hm, hs, List.take_of_length_le (by simp [hs])⟩
theorem own_made (w : World) (C : Array Value) (n : Nat) (hm : n ≤ maxLen) (hs : C.size = n * s) : Own (w.alloc (.cells C e)) w.heap.size e s (.slice (some ⟨w.heap.size, 0, none⟩) n n) n C.toList :=
  ⟨by simp [hs], n, C, rfl, Blk.new _ _ _, Nat.le_refl _, hm, hs, List.take_of_length_le (by simp [hs])⟩
end

/-- A slice type's element type: its cells, its bytes. -/
def ElemTy (P : Program) (t e : TypeId) (s bytes : Nat) : Prop := P.underlying t = some (.slice e) ∧ ∃ i z, P.info? e = some i ∧ i.zero = some z ∧ i.size = s ∧ i.bytes = bytes ∧ z.cells.size = s

theorem elem_of {P : Program} {t e : TypeId} {s bytes : Nat} {z : Value} (ht : P.underlying t = some (.slice e)) (h : (P.info? e).map (fun i => (i.zero, i.size, i.bytes)) = some (some z, s, bytes)) (hz : z.cells.size = s) : ElemTy P t e s bytes := by
  obtain ⟨i, hi, h1, h2, h3⟩ := info_parts h
  exact ⟨ht, i, z, hi, h1, h2, h3, hz⟩

section
variable {P : Program} {w : World}
theorem run_app {t ty e : TypeId} {s bytes : Nat} (hE : ElemTy P t e s bytes) (hs : 0 < s) {v : Value} {g n : Nat} {xs : List Value} (hown : Own w g e s v n xs)
    {ad : Addr} {m c : Nat} {news : List Value} (hl : news.length = m * s) (hnews : ∀ j u, news[j]? = some u → w.cell? (ad.add j) = some u) (h1 : ∀ u ∈ news, u.oneCell' = true) (h63 : n + m ≤ maxLen) (hbytes : (n + m) * bytes ≤ 140737488355328) :
    ∃ v' w' g', (Builtin.append_ #[t, t] ty #[v, .slice (some ad) m c]).run P w = .ok v' w' ∧ Own w' g' e s v' (n + m) (xs ++ news) ∧ w.grownBy w' (some g) ∧ (g' = g ∨ g' = w.heap.size) := by
  obtain ⟨ht, i, z, hi, hz, hsize, hby, hzs⟩ := hE
  have hrow := hown.row
  obtain ⟨v', w', hr, h2, h3, h4⟩ := run_append_own (P := P) w g t ty e i z s bytes ht hi hz hsize hby hzs hs v n xs hrow ad m c news hl hnews h1 h63 hbytes (Nat.le_of_lt hown.lt)
  obtain ⟨hx, cap, cur, hv, hb, hnc, hcm, hcs, htake⟩ := hown
  have hob : v.ownBlock = some g := by rw [hv]; rfl
  rw [hob] at h3
  have hform : ∃ g' cap', v' = .slice (some ⟨g', 0, none⟩) (n + m) cap' ∧ (g' = g ∨ g' = w.heap.size) := by
    rw [hv] at hr
    by_cases hroom : n + m ≤ cap
    · have hfit : n * i.size + news.length ≤ cur.size := by rw [hl, hcs, hsize, ← Nat.add_mul]; exact Nat.mul_le_mul_right _ hroom
      have hr2 := run_append_room (P := P) w t ty e i ht hi g n cap cur hb ad m c news (by rw [hsize]; exact hl) hnews h1 hroom hfit
      rw [hr2] at hr
      have hrv : Value.slice (some ⟨g, 0, none⟩) (n + m) cap = v' := by injection hr
      exact ⟨g, cap, hrv.symm, .inl rfl⟩
    · have holds : ∀ j u, xs[j]? = some u → w.cell? ((⟨g, 0, none⟩ : Addr).add j) = some u := hrow.cells (g := g) hob
      have hsmall : n + m ≤ 9223372036854775807 := by simp only [maxLen] at h63; omega
      have hr2 := run_append_grow (P := P) w t ty e i z ht hi hz ⟨g, 0, none⟩ n cap xs (by rw [hsize]; exact hx) holds ad m c news (by rw [hsize]; exact hl) hnews (by omega) (by omega) (by rw [hby]; exact growslice_fits (by omega) hbytes)
      rw [hr2] at hr
      have hrv : Value.slice (some ⟨w.heap.size, 0, none⟩) (n + m) (grownCap w (n + m) cap e) = v' := by injection hr
      exact ⟨w.heap.size, _, hrv.symm, .inr rfl⟩
  obtain ⟨g', cap', hv', hg'⟩ := hform
  refine ⟨v', w', g', hr, ?_, h3, hg'⟩
  rcases h2 with ⟨hlen, ⟨hn, _⟩ | ⟨g2, cap2, cur2, hv2, _, hb2, hn2, hc2, hs2, ht2⟩⟩
  · rw [hv'] at hn; cases hn
  · rw [hv2] at hv'
    have e1 : g2 = g' := by injection hv' with a _ _; injection a with a; injection a
    subst e1
    exact ⟨hlen, cap2, cur2, hv2, hb2, hn2, hc2, hs2, ht2⟩

variable {ops : Array Oper} {rest : List Oper} {o : Oper} {a : Act} {Q : Exit → Act → World → Prop}
/-- 'append(s, x)', x's cells being a row of its own. -/
theorem wpList_app {t e e' : TypeId} {s bytes : Nat} {sl x : Operand} {v : Value} {g n b m c : Nat} {xs : List Value} {news : Array Value} (hE : ElemTy P t e s bytes) (hgd : o.guard = none) (ho : o.op = .call { callee := .builtin .append, args := #[sl, x], argTypes := #[t, t] }) (hv : a.eval sl = v) (hx : a.eval x = .slice (some ⟨b, 0, none⟩) m c)
    (hs : 0 < s) (hown : Own w g e s v n xs) (hb : Blk w b news e') (hl : news.size = m * s) (h1 : ∀ u ∈ news.toList, u.oneCell' = true) (h63 : n + m ≤ maxLen) (hbytes : (n + m) * bytes ≤ 140737488355328)
    (h : ∀ v' w' g', Own w' g' e s v' (n + m) (xs ++ news.toList) → w.grownBy w' (some g) → (g' = g ∨ g' = w.heap.size) → wpList P ops Q rest (a.put o.dst v') w') : wpList P ops Q (o :: rest) a w :=
  wpList_plain hgd fun K hK => by
    obtain ⟨v', w', g', hr, h2, h3, h4⟩ := run_app (P := P) (ty := o.type) hE hs hown (ad := ⟨b, 0, none⟩) (m := m) (c := c) (news := news.toList) (by simpa using hl) (fun j u hu => by
      have hadd : (⟨b, 0, none⟩ : Addr).add j = ⟨b, j, none⟩ := by unfold Addr.add; split <;> simp_all
      rw [hadd, hb.cell]; simpa using hu) h1 h63 hbytes
    unfold Oper.wp execOp
    simp only [ho, resolve, invoke, builtin, Sem.run_bind, Sem.run_pure, Result.andThen_ok, List.map_toArray, List.map_cons, List.map_nil, hv, hx, hr]
    exact hK _ _ (h v' w' g' h2 h3 h4)
end

/-- Behind an append onto a block of the call's own, whose new element lies in a block of its own: nothing below B has turned. -/
theorem below_app {B c g : Nat} {w0 w w' : World} {o : Obj} (h : Below B w0 w) (hB : B ≤ w.heap.size) (hg : ((w.drewN c).alloc o).grownBy w' (some g)) (hBg : B ≤ g) : Below B w0 w' := by
  have h1 := (below_drewN h c).alloc (by simpa using hB) o
  exact h1.grown hg (by simp; omega) (fun k hk => by injection hk with hk; omega)
end Go.Proofs.Ytglimhkpndfjgaa
