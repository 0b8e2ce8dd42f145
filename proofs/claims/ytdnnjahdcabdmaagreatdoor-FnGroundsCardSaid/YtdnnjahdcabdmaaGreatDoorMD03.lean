import Derived.Test.YtdnnjahdcabdmaaGreatDoorMD01
import Derived.Test.YtdnnjahdcabdmaaGreatDoorMD02
/- The walks that FnExactDropsLogged needs: levels are copied, and the greatest drop is found. -/
namespace Go.Proofs.YtdnnjahdcabdmaaGreatDoor
open Go.ChangeShapes Go.WideShapes Go.ChangeAt Go.RowKit
set_option linter.unusedVariables false

/-- A row of int16 numbers. -/
@[irreducible] def i16s (n : Nat) (f : Nat → Int) : Array Value := Array.ofFn (n := n) fun i => .int .i16 (f i)
theorem i16s_size (n : Nat) (f : Nat → Int) : (i16s n f).size = n := by simp [i16s]
theorem i16s_get (n : Nat) (f : Nat → Int) (i : Nat) (h : i < n) : (i16s n f)[i]? = some (.int .i16 (f i)) := by simp [i16s, h]
theorem i16s_one (n : Nat) (f : Nat → Int) : ∀ v ∈ (i16s n f).toList, v.oneCell' = true := by
  intro v hv; simp [i16s] at hv; obtain ⟨i, rfl⟩ := hv; rfl

/-- The first of the first k numbers with the greatest drop. -/
def bestOf (f g : Nat → Int) : Nat → Nat
  | 0 => 0
  | k + 1 => if f (bestOf f g k) - g (bestOf f g k) < f k - g k then k else bestOf f g k
theorem bestOf_lt (f g : Nat → Int) (k : Nat) (h : 0 < k) : bestOf f g k < k := by
  induction k with
  | zero => omega
  | succ k ih =>
    unfold bestOf
    split
    · omega
    · cases k with
      | zero => simp [bestOf]
      | succ k => have := ih (by omega); omega
theorem bestOf_one (f g : Nat → Int) : bestOf f g 1 = 0 := by simp [bestOf]
/-- Each number is an int16. -/
def Is16 (n : Nat) (f : Nat → Int) : Prop := ∀ i, i < n → -32768 ≤ f i ∧ f i ≤ 32767
set_option maxRecDepth 100000 in
/-- An array of levels, opened. -/
theorem open_i16s {n : Nat} {t : TypeId} (ht : Tryz.prog.underlying t = some (.array n 57)) (hc : Tryz.prog.cellsOf t = n) {H : Type} {enc : TypeId × Value → H} {W : World} {r : Reach} {b0 : Nat} {v : Value} {d : DataW H} {ps : List MemPlace} (hv : Value.okWide Tryz.prog W r b0 t v) (h : DataW.Trod enc Tryz.prog W 0 (fun _ => true) true t v d ps) :
    ∃ f, v = .agg (i16s n f) ∧ Is16 n f := by
  obtain ⟨cs, rfl, hs⟩ := okWide_row ht hv
  obtain ⟨fuel, hf⟩ := h
  obtain ⟨f, hf'⟩ := ints_of_row ht Tryz.underlying57 (by kernel_rfl) hf
  refine ⟨f, ?_, fun i hi => ?_⟩
  · congr 1
    apply Array.ext
    · rw [hs, hc, i16s_size]
    · intro i h1 h2
      have := (hf' i (by rw [i16s_size] at h2; exact h2)).1
      have h3 := i16s_get n f i (by rw [i16s_size] at h2; exact h2)
      have e1 : cs[i]? = some (.int .i16 (f i)) := by simpa [Value.cells] using this
      rw [Array.getElem?_eq_getElem h1] at e1
      rw [Array.getElem?_eq_getElem h2] at h3
      exact Option.some.inj (e1.trans h3.symm)
  · have := (hf' i hi).2
    simp [Lit.wf, IntKind.min, IntKind.max, IntKind.signed, IntKind.bits] at this
    omega

/-- What both functions return. -/
def dropsOf (f g : Nat → Int) : Value := .tuple #[.int .i64 (bestOf f g 64), .int .i64 (f (bestOf f g 64) - g (bestOf f g 64))]

end Go.Proofs.YtdnnjahdcabdmaaGreatDoor
/- The walks that FnExactWaveFrom needs: sums of narrow numbers, and the wave that is seen in twelve levels. -/
namespace Go.Proofs.YtdnnjahdcabdmaaGreatDoor
open Go.ChangeShapes Go.WideShapes Go.ChangeAt Go.RowKit
set_option linter.unusedVariables false

/-- n narrow numbers. -/
@[irreducible] def fls (n : Nat) (f : Nat → Nat) : List Value := (List.range n).map fun i => .float .f32 (f i)
theorem fls_length (n : Nat) (f : Nat → Nat) : (fls n f).length = n := by simp [fls]
theorem fls_get (n : Nat) (f : Nat → Nat) (i : Nat) (h : i < n) : (fls n f)[i]? = some (.float .f32 (f i)) := by simp [fls, h]
theorem fls_zero (f : Nat → Nat) : fls 0 f = [] := by simp [fls]
theorem fls_succ (n : Nat) (f : Nat → Nat) : fls (n + 1) f = fls n f ++ [.float .f32 (f n)] := by simp [fls, List.range_succ]
theorem fls_congr {n : Nat} {f g : Nat → Nat} (h : ∀ i, i < n → f i = g i) : fls n f = fls n g := by
  unfold fls; apply List.map_congr_left; intro i hi; rw [h i (List.mem_range.1 hi)]
/-- f, but at n: b. -/
def upd (f : Nat → Nat) (n b : Nat) : Nat → Nat := fun i => if i = n then b else f i
theorem fls_snoc (n : Nat) (f : Nat → Nat) (b : Nat) : fls n f ++ [.float .f32 b] = fls (n + 1) (upd f n b) := by
  rw [fls_succ, fls_congr (g := upd f n b) (fun i hi => by simp [upd]; omega)]
  simp [upd]
/-- The sum of the first n numbers, from left to right. -/
def fsumTo (f : Nat → Nat) : Nat → Nat
  | 0 => 0
  | 1 => f 0
  | k + 2 => fop .add (fsumTo f (k + 1)) (f (k + 1))
theorem fsumTo_congr {f g : Nat → Nat} : ∀ (n : Nat), (∀ i, i < n → f i = g i) → fsumTo f n = fsumTo g n
  | 0, _ => rfl
  | 1, h => h 0 (by omega)
  | k + 2, h => by simp only [fsumTo]; rw [fsumTo_congr (k + 1) (fun i hi => h i (by omega)), h (k + 1) (by omega)]
theorem fsumTo_succ (f : Nat → Nat) (k : Nat) (h : 1 ≤ k) : fsumTo f (k + 1) = fop .add (fsumTo f k) (f k) := by
  obtain ⟨j, rfl⟩ : ∃ j, k = j + 1 := ⟨k - 1, by omega⟩
  rfl

end Go.Proofs.YtdnnjahdcabdmaaGreatDoor
/- Grounds in memory: a ground's cells, how they are read and set; grounds that a caller hands in, opened. -/
namespace Go.Proofs.YtdnnjahdcabdmaaGreatDoor
open Go.ChangeShapes Go.WideShapes Go.ChangeAt Go.RowKit
set_option linter.unusedVariables false
set_option linter.unusedSimpArgs false

@[go_sem] theorem run_store_float (P : Program) (w : World) (a : Addr) (m : Mode) (k : FloatKind) (b : Nat) : (store a (.float k b) m).run P w = stored P w a (.float k b) m := run_store P w a _ m rfl

/-- A ground's numbers. -/
structure Gr where
  wide : Int
  high : Int
  con : Nat → Nat
  gai : Nat → Nat
  hea : Nat → Nat
  fix : Int
def Gr.at (g : Gr) (i : Nat) : Value :=
  if i = 0 then .int .i8 g.wide else if i = 1 then .int .i8 g.high else if i < 66 then .float .f32 (g.con (i - 2)) else if i < 130 then .float .f32 (g.gai (i - 66)) else if i < 194 then .float .f32 (g.hea (i - 130)) else .int .u64 g.fix
@[irreducible] def Gr.cells (g : Gr) : Array Value := Array.ofFn (n := 195) fun i => g.at i
theorem Gr.size (g : Gr) : g.cells.size = 195 := by unfold Gr.cells; exact Array.size_ofFn
theorem Gr.get (g : Gr) (i : Nat) (h : i < 195) : g.cells[i]? = some (g.at i) := by unfold Gr.cells; rw [Array.getElem?_ofFn, dif_pos h]
theorem Gr.get0 (g : Gr) : g.cells[0]? = some (.int .i8 g.wide) := by rw [g.get 0 (by omega)]; rfl
theorem Gr.get1 (g : Gr) : g.cells[1]? = some (.int .i8 g.high) := by rw [g.get 1 (by omega)]; rfl
theorem Gr.getC (g : Gr) (k : Nat) (h : k < 64) : g.cells[2 + k]? = some (.float .f32 (g.con k)) := by
  rw [g.get _ (by omega)]; unfold Gr.at; rw [if_neg (by omega), if_neg (by omega), if_pos (by omega), show 2 + k - 2 = k by omega]
theorem Gr.getG (g : Gr) (k : Nat) (h : k < 64) : g.cells[66 + k]? = some (.float .f32 (g.gai k)) := by
  rw [g.get _ (by omega)]; unfold Gr.at; rw [if_neg (by omega), if_neg (by omega), if_neg (by omega), if_pos (by omega), show 66 + k - 66 = k by omega]
theorem Gr.getH (g : Gr) (k : Nat) (h : k < 64) : g.cells[130 + k]? = some (.float .f32 (g.hea k)) := by
  rw [g.get _ (by omega)]; unfold Gr.at; rw [if_neg (by omega), if_neg (by omega), if_neg (by omega), if_neg (by omega), if_pos (by omega), show 130 + k - 130 = k by omega]
theorem Gr.getF (g : Gr) : g.cells[194]? = some (.int .u64 g.fix) := by rw [g.get 194 (by omega)]; rfl
theorem Gr.one (g : Gr) : ∀ v ∈ g.cells.toList, v.oneCell' = true := by
  intro v hv
  rw [Array.mem_toList_iff] at hv
  obtain ⟨i, hi, rfl⟩ := Array.mem_iff_getElem.1 hv
  rw [g.size] at hi
  have h2 := g.get i hi
  rw [Array.getElem?_eq_getElem (by rw [g.size]; exact hi)] at h2
  rw [Option.some.inj h2]
  unfold Gr.at
  repeat' split
  all_goals rfl
theorem Gr.cells_of {cs : Array Value} (g : Gr) (hs : cs.size = 195) (h : ∀ i, i < 195 → cs[i]? = some (g.at i)) : cs = g.cells := by
  apply Array.ext_getElem?
  intro i
  by_cases hi : i < 195
  · rw [h i hi, g.get i hi]
  · rw [Array.getElem?_eq_none (by omega), Array.getElem?_eq_none (by rw [g.size]; omega)]
theorem Gr.set0 (g : Gr) (x : Int) : g.cells.setIfInBounds 0 (.int .i8 x) = ({ g with wide := x } : Gr).cells := by
  apply Gr.cells_of
  · simp [g.size]
  · intro i hi
    rw [Array.getElem?_setIfInBounds, g.get i hi]
    by_cases h : 0 = i
    · subst h; simp [g.size, Gr.at]
    · rw [if_neg h]; simp [Gr.at, Ne.symm h]
theorem Gr.set1 (g : Gr) (x : Int) : g.cells.setIfInBounds 1 (.int .i8 x) = ({ g with high := x } : Gr).cells := by
  apply Gr.cells_of
  · simp [g.size]
  · intro i hi
    rw [Array.getElem?_setIfInBounds, g.get i hi]
    by_cases h : 1 = i
    · subst h; simp [g.size, Gr.at]
    · rw [if_neg h]; simp [Gr.at, Ne.symm h]
theorem Gr.setF (g : Gr) (x : Int) : g.cells.setIfInBounds 194 (.int .u64 x) = ({ g with fix := x } : Gr).cells := by
  apply Gr.cells_of
  · simp [g.size]
  · intro i hi
    rw [Array.getElem?_setIfInBounds, g.get i hi]
    by_cases h : 194 = i
    · subst h; simp [g.size, Gr.at]
    · rw [if_neg h]
      unfold Gr.at
      simp only [show i < 194 by omega, if_true]
theorem Gr.setH (g : Gr) (k b : Nat) (hk : k < 64) : g.cells.setIfInBounds (130 + k) (.float .f32 b) = ({ g with hea := upd g.hea k b } : Gr).cells := by
  apply Gr.cells_of
  · simp [g.size]
  · intro i hi
    rw [Array.getElem?_setIfInBounds, g.get i hi, g.size]
    by_cases h : 130 + k = i
    · subst h
      rw [if_pos rfl, if_pos (by omega)]
      unfold Gr.at
      rw [if_neg (by omega), if_neg (by omega), if_neg (by omega), if_neg (by omega), if_pos (by omega), show 130 + k - 130 = k by omega]
      simp [upd]
    · rw [if_neg h]
      unfold Gr.at
      by_cases h2 : i < 130
      · simp only [h2, if_true]
      · by_cases h3 : i < 194
        · simp only [h2, h3, if_true, if_false, upd, show ¬ (i - 130 = k) by omega]
        · simp only [h2, h3, if_false]
/-- A cell behind a splice. -/
theorem splice_get (C : Array Value) (f : Nat) (c : Array Value) (hf : f + c.size ≤ C.size) (i : Nat) : (splice C f c)[i]? = if i < f then C[i]? else if i < f + c.size then c[i - f]? else C[i]? := by
  unfold splice
  have e1 : (List.take f C.toList).length = f := by simp; omega
  rw [List.getElem?_toArray, List.getElem?_append, List.getElem?_append, List.length_append, e1]
  by_cases h1 : i < f
  · rw [if_pos (by omega), if_pos h1, if_pos h1, List.getElem?_take, if_pos h1]; simp
  · rw [if_neg h1]
    by_cases h2 : i < f + c.size
    · rw [if_pos (by simpa using h2), if_neg h1, if_pos h2]; simp
    · rw [if_neg (by simpa using h2), if_neg h2, List.getElem?_drop]
      simp only [Array.length_toList]
      rw [show f + c.size + (i - (f + c.size)) = i by omega]; simp
theorem splice_size (C : Array Value) (f : Nat) (c : Array Value) (hf : f + c.size ≤ C.size) : (splice C f c).size = C.size := by
  unfold splice; simp; omega
theorem fls_size (n : Nat) (f : Nat → Nat) : (fls n f).toArray.size = n := by simp [fls_length]
theorem fls_one (n : Nat) (f : Nat → Nat) : ∀ v ∈ (fls n f).toArray.toList, v.oneCell' = true := by
  intro v hv; unfold fls at hv; simp at hv; obtain ⟨i, _, rfl⟩ := hv; rfl
theorem Gr.spC (g : Gr) (f : Nat → Nat) : splice g.cells 2 (fls 64 f).toArray = ({ g with con := f } : Gr).cells := by
  have hle : 2 + (fls 64 f).toArray.size ≤ g.cells.size := by rw [fls_size, g.size]; omega
  apply Gr.cells_of
  · rw [splice_size _ _ _ hle, g.size]
  · intro i hi
    rw [splice_get _ _ _ hle, fls_size, g.get i hi]
    unfold Gr.at
    by_cases h1 : i < 2
    · rw [if_pos h1]
      by_cases h0 : i = 0
      · simp [h0]
      · simp [show i = 1 by omega]
    · rw [if_neg h1]
      by_cases h2 : i < 66
      · rw [if_pos (by omega), List.getElem?_toArray, fls_get 64 f (i - 2) (by omega)]
        rw [if_neg (by omega), if_neg (by omega), if_pos h2]
      · rw [if_neg (by omega)]; simp only [h2, if_false]
theorem Gr.spG (g : Gr) (f : Nat → Nat) : splice g.cells 66 (fls 64 f).toArray = ({ g with gai := f } : Gr).cells := by
  have hle : 66 + (fls 64 f).toArray.size ≤ g.cells.size := by rw [fls_size, g.size]; omega
  apply Gr.cells_of
  · rw [splice_size _ _ _ hle, g.size]
  · intro i hi
    rw [splice_get _ _ _ hle, fls_size, g.get i hi]
    unfold Gr.at
    by_cases h1 : i < 66
    · rw [if_pos h1]; simp only [h1, if_true]
    · rw [if_neg h1]
      by_cases h2 : i < 130
      · rw [if_pos (by omega), List.getElem?_toArray, fls_get 64 f (i - 66) (by omega)]
        rw [if_neg (by omega), if_neg (by omega), if_neg (by omega), if_pos h2]
      · rw [if_neg (by omega)]; simp only [h2, if_false]
theorem Gr.spH (g : Gr) (f : Nat → Nat) : splice g.cells 130 (fls 64 f).toArray = ({ g with hea := f } : Gr).cells := by
  have hle : 130 + (fls 64 f).toArray.size ≤ g.cells.size := by rw [fls_size, g.size]; omega
  apply Gr.cells_of
  · rw [splice_size _ _ _ hle, g.size]
  · intro i hi
    rw [splice_get _ _ _ hle, fls_size, g.get i hi]
    unfold Gr.at
    by_cases h1 : i < 130
    · rw [if_pos h1]; simp only [h1, if_true]
    · rw [if_neg h1]
      by_cases h2 : i < 194
      · rw [if_pos (by omega), List.getElem?_toArray, fls_get 64 f (i - 130) (by omega)]
        rw [if_neg (by omega), if_neg (by omega), if_neg (by omega), if_neg (by omega), if_pos h2]
      · rw [if_neg (by omega)]; simp only [h2, if_false]
theorem fls_of {cs : Array Value} {n : Nat} {f : Nat → Nat} (hs : cs.size = n) (h : ∀ i, i < n → cs[i]? = some (.float .f32 (f i))) : cs = (fls n f).toArray := by
  apply Array.ext_getElem?
  intro i
  by_cases hi : i < n
  · rw [h i hi, List.getElem?_toArray, fls_get n f i hi]
  · rw [Array.getElem?_eq_none (by omega), Array.getElem?_eq_none (by rw [fls_size]; omega)]
theorem Gr.exC (g : Gr) : g.cells.extract 2 66 = (fls 64 g.con).toArray := fls_of (by simp [g.size]) fun i hi => by
  rw [Array.getElem?_extract, if_pos (by rw [g.size]; omega), g.getC i hi]
theorem Gr.exG (g : Gr) : g.cells.extract 66 130 = (fls 64 g.gai).toArray := fls_of (by simp [g.size]) fun i hi => by
  rw [Array.getElem?_extract, if_pos (by rw [g.size]; omega), g.getG i hi]
theorem Gr.exH (g : Gr) : g.cells.extract 130 194 = (fls 64 g.hea).toArray := fls_of (by simp [g.size]) fun i hi => by
  rw [Array.getElem?_extract, if_pos (by rw [g.size]; omega), g.getH i hi]

/-- A ground lies at the head of block b. -/
structure GAt (w : World) (b : Nat) (g : Gr) : Prop where
  lt : b < w.heap.size
  mem : ∀ i, i < 195 → w.cell? ⟨b, i, none⟩ = some (g.at i)
theorem cell_move {w w' : World} {b : Nat} (h : w'.heap[b]? = w.heap[b]?) (o : Nat) : w'.cell? ⟨b, o, none⟩ = w.cell? ⟨b, o, none⟩ := by
  unfold World.cell?; simp only [h]
theorem Blk.gat {w : World} {b : Nat} {g : Gr} {T : TypeId} (h : Blk w b g.cells T) : GAt w b g := ⟨h.lt, fun i hi => (h.cell i).trans (g.get i hi)⟩
section
variable {w w' : World} {b : Nat} {g : Gr}
theorem GAt.get0 (h : GAt w b g) : w.cell? ⟨b, 0, none⟩ = some (.int .i8 g.wide) := (h.mem 0 (by omega)).trans ((g.get 0 (by omega)).symm.trans g.get0)
theorem GAt.get1 (h : GAt w b g) : w.cell? ⟨b, 1, none⟩ = some (.int .i8 g.high) := (h.mem 1 (by omega)).trans ((g.get 1 (by omega)).symm.trans g.get1)
theorem GAt.getF (h : GAt w b g) : w.cell? ⟨b, 194, none⟩ = some (.int .u64 g.fix) := (h.mem 194 (by omega)).trans ((g.get 194 (by omega)).symm.trans g.getF)
theorem GAt.getC (h : GAt w b g) (k : Nat) (hk : k < 64) : w.cell? ⟨b, 2 + k, none⟩ = some (.float .f32 (g.con k)) := (h.mem (2 + k) (by omega)).trans ((g.get (2 + k) (by omega)).symm.trans (g.getC k hk))
theorem GAt.getG (h : GAt w b g) (k : Nat) (hk : k < 64) : w.cell? ⟨b, 66 + k, none⟩ = some (.float .f32 (g.gai k)) := (h.mem (66 + k) (by omega)).trans ((g.get (66 + k) (by omega)).symm.trans (g.getG k hk))
theorem GAt.getH (h : GAt w b g) (k : Nat) (hk : k < 64) : w.cell? ⟨b, 130 + k, none⟩ = some (.float .f32 (g.hea k)) := (h.mem (130 + k) (by omega)).trans ((g.get (130 + k) (by omega)).symm.trans (g.getH k hk))
theorem GAt.move (h : GAt w b g) (hm : w'.heap[b]? = w.heap[b]?) : GAt w' b g := by
  refine ⟨?_, fun i hi => (cell_move hm i).trans (h.mem i hi)⟩
  have hl := h.lt
  rw [Array.getElem?_eq_getElem hl] at hm
  exact lt_of_block hm
theorem GAt.below (h : GAt w b g) {B : Nat} (hb : Below B w w') (hB : b < B) : GAt w' b g := h.move (hb.block b hB)
theorem GAt.drewN (h : GAt w b g) (k : Nat) : GAt (w.drewN k) b g := h.move rfl
theorem GAt.alloc (h : GAt w b g) (o : Obj) : GAt (w.alloc o) b g := h.move (heap_alloc_old w o h.lt)
theorem GAt.grown (h : GAt w b g) {row : Option Nat} (hg : w.grownBy w' row) (hr : row ≠ some b) : GAt w' b g := h.move (hg.block b h.lt (Ne.symm hr))
end

theorem row66 : RowTy Tryz.prog 30 195 := ⟨_, Tryz.underlying30, rfl, by kernel_rfl⟩
theorem zero66 : ZeroTy Tryz.prog 30 (Gr.cells ⟨0, 0, fun _ => 0, fun _ => 0, fun _ => 0, 0⟩) := by unfold ZeroTy Gr.cells; kernel_rfl
theorem row58 : RowTy Tryz.prog 26 64 := ⟨_, Tryz.underlying26, rfl, by kernel_rfl⟩
theorem row64 : RowTy Tryz.prog 27 64 := ⟨_, Tryz.underlying27, rfl, by kernel_rfl⟩
theorem zero64 : ZeroTy Tryz.prog 27 (fls 64 fun _ => 0).toArray := by unfold ZeroTy fls; kernel_rfl
theorem fls_set (n : Nat) (f : Nat → Nat) (k b : Nat) (hk : k < n) : (fls n f).toArray.setIfInBounds k (.float .f32 b) = (fls n (upd f k b)).toArray := fls_of (by simp [fls_length]) fun i hi => by
  rw [Array.getElem?_setIfInBounds, fls_size]
  by_cases h : k = i
  · subst h; simp [hk, upd]
  · rw [if_neg h, List.getElem?_toArray, fls_get n f i hi]; simp [upd, Ne.symm h]

/-- Each number of a ground fits its kind. -/
structure Gr.ok (g : Gr) : Prop where
  wide : -128 ≤ g.wide ∧ g.wide ≤ 127
  high : -128 ≤ g.high ∧ g.high ≤ 127
  fix : 0 ≤ g.fix ∧ g.fix < 18446744073709551616

end Go.Proofs.YtdnnjahdcabdmaaGreatDoor
