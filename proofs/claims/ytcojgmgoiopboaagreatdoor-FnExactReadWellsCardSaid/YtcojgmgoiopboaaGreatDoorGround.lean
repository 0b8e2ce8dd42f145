/- Grounds in memory: a ground's cells, how they are read and set; grounds that a caller hands in, opened. -/
import Derived.Test.YtcojgmgoiopboaaGreatDoorWaveFrom
import Derived.Test.YtcojgmgoiopboaaGreatDoorTurn
namespace Go.Proofs.YtcojgmgoiopboaaGreatDoor
open Go.ChangeShapes Go.WideShapes Go.ChangeAt Go.RowKit
set_option linter.unusedVariables false
set_option linter.unusedSimpArgs false

@[go_sem] theorem run_store_float (P : Program) (w : World) (a : Addr) (m : Mode) (k : FloatKind) (b : Nat) : (store a (.float k b) m).run P w = stored P w a (.float k b) m := run_store P w a _ m rfl

/-- A ground's numbers. -/
structure Gr where
  wide : Int
  high : Int
  con : Nat → Nat
  gai : Nat → Nat
  hea : Nat → Nat
  fix : Int
def Gr.at (g : Gr) (i : Nat) : Value :=
  if i = 0 then .int .i8 g.wide else if i = 1 then .int .i8 g.high else if i < 66 then .float .f32 (g.con (i - 2)) else if i < 130 then .float .f32 (g.gai (i - 66)) else if i < 194 then .float .f32 (g.hea (i - 130)) else .int .u64 g.fix
@[irreducible] def Gr.cells (g : Gr) : Array Value := Array.ofFn (n := 195) fun i => g.at i
theorem Gr.size (g : Gr) : g.cells.size = 195 := by unfold Gr.cells; exact Array.size_ofFn
theorem Gr.get (g : Gr) (i : Nat) (h : i < 195) : g.cells[i]? = some (g.at i) := by unfold Gr.cells; rw [Array.getElem?_ofFn, dif_pos h]
theorem Gr.get0 (g : Gr) : g.cells[0]? = some (.int .i8 g.wide) := by rw [g.get 0 (by omega)]; rfl
theorem Gr.get1 (g : Gr) : g.cells[1]? = some (.int .i8 g.high) := by rw [g.get 1 (by omega)]; rfl
theorem Gr.getC (g : Gr) (k : Nat) (h : k < 64) : g.cells[2 + k]? = some (.float .f32 (g.con k)) := by
  rw [g.get _ (by omega)]; unfold Gr.at; rw [if_neg (by omega), if_neg (by omega), if_pos (by omega), show 2 + k - 2 = k by omega]
theorem Gr.getG (g : Gr) (k : Nat) (h : k < 64) : g.cells[66 + k]? = some (.float .f32 (g.gai k)) := by
  rw [g.get _ (by omega)]; unfold Gr.at; rw [if_neg (by omega), if_neg (by omega), if_neg (by omega), if_pos (by omega), show 66 + k - 66 = k by omega]
theorem Gr.getH (g : Gr) (k : Nat) (h : k < 64) : g.cells[130 + k]? = some (.float .f32 (g.hea k)) := by
  rw [g.get _ (by omega)]; unfold Gr.at; rw [if_neg (by omega), if_neg (by omega), if_neg (by omega), if_neg (by omega), if_pos (by omega), show 130 + k - 130 = k by omega]
theorem Gr.getF (g : Gr) : g.cells[194]? = some (.int .u64 g.fix) := by rw [g.get 194 (by omega)]; rfl
theorem Gr.one (g : Gr) : ∀ v ∈ g.cells.toList, v.oneCell' = true := by
  intro v hv
  rw [Array.mem_toList_iff] at hv
  obtain ⟨i, hi, rfl⟩ := Array.mem_iff_getElem.1 hv
  rw [g.size] at hi
  have h2 := g.get i hi
  rw [Array.getElem?_eq_getElem (by rw [g.size]; exact hi)] at h2
  rw [Option.some.inj h2]
  unfold Gr.at
  repeat' split
  all_goals rfl
theorem Gr.cells_of {cs : Array Value} (g : Gr) (hs : cs.size = 195) (h : ∀ i, i < 195 → cs[i]? = some (g.at i)) : cs = g.cells := by
  apply Array.ext_getElem?
  intro i
  by_cases hi : i < 195
  · rw [h i hi, g.get i hi]
  · rw [Array.getElem?_eq_none (by omega), Array.getElem?_eq_none (by rw [g.size]; omega)]
theorem Gr.set0 (g : Gr) (x : Int) : g.cells.setIfInBounds 0 (.int .i8 x) = ({ g with wide := x } : Gr).cells := by
  apply Gr.cells_of
  · simp [g.size]
  · intro i hi
    rw [Array.getElem?_setIfInBounds, g.get i hi]
    by_cases h : 0 = i
    · subst h; simp [g.size, Gr.at]
    · rw [if_neg h]; simp [Gr.at, Ne.symm h]
theorem Gr.set1 (g : Gr) (x : Int) : g.cells.setIfInBounds 1 (.int .i8 x) = ({ g with high := x } : Gr).cells := by
  apply Gr.cells_of
  · simp [g.size]
  · intro i hi
    rw [Array.getElem?_setIfInBounds, g.get i hi]
    by_cases h : 1 = i
    · subst h; simp [g.size, Gr.at]
    · rw [if_neg h]; simp [Gr.at, Ne.symm h]
theorem Gr.setF (g : Gr) (x : Int) : g.cells.setIfInBounds 194 (.int .u64 x) = ({ g with fix := x } : Gr).cells := by
  apply Gr.cells_of
  · simp [g.size]
  · intro i hi
    rw [Array.getElem?_setIfInBounds, g.get i hi]
    by_cases h : 194 = i
    · subst h; simp [g.size, Gr.at]
    · rw [if_neg h]
      unfold Gr.at
      simp only [show i < 194 by omega, if_true]
theorem Gr.setH (g : Gr) (k b : Nat) (hk : k < 64) : g.cells.setIfInBounds (130 + k) (.float .f32 b) = ({ g with hea := upd g.hea k b } : Gr).cells := by
  apply Gr.cells_of
  · simp [g.size]
  · intro i hi
    rw [Array.getElem?_setIfInBounds, g.get i hi, g.size]
    by_cases h : 130 + k = i
    · subst h
      rw [if_pos rfl, if_pos (by omega)]
      unfold Gr.at
      rw [if_neg (by omega), if_neg (by omega), if_neg (by omega), if_neg (by omega), if_pos (by omega), show 130 + k - 130 = k by omega]
      simp [upd]
    · rw [if_neg h]
      unfold Gr.at
      by_cases h2 : i < 130
      · simp only [h2, if_true]
      · by_cases h3 : i < 194
        · simp only [h2, h3, if_true, if_false, upd, show ¬ (i - 130 = k) by omega]
        · simp only [h2, h3, if_false]
/-- A cell behind a splice. -/
theorem splice_get (C : Array Value) (f : Nat) (c : Array Value) (hf : f + c.size ≤ C.size) (i : Nat) : (splice C f c)[i]? = if i < f then C[i]? else if i < f + c.size then c[i - f]? else C[i]? := by
  unfold splice
  have e1 : (List.take f C.toList).length = f := by simp; omega
  rw [List.getElem?_toArray, List.getElem?_append, List.getElem?_append, List.length_append, e1]
  by_cases h1 : i < f
  · rw [if_pos (by omega), if_pos h1, if_pos h1, List.getElem?_take, if_pos h1]; simp
  · rw [if_neg h1]
    by_cases h2 : i < f + c.size
    · rw [if_pos (by simpa using h2), if_neg h1, if_pos h2]; simp
    · rw [if_neg (by simpa using h2), if_neg h2, List.getElem?_drop]
      simp only [Array.length_toList]
      rw [show f + c.size + (i - (f + c.size)) = i by omega]; simp
theorem splice_size (C : Array Value) (f : Nat) (c : Array Value) (hf : f + c.size ≤ C.size) : (splice C f c).size = C.size := by
  unfold splice; simp; omega
theorem fls_size (n : Nat) (f : Nat → Nat) : (fls n f).toArray.size = n := by simp [fls_length]
theorem fls_one (n : Nat) (f : Nat → Nat) : ∀ v ∈ (fls n f).toArray.toList, v.oneCell' = true := by
  intro v hv; unfold fls at hv; simp at hv; obtain ⟨i, _, rfl⟩ := hv; rfl
theorem Gr.spC (g : Gr) (f : Nat → Nat) : splice g.cells 2 (fls 64 f).toArray = ({ g with con := f } : Gr).cells := by
  have hle : 2 + (fls 64 f).toArray.size ≤ g.cells.size := by rw [fls_size, g.size]; omega
  apply Gr.cells_of
  · rw [splice_size _ _ _ hle, g.size]
  · intro i hi
    rw [splice_get _ _ _ hle, fls_size, g.get i hi]
    unfold Gr.at
    by_cases h1 : i < 2
    · rw [if_pos h1]
      by_cases h0 : i = 0
      · simp [h0]
      · simp [show i = 1 by omega]
    · rw [if_neg h1]
      by_cases h2 : i < 66
      · rw [if_pos (by omega), List.getElem?_toArray, fls_get 64 f (i - 2) (by omega)]
        rw [if_neg (by omega), if_neg (by omega), if_pos h2]
      · rw [if_neg (by omega)]; simp only [h2, if_false]
theorem Gr.spG (g : Gr) (f : Nat → Nat) : splice g.cells 66 (fls 64 f).toArray = ({ g with gai := f } : Gr).cells := by
  have hle : 66 + (fls 64 f).toArray.size ≤ g.cells.size := by rw [fls_size, g.size]; omega
  apply Gr.cells_of
  · rw [splice_size _ _ _ hle, g.size]
  · intro i hi
    rw [splice_get _ _ _ hle, fls_size, g.get i hi]
    unfold Gr.at
    by_cases h1 : i < 66
    · rw [if_pos h1]; simp only [h1, if_true]
    · rw [if_neg h1]
      by_cases h2 : i < 130
      · rw [if_pos (by omega), List.getElem?_toArray, fls_get 64 f (i - 66) (by omega)]
        rw [if_neg (by omega), if_neg (by omega), if_neg (by omega), if_pos h2]
      · rw [if_neg (by omega)]; simp only [h2, if_false]
theorem Gr.spH (g : Gr) (f : Nat → Nat) : splice g.cells 130 (fls 64 f).toArray = ({ g with hea := f } : Gr).cells := by
  have hle : 130 + (fls 64 f).toArray.size ≤ g.cells.size := by rw [fls_size, g.size]; omega
  apply Gr.cells_of
  · rw [splice_size _ _ _ hle, g.size]
  · intro i hi
    rw [splice_get _ _ _ hle, fls_size, g.get i hi]
    unfold Gr.at
    by_cases h1 : i < 130
    · rw [if_pos h1]; simp only [h1, if_true]
    · rw [if_neg h1]
      by_cases h2 : i < 194
      · rw [if_pos (by omega), List.getElem?_toArray, fls_get 64 f (i - 130) (by omega)]
        rw [if_neg (by omega), if_neg (by omega), if_neg (by omega), if_neg (by omega), if_pos h2]
      · rw [if_neg (by omega)]; simp only [h2, if_false]
theorem fls_of {cs : Array Value} {n : Nat} {f : Nat → Nat} (hs : cs.size = n) (h : ∀ i, i < n → cs[i]? = some (.float .f32 (f i))) : cs = (fls n f).toArray := by
  apply Array.ext_getElem?
  intro i
  by_cases hi : i < n
  · rw [h i hi, List.getElem?_toArray, fls_get n f i hi]
  · rw [Array.getElem?_eq_none (by omega), Array.getElem?_eq_none (by rw [fls_size]; omega)]
theorem Gr.exC (g : Gr) : g.cells.extract 2 66 = (fls 64 g.con).toArray := fls_of (by simp [g.size]) fun i hi => by
  rw [Array.getElem?_extract, if_pos (by rw [g.size]; omega), g.getC i hi]
theorem Gr.exG (g : Gr) : g.cells.extract 66 130 = (fls 64 g.gai).toArray := fls_of (by simp [g.size]) fun i hi => by
  rw [Array.getElem?_extract, if_pos (by rw [g.size]; omega), g.getG i hi]
theorem Gr.exH (g : Gr) : g.cells.extract 130 194 = (fls 64 g.hea).toArray := fls_of (by simp [g.size]) fun i hi => by
  rw [Array.getElem?_extract, if_pos (by rw [g.size]; omega), g.getH i hi]

/-- A ground lies at the head of block b. -/
structure GAt (w : World) (b : Nat) (g : Gr) : Prop where
  lt : b < w.heap.size
  mem : ∀ i, i < 195 → w.cell? ⟨b, i, none⟩ = some (g.at i)
theorem cell_move {w w' : World} {b : Nat} (h : w'.heap[b]? = w.heap[b]?) (o : Nat) : w'.cell? ⟨b, o, none⟩ = w.cell? ⟨b, o, none⟩ := by
  unfold World.cell?; simp only [h]
theorem Blk.gat {w : World} {b : Nat} {g : Gr} {T : TypeId} (h : Blk w b g.cells T) : GAt w b g := ⟨h.lt, fun i hi => (h.cell i).trans (g.get i hi)⟩
section
variable {w w' : World} {b : Nat} {g : Gr}
theorem GAt.get0 (h : GAt w b g) : w.cell? ⟨b, 0, none⟩ = some (.int .i8 g.wide) := (h.mem 0 (by omega)).trans ((g.get 0 (by omega)).symm.trans g.get0)
theorem GAt.get1 (h : GAt w b g) : w.cell? ⟨b, 1, none⟩ = some (.int .i8 g.high) := (h.mem 1 (by omega)).trans ((g.get 1 (by omega)).symm.trans g.get1)
theorem GAt.getF (h : GAt w b g) : w.cell? ⟨b, 194, none⟩ = some (.int .u64 g.fix) := (h.mem 194 (by omega)).trans ((g.get 194 (by omega)).symm.trans g.getF)
theorem GAt.getC (h : GAt w b g) (k : Nat) (hk : k < 64) : w.cell? ⟨b, 2 + k, none⟩ = some (.float .f32 (g.con k)) := (h.mem (2 + k) (by omega)).trans ((g.get (2 + k) (by omega)).symm.trans (g.getC k hk))
theorem GAt.getG (h : GAt w b g) (k : Nat) (hk : k < 64) : w.cell? ⟨b, 66 + k, none⟩ = some (.float .f32 (g.gai k)) := (h.mem (66 + k) (by omega)).trans ((g.get (66 + k) (by omega)).symm.trans (g.getG k hk))
theorem GAt.getH (h : GAt w b g) (k : Nat) (hk : k < 64) : w.cell? ⟨b, 130 + k, none⟩ = some (.float .f32 (g.hea k)) := (h.mem (130 + k) (by omega)).trans ((g.get (130 + k) (by omega)).symm.trans (g.getH k hk))
theorem GAt.move (h : GAt w b g) (hm : w'.heap[b]? = w.heap[b]?) : GAt w' b g := by
  refine ⟨?_, fun i hi => (cell_move hm i).trans (h.mem i hi)⟩
  have hl := h.lt
  rw [Array.getElem?_eq_getElem hl] at hm
  exact lt_of_block hm
theorem GAt.below (h : GAt w b g) {B : Nat} (hb : Below B w w') (hB : b < B) : GAt w' b g := h.move (hb.block b hB)
theorem GAt.drewN (h : GAt w b g) (k : Nat) : GAt (w.drewN k) b g := h.move rfl
theorem GAt.alloc (h : GAt w b g) (o : Obj) : GAt (w.alloc o) b g := h.move (heap_alloc_old w o h.lt)
theorem GAt.grown (h : GAt w b g) {row : Option Nat} (hg : w.grownBy w' row) (hr : row ≠ some b) : GAt w' b g := h.move (hg.block b h.lt (Ne.symm hr))
end

theorem row66 : RowTy Tryz.prog 34 195 := ⟨_, Tryz.underlying34, rfl, by kernel_rfl⟩
theorem zero66 : ZeroTy Tryz.prog 34 (Gr.cells ⟨0, 0, fun _ => 0, fun _ => 0, fun _ => 0, 0⟩) := by unfold ZeroTy Gr.cells; kernel_rfl
theorem row58 : RowTy Tryz.prog 30 64 := ⟨_, Tryz.underlying30, rfl, by kernel_rfl⟩
theorem row64 : RowTy Tryz.prog 31 64 := ⟨_, Tryz.underlying31, rfl, by kernel_rfl⟩
theorem zero64 : ZeroTy Tryz.prog 31 (fls 64 fun _ => 0).toArray := by unfold ZeroTy fls; kernel_rfl
theorem fls_set (n : Nat) (f : Nat → Nat) (k b : Nat) (hk : k < n) : (fls n f).toArray.setIfInBounds k (.float .f32 b) = (fls n (upd f k b)).toArray := fls_of (by simp [fls_length]) fun i hi => by
  rw [Array.getElem?_setIfInBounds, fls_size]
  by_cases h : k = i
  · subst h; simp [hk, upd]
  · rw [if_neg h, List.getElem?_toArray, fls_get n f i hi]; simp [upd, Ne.symm h]

/-- Each number of a ground fits its kind. -/
structure Gr.ok (g : Gr) : Prop where
  wide : -128 ≤ g.wide ∧ g.wide ≤ 127
  high : -128 ≤ g.high ∧ g.high ≤ 127
  fix : 0 ≤ g.fix ∧ g.fix < 18446744073709551616

end Go.Proofs.YtcojgmgoiopboaaGreatDoor
