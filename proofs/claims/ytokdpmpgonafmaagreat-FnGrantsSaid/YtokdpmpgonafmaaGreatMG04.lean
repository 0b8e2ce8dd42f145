import Derived.Test.YtokdpmpgonafmaaGreatMG03
import Derived.Test.YtokdpmpgonafmaaGreatMG02
/- Grounds in memory: a ground's cells, how they are read and set; grounds that a caller hands in, opened. -/
namespace Go.Proofs.YtokdpmpgonafmaaGreat
open Go.ChangeShapes Go.WideShapes Go.ChangeAt Go.RowKit
set_option linter.unusedVariables false
set_option linter.unusedSimpArgs false

@[go_sem] theorem run_store_float (P : Program) (w : World) (a : Addr) (m : Mode) (k : FloatKind) (b : Nat) : (store a (.float k b) m).run P w = stored P w a (.float k b) m := run_store P w a _ m rfl

/-- A ground's numbers. -/
structure Gr where
  wide : Int
  high : Int
  con : Nat → Nat
  gai : Nat → Nat
  hea : Nat → Nat
  fix : Int
def Gr.at (g : Gr) (i : Nat) : Value :=
  if i = 0 then .int .i8 g.wide else if i = 1 then .int .i8 g.high else if i < 66 then .float .f32 (g.con (i - 2)) else if i < 130 then .float .f32 (g.gai (i - 66)) else if i < 194 then .float .f32 (g.hea (i - 130)) else .int .u64 g.fix
@[irreducible] def Gr.cells (g : Gr) : Array Value := Array.ofFn (n := 195) fun i => g.at i
theorem Gr.size (g : Gr) : g.cells.size = 195 := by unfold Gr.cells; exact Array.size_ofFn
theorem Gr.get (g : Gr) (i : Nat) (h : i < 195) : g.cells[i]? = some (g.at i) := by unfold Gr.cells; rw [Array.getElem?_ofFn, dif_pos h]
theorem Gr.get0 (g : Gr) : g.cells[0]? = some (.int .i8 g.wide) := by rw [g.get 0 (by omega)]; rfl
theorem Gr.get1 (g : Gr) : g.cells[1]? = some (.int .i8 g.high) := by rw [g.get 1 (by omega)]; rfl
theorem Gr.getC (g : Gr) (k : Nat) (h : k < 64) : g.cells[2 + k]? = some (.float .f32 (g.con k)) := by
  rw [g.get _ (by omega)]; unfold Gr.at; rw [if_neg (by omega), if_neg (by omega), if_pos (by omega), show 2 + k - 2 = k by omega]
theorem Gr.getG (g : Gr) (k : Nat) (h : k < 64) : g.cells[66 + k]? = some (.float .f32 (g.gai k)) := by
  rw [g.get _ (by omega)]; unfold Gr.at; rw [if_neg (by omega), if_neg (by omega), if_neg (by omega), if_pos (by omega), show 66 + k - 66 = k by omega]
theorem Gr.getH (g : Gr) (k : Nat) (h : k < 64) : g.cells[130 + k]? = some (.float .f32 (g.hea k)) := by
  rw [g.get _ (by omega)]; unfold Gr.at; rw [if_neg (by omega), if_neg (by omega), if_neg (by omega), if_neg (by omega), if_pos (by omega), show 130 + k - 130 = k by omega]
theorem Gr.getF (g : Gr) : g.cells[194]? = some (.int .u64 g.fix) := by rw [g.get 194 (by omega)]; rfl
theorem Gr.one (g : Gr) : ∀ v ∈ g.cells.toList, v.oneCell' = true := by
  intro v hv
  rw [Array.mem_toList_iff] at hv
  obtain ⟨i, hi, rfl⟩ := Array.mem_iff_getElem.1 hv
  rw [g.size] at hi
  have h2 := g.get i hi
  rw [Array.getElem?_eq_getElem (by rw [g.size]; exact hi)] at h2
  rw [Option.some.inj h2]
  unfold Gr.at
  repeat' split
  all_goals rfl
theorem Gr.cells_of {cs : Array Value} (g : Gr) (hs : cs.size = 195) (h : ∀ i, i < 195 → cs[i]? = some (g.at i)) : cs = g.cells := by
  apply Array.ext_getElem?
  intro i
  by_cases hi : i < 195
  · rw [h i hi, g.get i hi]
  · rw [Array.getElem?_eq_none (by omega), Array.getElem?_eq_none (by rw [g.size]; omega)]
theorem Gr.set0 (g : Gr) (x : Int) : g.cells.setIfInBounds 0 (.int .i8 x) = ({ g with wide := x } : Gr).cells := by
  apply Gr.cells_of
  · simp [g.size]
  · intro i hi
    rw [Array.getElem?_setIfInBounds, g.get i hi]
    by_cases h : 0 = i
    · subst h; simp [g.size, Gr.at]
    · rw [if_neg h]; simp [Gr.at, Ne.symm h]
theorem Gr.set1 (g : Gr) (x : Int) : g.cells.setIfInBounds 1 (.int .i8 x) = ({ g with high := x } : Gr).cells := by
  apply Gr.cells_of
  · simp [g.size]
  · intro i hi
    rw [Array.getElem?_setIfInBounds, g.get i hi]
    by_cases h : 1 = i
    · subst h; simp [g.size, Gr.at]
    · rw [if_neg h]; simp [Gr.at, Ne.symm h]
theorem Gr.setF (g : Gr) (x : Int) : g.cells.setIfInBounds 194 (.int .u64 x) = ({ g with fix := x } : Gr).cells := by
  apply Gr.cells_of
  · simp [g.size]
  · intro i hi
    rw [Array.getElem?_setIfInBounds, g.get i hi]
    by_cases h : 194 = i
    · subst h; simp [g.size, Gr.at]
    · rw [if_neg h]
      unfold Gr.at
      simp only [show i < 194 by omega, if_true]
theorem Gr.setH (g : Gr) (k b : Nat) (hk : k < 64) : g.cells.setIfInBounds (130 + k) (.float .f32 b) = ({ g with hea := upd g.hea k b } : Gr).cells := by
  apply Gr.cells_of
  · simp [g.size]
  · intro i hi
    rw [Array.getElem?_setIfInBounds, g.get i hi, g.size]
    by_cases h : 130 + k = i
    · subst h
      rw [if_pos rfl, if_pos (by omega)]
      unfold Gr.at
      rw [if_neg (by omega), if_neg (by omega), if_neg (by omega), if_neg (by omega), if_pos (by omega), show 130 + k - 130 = k by omega]
      simp [upd]
    · rw [if_neg h]
      unfold Gr.at
      by_cases h2 : i < 130
      · simp only [h2, if_true]
      · by_cases h3 : i < 194
        · simp only [h2, h3, if_true, if_false, upd, show ¬ (i - 130 = k) by omega]
        · simp only [h2, h3, if_false]
/-- A cell behind a splice. -/
theorem splice_get (C : Array Value) (f : Nat) (c : Array Value) (hf : f + c.size ≤ C.size) (i : Nat) : (splice C f c)[i]? = if i < f then C[i]? else if i < f + c.size then c[i - f]? else C[i]? := by
  unfold splice
  have e1 : (List.take f C.toList).length = f := by simp; omega
  rw [List.getElem?_toArray, List.getElem?_append, List.getElem?_append, List.length_append, e1]
  by_cases h1 : i < f
  · rw [if_pos (by omega), if_pos h1, if_pos h1, List.getElem?_take, if_pos h1]; simp
  · rw [if_neg h1]
    by_cases h2 : i < f + c.size
    · rw [if_pos (by simpa using h2), if_neg h1, if_pos h2]; simp
    · rw [if_neg (by simpa using h2), if_neg h2, List.getElem?_drop]
      simp only [Array.length_toList]
      rw [show f + c.size + (i - (f + c.size)) = i by omega]; simp
theorem splice_size (C : Array Value) (f : Nat) (c : Array Value) (hf : f + c.size ≤ C.size) : (splice C f c).size = C.size := by
  unfold splice; simp; omega
theorem fls_size (n : Nat) (f : Nat → Nat) : (fls n f).toArray.size = n := by simp [fls_length]
theorem fls_one (n : Nat) (f : Nat → Nat) : ∀ v ∈ (fls n f).toArray.toList, v.oneCell' = true := by
  intro v hv; unfold fls at hv; simp at hv; obtain ⟨i, _, rfl⟩ := hv; rfl
theorem Gr.spC (g : Gr) (f : Nat → Nat) : splice g.cells 2 (fls 64 f).toArray = ({ g with con := f } : Gr).cells := by
  have hle : 2 + (fls 64 f).toArray.size ≤ g.cells.size := by rw [fls_size, g.size]; omega
  apply Gr.cells_of
  · rw [splice_size _ _ _ hle, g.size]
  · intro i hi
    rw [splice_get _ _ _ hle, fls_size, g.get i hi]
    unfold Gr.at
    by_cases h1 : i < 2
    · rw [if_pos h1]
      by_cases h0 : i = 0
      · simp [h0]
      · simp [show i = 1 by omega]
    · rw [if_neg h1]
      by_cases h2 : i < 66
      · rw [if_pos (by omega), List.getElem?_toArray, fls_get 64 f (i - 2) (by omega)]
        rw [if_neg (by omega), if_neg (by omega), if_pos h2]
      · rw [if_neg (by omega)]; simp only [h2, if_false]
theorem Gr.spG (g : Gr) (f : Nat → Nat) : splice g.cells 66 (fls 64 f).toArray = ({ g with gai := f } : Gr).cells := by
  have hle : 66 + (fls 64 f).toArray.size ≤ g.cells.size := by rw [fls_size, g.size]; omega
  apply Gr.cells_of
  · rw [splice_size _ _ _ hle, g.size]
  · intro i hi
    rw [splice_get _ _ _ hle, fls_size, g.get i hi]
    unfold Gr.at
    by_cases h1 : i < 66
    · rw [if_pos h1]; simp only [h1, if_true]
    · rw [if_neg h1]
      by_cases h2 : i < 130
      · rw [if_pos (by omega), List.getElem?_toArray, fls_get 64 f (i - 66) (by omega)]
        rw [if_neg (by omega), if_neg (by omega), if_neg (by omega), if_pos h2]
      · rw [if_neg (by omega)]; simp only [h2, if_false]
theorem Gr.spH (g : Gr) (f : Nat → Nat) : splice g.cells 130 (fls 64 f).toArray = ({ g with hea := f } : Gr).cells := by
  have hle : 130 + (fls 64 f).toArray.size ≤ g.cells.size := by rw [fls_size, g.size]; omega
  apply Gr.cells_of
  · rw [splice_size _ _ _ hle, g.size]
  · intro i hi
    rw [splice_get _ _ _ hle, fls_size, g.get i hi]
    unfold Gr.at
    by_cases h1 : i < 130
    · rw [if_pos h1]; simp only [h1, if_true]
    · rw [if_neg h1]
      by_cases h2 : i < 194
      · rw [if_pos (by omega), List.getElem?_toArray, fls_get 64 f (i - 130) (by omega)]
        rw [if_neg (by omega), if_neg (by omega), if_neg (by omega), if_neg (by omega), if_pos h2]
      · rw [if_neg (by omega)]; simp only [h2, if_false]
theorem fls_of {cs : Array Value} {n : Nat} {f : Nat → Nat} (hs : cs.size = n) (h : ∀ i, i < n → cs[i]? = some (.float .f32 (f i))) : cs = (fls n f).toArray := by
  apply Array.ext_getElem?
  intro i
  by_cases hi : i < n
  · rw [h i hi, List.getElem?_toArray, fls_get n f i hi]
  · rw [Array.getElem?_eq_none (by omega), Array.getElem?_eq_none (by rw [fls_size]; omega)]
theorem Gr.exC (g : Gr) : g.cells.extract 2 66 = (fls 64 g.con).toArray := fls_of (by simp [g.size]) fun i hi => by
  rw [Array.getElem?_extract, if_pos (by rw [g.size]; omega), g.getC i hi]
theorem Gr.exG (g : Gr) : g.cells.extract 66 130 = (fls 64 g.gai).toArray := fls_of (by simp [g.size]) fun i hi => by
  rw [Array.getElem?_extract, if_pos (by rw [g.size]; omega), g.getG i hi]
theorem Gr.exH (g : Gr) : g.cells.extract 130 194 = (fls 64 g.hea).toArray := fls_of (by simp [g.size]) fun i hi => by
  rw [Array.getElem?_extract, if_pos (by rw [g.size]; omega), g.getH i hi]

/-- A ground lies at the head of block b. -/
structure GAt (w : World) (b : Nat) (g : Gr) : Prop where
  lt : b < w.heap.size
  mem : ∀ i, i < 195 → w.cell? ⟨b, i, none⟩ = some (g.at i)
theorem cell_move {w w' : World} {b : Nat} (h : w'.heap[b]? = w.heap[b]?) (o : Nat) : w'.cell? ⟨b, o, none⟩ = w.cell? ⟨b, o, none⟩ := by
  unfold World.cell?; simp only [h]
theorem Blk.gat {w : World} {b : Nat} {g : Gr} {T : TypeId} (h : Blk w b g.cells T) : GAt w b g := ⟨h.lt, fun i hi => (h.cell i).trans (g.get i hi)⟩
section
variable {w w' : World} {b : Nat} {g : Gr}
theorem GAt.get0 (h : GAt w b g) : w.cell? ⟨b, 0, none⟩ = some (.int .i8 g.wide) := (h.mem 0 (by omega)).trans ((g.get 0 (by omega)).symm.trans g.get0)
theorem GAt.get1 (h : GAt w b g) : w.cell? ⟨b, 1, none⟩ = some (.int .i8 g.high) := (h.mem 1 (by omega)).trans ((g.get 1 (by omega)).symm.trans g.get1)
theorem GAt.getF (h : GAt w b g) : w.cell? ⟨b, 194, none⟩ = some (.int .u64 g.fix) := (h.mem 194 (by omega)).trans ((g.get 194 (by omega)).symm.trans g.getF)
theorem GAt.getC (h : GAt w b g) (k : Nat) (hk : k < 64) : w.cell? ⟨b, 2 + k, none⟩ = some (.float .f32 (g.con k)) := (h.mem (2 + k) (by omega)).trans ((g.get (2 + k) (by omega)).symm.trans (g.getC k hk))
theorem GAt.getG (h : GAt w b g) (k : Nat) (hk : k < 64) : w.cell? ⟨b, 66 + k, none⟩ = some (.float .f32 (g.gai k)) := (h.mem (66 + k) (by omega)).trans ((g.get (66 + k) (by omega)).symm.trans (g.getG k hk))
theorem GAt.getH (h : GAt w b g) (k : Nat) (hk : k < 64) : w.cell? ⟨b, 130 + k, none⟩ = some (.float .f32 (g.hea k)) := (h.mem (130 + k) (by omega)).trans ((g.get (130 + k) (by omega)).symm.trans (g.getH k hk))
theorem GAt.move (h : GAt w b g) (hm : w'.heap[b]? = w.heap[b]?) : GAt w' b g := by
  refine ⟨?_, fun i hi => (cell_move hm i).trans (h.mem i hi)⟩
  have hl := h.lt
  rw [Array.getElem?_eq_getElem hl] at hm
  exact lt_of_block hm
theorem GAt.below (h : GAt w b g) {B : Nat} (hb : Below B w w') (hB : b < B) : GAt w' b g := h.move (hb.block b hB)
theorem GAt.drewN (h : GAt w b g) (k : Nat) : GAt (w.drewN k) b g := h.move rfl
theorem GAt.alloc (h : GAt w b g) (o : Obj) : GAt (w.alloc o) b g := h.move (heap_alloc_old w o h.lt)
theorem GAt.grown (h : GAt w b g) {row : Option Nat} (hg : w.grownBy w' row) (hr : row ≠ some b) : GAt w' b g := h.move (hg.block b h.lt (Ne.symm hr))
end

theorem row61 : RowTy Tryz.prog 27 195 := ⟨_, Tryz.underlying27, rfl, by kernel_rfl⟩
theorem row66 : RowTy Tryz.prog 39 195 := ⟨_, Tryz.underlying39, rfl, by kernel_rfl⟩
theorem zero66 : ZeroTy Tryz.prog 39 (Gr.cells ⟨0, 0, fun _ => 0, fun _ => 0, fun _ => 0, 0⟩) := by unfold ZeroTy Gr.cells; kernel_rfl
theorem row58 : RowTy Tryz.prog 24 64 := ⟨_, Tryz.underlying24, rfl, by kernel_rfl⟩
theorem row64 : RowTy Tryz.prog 37 64 := ⟨_, Tryz.underlying37, rfl, by kernel_rfl⟩
theorem zero64 : ZeroTy Tryz.prog 37 (fls 64 fun _ => 0).toArray := by unfold ZeroTy fls; kernel_rfl
theorem fls_set (n : Nat) (f : Nat → Nat) (k b : Nat) (hk : k < n) : (fls n f).toArray.setIfInBounds k (.float .f32 b) = (fls n (upd f k b)).toArray := fls_of (by simp [fls_length]) fun i hi => by
  rw [Array.getElem?_setIfInBounds, fls_size]
  by_cases h : k = i
  · subst h; simp [hk, upd]
  · rw [if_neg h, List.getElem?_toArray, fls_get n f i hi]; simp [upd, Ne.symm h]

set_option maxRecDepth 100000 in
set_option maxHeartbeats 400000 in
theorem toField_any (f : Nat → Nat) (w : World) :
    Calls Tryz.prog 64 #[.agg (fls 64 f).toArray] w fun e w' => e = .returned (.agg (fls 64 f).toArray) ∧ Below w.heap.size w w' := by
  go_enter Tryz.func64, Tryz.ntmps64
  go_wp2_with (first | (refine wpList_alloc_as rfl rfl zero64 ?_) | (refine wpList_box_as rfl rfl rfl ?_))
  have hA : Blk (((w.alloc (.cells (fls 64 f).toArray 24)).alloc (.cells (fls 64 fun _ => 0).toArray 37)).alloc (.cells (fls 64 fun _ => 0).toArray 37)) w.heap.size (fls 64 f).toArray 24 := ((Blk.new _ _ _).alloc _).alloc _
  have hB : Blk (((w.alloc (.cells (fls 64 f).toArray 24)).alloc (.cells (fls 64 fun _ => 0).toArray 37)).alloc (.cells (fls 64 fun _ => 0).toArray 37)) (w.heap.size + 1) (fls 64 fun _ => 0).toArray 37 := (Blk.new1 _ _ _ _).alloc _
  have hC : Blk (((w.alloc (.cells (fls 64 f).toArray 24)).alloc (.cells (fls 64 fun _ => 0).toArray 37)).alloc (.cells (fls 64 fun _ => 0).toArray 37)) (w.heap.size + 1 + 1) (fls 64 fun _ => 0).toArray 37 := Blk.new2 _ _ _ _ _
  have hbel := below3 w (.cells (fls 64 f).toArray 24) (.cells (fls 64 fun _ => 0).toArray 37) (.cells (fls 64 fun _ => 0).toArray 37)
  generalize (((w.alloc (.cells (fls 64 f).toArray 24)).alloc (.cells (fls 64 fun _ => 0).toArray 37)).alloc (.cells (fls 64 fun _ => 0).toArray 37)) = W at *
  go_loopw [4] (fun i wr => ∃ k : Nat, k ≤ 64 ∧ i = .int .i64 k ∧ Blk wr w.heap.size (fls 64 f).toArray 24 ∧ Blk wr (w.heap.size + 1) (fls 64 fun _ => 0).toArray 37 ∧ Blk wr (w.heap.size + 1 + 1) (fls 64 fun j => if j < k then f j else 0).toArray 37 ∧ Below w.heap.size w wr) (fun i _ => 64 - (intOf i).toNat)
  case atStart => exact ⟨0, by omega, rfl, hA, hB, by simpa using hC, hbel⟩
  case round =>
    clear hA hB hC hbel
    obtain ⟨k, hk, rfl, hA, hB, hC, hbel⟩ := hrel
    by_cases hlt : k < 64
    · have c1 : wr.cell? ⟨w.heap.size, k, none⟩ = some (.float .f32 (f k)) := (hA.cell _).trans (by rw [List.getElem?_toArray, fls_get 64 f k hlt])
      have c2 : wr.cell? ⟨w.heap.size + 1 + 1, k, none⟩ = some (.float .f32 0) := (hC.cell _).trans (by rw [List.getElem?_toArray, fls_get 64 _ k hlt]; simp)
      have f2 := hC.free k
      have bk : (0 : Int) ≤ k := by omega
      have bl : (k : Int) < 64 := by omega
      go_wp2_with fail
      go_roundw
      case rel =>
        refine ⟨k + 1, by omega, by go_num, hA.setOther _ (by show w.heap.size ≠ w.heap.size + 1 + 1; omega), hB.setOther _ (by show w.heap.size + 1 ≠ w.heap.size + 1 + 1; omega), ?_, hbel.setCell (p := ⟨w.heap.size + 1 + 1, k, none⟩) (by show w.heap.size ≤ w.heap.size + 1 + 1; omega) _⟩
        have := hC.setCell k (.float .f32 (f k))
        rw [fls_set _ _ _ _ hlt, fls_congr (g := fun j => if j < k + 1 then f j else 0) (fun i hi => by
          by_cases hik : i = k
          · subst hik; simp [upd]
          · simp only [upd, hik, if_false, show i < k + 1 ↔ i < k by omega])] at this
        exact this
      case measure => simp [intOf]; omega
    · obtain rfl : k = 64 := by omega
      rw [fls_congr (g := f) (fun i hi => by simp [hi])] at hC
      go_wp2_with (first | (refine wpList_load_blk rfl rfl rfl row64 hC (fls_size _ _) ?_) | (refine wpList_store_blk rfl rfl rfl rfl row64 hB (fls_size _ _) (fls_size _ _) (fls_one _ _) ?_))
      refine bodyPost_row rfl rfl row64 (hB.setRow _) (fls_size _ _) rfl ⟨rfl, below_setRow hbel (by omega) _⟩
/-- Each number of a ground fits its kind. -/
structure Gr.ok (g : Gr) : Prop where
  wide : -128 ≤ g.wide ∧ g.wide ≤ 127
  high : -128 ≤ g.high ∧ g.high ≤ 127
  fix : 0 ≤ g.fix ∧ g.fix < 18446744073709551616

set_option maxRecDepth 100000 in
set_option maxHeartbeats 400000 in
theorem toGround_any (g : Gr) (w : World) :
    Calls Tryz.prog 36 #[.agg g.cells] w fun e w' => e = .returned (.agg g.cells) ∧ Below w.heap.size w w' := by
  go_enter Tryz.func36, Tryz.ntmps36
  generalize hz : (⟨0, 0, fun _ => 0, fun _ => 0, fun _ => 0, 0⟩ : Gr) = z
  have zero66' := zero66
  rw [hz] at zero66'
  clear hz
  go_upto_region 2 with (first | (refine wpList_alloc_as rfl rfl zero66' ?_) | (refine wpList_box_as rfl rfl rfl ?_))
  have hA : Blk (((w.alloc (.cells g.cells 27)).alloc (.cells z.cells 39)).alloc (.cells z.cells 39)) w.heap.size g.cells 27 := ((Blk.new _ _ _).alloc _).alloc _
  have hB : Blk (((w.alloc (.cells g.cells 27)).alloc (.cells z.cells 39)).alloc (.cells z.cells 39)) (w.heap.size + 1) z.cells 39 := (Blk.new1 _ _ _ _).alloc _
  have hC : Blk (((w.alloc (.cells g.cells 27)).alloc (.cells z.cells 39)).alloc (.cells z.cells 39)) (w.heap.size + 1 + 1) z.cells 39 := Blk.new2 _ _ _ _ _
  have hbel := below3 w (.cells g.cells 27) (.cells z.cells 39) (.cells z.cells 39)
  have e2 : ((w.alloc (.cells g.cells 27)).alloc (.cells z.cells 39)).heap.size = w.heap.size + 1 + 1 := by simp
  have e1 : (w.alloc (.cells g.cells 27)).heap.size = w.heap.size + 1 := by simp
  rw [e2, e1]
  clear e1 e2
  generalize (((w.alloc (.cells g.cells 27)).alloc (.cells z.cells 39)).alloc (.cells z.cells 39)) = W at *
  obtain ⟨r, hr⟩ : ∃ r, r = w.heap.size + 1 + 1 := ⟨_, rfl⟩
  obtain ⟨q, hq⟩ : ∃ q, q = w.heap.size + 1 := ⟨_, rfl⟩
  obtain ⟨s, hs⟩ : ∃ s, s = w.heap.size := ⟨_, rfl⟩
  rw [← hr] at hC ⊢
  rw [← hq] at hB ⊢
  rw [← hs] at hA ⊢
  have n1 : s ≠ r := by omega
  have n2 : q ≠ r := by omega
  have n3 : w.heap.size ≤ r := by omega
  have n4 : w.heap.size ≤ q := by omega
  clear hr hq hs
  have c0 : W.cell? ⟨s, 0, none⟩ = some (.int .i8 g.wide) := (hA.cell _).trans g.get0
  have d0 : W.cell? ⟨r, 0, none⟩ = some (.int .i8 z.wide) := (hC.cell _).trans z.get0
  have f0 := hC.free 0
  go_upto_region 3 with fail
  have hC := hC.setCell 0 (.int .i8 g.wide)
  rw [Gr.set0] at hC
  have hA := hA.setOther (a := ⟨r, 0, none⟩) (.int .i8 g.wide) n1
  have hB := hB.setOther (a := ⟨r, 0, none⟩) (.int .i8 g.wide) n2
  have hbel := hbel.setCell (p := ⟨r, 0, none⟩) n3 (.int .i8 g.wide)
  generalize W.setCell ⟨r, 0, none⟩ (.int .i8 g.wide) = W1 at *
  clear c0 d0 f0
  generalize hz1 : ({ z with wide := g.wide } : Gr) = z1 at *
  have w1 : z1.wide = g.wide := by rw [← hz1]
  clear hz1
  have c1 : W1.cell? ⟨s, 1, none⟩ = some (.int .i8 g.high) := (hA.cell _).trans g.get1
  have d1 : W1.cell? ⟨r, 1, none⟩ = some (.int .i8 z1.high) := (hC.cell _).trans z1.get1
  have f1 := hC.free 1
  go_upto_region 4 with fail
  have hC := hC.setCell 1 (.int .i8 g.high)
  rw [Gr.set1] at hC
  have hA := hA.setOther (a := ⟨r, 1, none⟩) (.int .i8 g.high) n1
  have hB := hB.setOther (a := ⟨r, 1, none⟩) (.int .i8 g.high) n2
  have hbel := hbel.setCell (p := ⟨r, 1, none⟩) n3 (.int .i8 g.high)
  generalize W1.setCell ⟨r, 1, none⟩ (.int .i8 g.high) = W2 at *
  clear c1 d1 f1
  generalize hz2 : ({ z1 with high := g.high } : Gr) = z2 at *
  have w2 : z2.wide = g.wide ∧ z2.high = g.high := by rw [← hz2]; exact ⟨w1, rfl⟩
  clear hz2 w1
  have hC := hC
  have lA := hA.lt
  have lB := hB.lt
  have lC := hC.lt
  have ht := fun f w' => toField_any f w'
  go_upto_region 5 with (first
    | (refine wpList_load_part rfl rfl rfl row58 hA (by rw [g.size]; omega) ?_; rw [g.exC])
    | (go_at_call 64; refine (ht _ _).mono ?_; rintro e W3 ⟨rfl, hb3⟩; have hC3 := hC.below hb3 lC)
    | (refine wpList_store_part rfl rfl rfl rfl row64 hC3 (by rw [z2.size]; omega) (fls_size _ _) (fls_one _ _) ?_; rw [z2.spC]))
  have hA := (hA.below hb3 lA).rowOther ({ z2 with con := g.con } : Gr).cells n1
  have hB := (hB.below hb3 lB).rowOther ({ z2 with con := g.con } : Gr).cells n2
  have hC := hC3.setRow ({ z2 with con := g.con } : Gr).cells
  have hbel := below_setRow (hbel.trans (hb3.mono hbel.size)) n3 ({ z2 with con := g.con } : Gr).cells
  generalize hz3 : ({ z2 with con := g.con } : Gr) = z3 at *
  have w3 : z3.wide = g.wide ∧ z3.high = g.high ∧ z3.con = g.con := by rw [← hz3]; exact ⟨w2.1, w2.2, rfl⟩
  clear hz3 w2 hC3 hb3 lA lB lC
  generalize W3.setRow r z3.cells = W4 at *
  have lA := hA.lt
  have lB := hB.lt
  have lC := hC.lt
  go_upto_region 6 with (first
    | (refine wpList_load_part rfl rfl rfl row58 hA (by rw [g.size]; omega) ?_; rw [g.exG])
    | (go_at_call 64; refine (ht _ _).mono ?_; rintro e W5 ⟨rfl, hb5⟩; have hC5 := hC.below hb5 lC)
    | (refine wpList_store_part rfl rfl rfl rfl row64 hC5 (by rw [z3.size]; omega) (fls_size _ _) (fls_one _ _) ?_; rw [z3.spG]))
  have hA := (hA.below hb5 lA).rowOther ({ z3 with gai := g.gai } : Gr).cells n1
  have hB := (hB.below hb5 lB).rowOther ({ z3 with gai := g.gai } : Gr).cells n2
  have hC := hC5.setRow ({ z3 with gai := g.gai } : Gr).cells
  have hbel := below_setRow (hbel.trans (hb5.mono hbel.size)) n3 ({ z3 with gai := g.gai } : Gr).cells
  generalize hz4 : ({ z3 with gai := g.gai } : Gr) = z4 at *
  have w4 : z4.wide = g.wide ∧ z4.high = g.high ∧ z4.con = g.con ∧ z4.gai = g.gai := by rw [← hz4]; exact ⟨w3.1, w3.2.1, w3.2.2, rfl⟩
  clear hz4 w3 hC5 hb5 lA lB lC
  generalize W5.setRow r z4.cells = W6 at *
  have lA := hA.lt
  have lB := hB.lt
  have lC := hC.lt
  go_upto_region 7 with (first
    | (refine wpList_load_part rfl rfl rfl row58 hA (by rw [g.size]; omega) ?_; rw [g.exH])
    | (go_at_call 64; refine (ht _ _).mono ?_; rintro e W7 ⟨rfl, hb7⟩; have hC7 := hC.below hb7 lC)
    | (refine wpList_store_part rfl rfl rfl rfl row64 hC7 (by rw [z4.size]; omega) (fls_size _ _) (fls_one _ _) ?_; rw [z4.spH]))
  have hA := (hA.below hb7 lA).rowOther ({ z4 with hea := g.hea } : Gr).cells n1
  have hB := (hB.below hb7 lB).rowOther ({ z4 with hea := g.hea } : Gr).cells n2
  have hC := hC7.setRow ({ z4 with hea := g.hea } : Gr).cells
  have hbel := below_setRow (hbel.trans (hb7.mono hbel.size)) n3 ({ z4 with hea := g.hea } : Gr).cells
  generalize hz5 : ({ z4 with hea := g.hea } : Gr) = z5 at *
  have w5 : z5.wide = g.wide ∧ z5.high = g.high ∧ z5.con = g.con ∧ z5.gai = g.gai ∧ z5.hea = g.hea := by rw [← hz5]; exact ⟨w4.1, w4.2.1, w4.2.2.1, w4.2.2.2, rfl⟩
  clear hz5 w4 hC7 hb7 lA lB lC
  generalize W7.setRow r z5.cells = W8 at *
  have cF : W8.cell? ⟨s, 194, none⟩ = some (.int .u64 g.fix) := (hA.cell _).trans g.getF
  have dF : W8.cell? ⟨r, 194, none⟩ = some (.int .u64 z5.fix) := (hC.cell _).trans z5.getF
  have fF := hC.free 194
  go_upto_region 8 with fail
  have hC := hC.setCell 194 (.int .u64 g.fix)
  rw [Gr.setF] at hC
  rw [show ({ z5 with fix := g.fix } : Gr) = g from by cases g; cases z5; simp_all] at hC
  have hB := hB.setOther (a := ⟨r, 194, none⟩) (.int .u64 g.fix) n2
  have hbel := hbel.setCell (p := ⟨r, 194, none⟩) n3 (.int .u64 g.fix)
  generalize W8.setCell ⟨r, 194, none⟩ (.int .u64 g.fix) = W9 at *
  clear cF dF fF
  go_wp2_with (first | (refine wpList_load_blk rfl rfl rfl row66 hC g.size ?_) | (refine wpList_store_blk rfl rfl rfl rfl row66 hB z.size g.size g.one ?_))
  exact bodyPost_row rfl rfl row66 (hB.setRow _) g.size rfl ⟨rfl, below_setRow hbel n4 _⟩
end Go.Proofs.YtokdpmpgonafmaaGreat
