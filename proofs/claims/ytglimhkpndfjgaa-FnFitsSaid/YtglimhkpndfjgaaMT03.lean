import Derived.Test.YtglimhkpndfjgaaMT02
import Derived.Test.YtglimhkpndfjgaaMT01
import Derived.Laws.MakeOwn
import Derived.BigQuiet
/- Grounds in memory: a ground's cells, how they are read and set; grounds that a caller hands in, opened. -/
namespace Go.Proofs.Ytglimhkpndfjgaa
open Go.ChangeShapes Go.WideShapes Go.ChangeAt Go.RowKit
set_option linter.unusedVariables false
set_option linter.unusedSimpArgs false

@[go_sem] theorem run_store_float (P : Program) (w : World) (a : Addr) (m : Mode) (k : FloatKind) (b : Nat) : (store a (.float k b) m).run P w = stored P w a (.float k b) m := run_store P w a _ m rfl

/-- A ground's numbers. -/
structure Gr where
  wide : Int
  high : Int
  con : Nat → Nat
  gai : Nat → Nat
  hea : Nat → Nat
  fix : Int
def Gr.at (g : Gr) (i : Nat) : Value :=
  if i = 0 then .int .i8 g.wide else if i = 1 then .int .i8 g.high else if i < 66 then .float .f32 (g.con (i - 2)) else if i < 130 then .float .f32 (g.gai (i - 66)) else if i < 194 then .float .f32 (g.hea (i - 130)) else .int .u64 g.fix
@[irreducible] def Gr.cells (g : Gr) : Array Value := Array.ofFn (n := 195) fun i => g.at i
theorem Gr.size (g : Gr) : g.cells.size = 195 := by unfold Gr.cells; exact Array.size_ofFn
theorem Gr.get (g : Gr) (i : Nat) (h : i < 195) : g.cells[i]? = some (g.at i) := by unfold Gr.cells; rw [Array.getElem?_ofFn, dif_pos h]
theorem Gr.get0 (g : Gr) : g.cells[0]? = some (.int .i8 g.wide) := by rw [g.get 0 (by omega)]; rfl
theorem Gr.get1 (g : Gr) : g.cells[1]? = some (.int .i8 g.high) := by rw [g.get 1 (by omega)]; rfl
theorem Gr.getC (g : Gr) (k : Nat) (h : k < 64) : g.cells[2 + k]? = some (.float .f32 (g.con k)) := by
  rw [g.get _ (by omega)]; unfold Gr.at; rw [if_neg (by omega), if_neg (by omega), if_pos (by omega), show 2 + k - 2 = k by omega]
theorem Gr.getG (g : Gr) (k : Nat) (h : k < 64) : g.cells[66 + k]? = some (.float .f32 (g.gai k)) := by
  rw [g.get _ (by omega)]; unfold Gr.at; rw [if_neg (by omega), if_neg (by omega), if_neg (by omega), if_pos (by omega), show 66 + k - 66 = k by omega]
theorem Gr.getH (g : Gr) (k : Nat) (h : k < 64) : g.cells[130 + k]? = some (.float .f32 (g.hea k)) := by
  rw [g.get _ (by omega)]; unfold Gr.at; rw [if_neg (by omega), if_neg (by omega), if_neg (by omega), if_neg (by omega), if_pos (by omega), show 130 + k - 130 = k by omega]
theorem Gr.getF (g : Gr) : g.cells[194]? = some (.int .u64 g.fix) := by rw [g.get 194 (by omega)]; rfl
theorem Gr.one (g : Gr) : ∀ v ∈ g.cells.toList, v.oneCell' = true := by
  intro v hv
  rw [Array.mem_toList_iff] at hv
  obtain ⟨i, hi, rfl⟩ := Array.mem_iff_getElem.1 hv
  rw [g.size] at hi
  have h2 := g.get i hi
  rw [Array.getElem?_eq_getElem (by rw [g.size]; exact hi)] at h2
  rw [Option.some.inj h2]
  unfold Gr.at
  repeat' split
  all_goals rfl
theorem Gr.cells_of {cs : Array Value} (g : Gr) (hs : cs.size = 195) (h : ∀ i, i < 195 → cs[i]? = some (g.at i)) : cs = g.cells := by
  apply Array.ext_getElem?
  intro i
  by_cases hi : i < 195
  · rw [h i hi, g.get i hi]
  · rw [Array.getElem?_eq_none (by omega), Array.getElem?_eq_none (by rw [g.size]; omega)]
theorem Gr.set0 (g : Gr) (x : Int) : g.cells.setIfInBounds 0 (.int .i8 x) = ({ g with wide := x } : Gr).cells := by
  apply Gr.cells_of
  · simp [g.size]
  · intro i hi
    rw [Array.getElem?_setIfInBounds, g.get i hi]
    by_cases h : 0 = i
    · subst h; simp [g.size, Gr.at]
    · rw [if_neg h]; simp [Gr.at, Ne.symm h]
theorem Gr.set1 (g : Gr) (x : Int) : g.cells.setIfInBounds 1 (.int .i8 x) = ({ g with high := x } : Gr).cells := by
  apply Gr.cells_of
  · simp [g.size]
  · intro i hi
    rw [Array.getElem?_setIfInBounds, g.get i hi]
    by_cases h : 1 = i
    · subst h; simp [g.size, Gr.at]
    · rw [if_neg h]; simp [Gr.at, Ne.symm h]
theorem Gr.setF (g : Gr) (x : Int) : g.cells.setIfInBounds 194 (.int .u64 x) = ({ g with fix := x } : Gr).cells := by
  apply Gr.cells_of
  · simp [g.size]
  · intro i hi
    rw [Array.getElem?_setIfInBounds, g.get i hi]
    by_cases h : 194 = i
    · subst h; simp [g.size, Gr.at]
    · rw [if_neg h]
      unfold Gr.at
      simp only [show i < 194 by omega, if_true]
theorem Gr.setH (g : Gr) (k b : Nat) (hk : k < 64) : g.cells.setIfInBounds (130 + k) (.float .f32 b) = ({ g with hea := upd g.hea k b } : Gr).cells := by
  apply Gr.cells_of
  · simp [g.size]
  · intro i hi
    rw [Array.getElem?_setIfInBounds, g.get i hi, g.size]
    by_cases h : 130 + k = i
    · subst h
      rw [if_pos rfl, if_pos (by omega)]
      unfold Gr.at
      rw [if_neg (by omega), if_neg (by omega), if_neg (by omega), if_neg (by omega), if_pos (by omega), show 130 + k - 130 = k by omega]
      simp [upd]
    · rw [if_neg h]
      unfold Gr.at
      by_cases h2 : i < 130
      · simp only [h2, if_true]
      · by_cases h3 : i < 194
        · simp only [h2, h3, if_true, if_false, upd, show ¬ (i - 130 = k) by omega]
        · simp only [h2, h3, if_false]
/-- A cell behind a splice. -/
theorem splice_get (C : Array Value) (f : Nat) (c : Array Value) (hf : f + c.size ≤ C.size) (i : Nat) : (splice C f c)[i]? = if i < f then C[i]? else if i < f + c.size then c[i - f]? else C[i]? := by
  unfold splice
  have e1 : (List.take f C.toList).length = f := by simp; omega
  rw [List.getElem?_toArray, List.getElem?_append, List.getElem?_append, List.length_append, e1]
  by_cases h1 : i < f
  · rw [if_pos (by omega), if_pos h1, if_pos h1, List.getElem?_take, if_pos h1]; simp
  · rw [if_neg h1]
    by_cases h2 : i < f + c.size
    · rw [if_pos (by simpa using h2), if_neg h1, if_pos h2]; simp
    · rw [if_neg (by simpa using h2), if_neg h2, List.getElem?_drop]
      simp only [Array.length_toList]
      rw [show f + c.size + (i - (f + c.size)) = i by omega]; simp
theorem splice_size (C : Array Value) (f : Nat) (c : Array Value) (hf : f + c.size ≤ C.size) : (splice C f c).size = C.size := by
  unfold splice; simp; omega
theorem fls_size (n : Nat) (f : Nat → Nat) : (fls n f).toArray.size = n := by simp [fls_length]
theorem fls_one (n : Nat) (f : Nat → Nat) : ∀ v ∈ (fls n f).toArray.toList, v.oneCell' = true := by
  intro v hv; unfold fls at hv; simp at hv; obtain ⟨i, _, rfl⟩ := hv; rfl
theorem Gr.spC (g : Gr) (f : Nat → Nat) : splice g.cells 2 (fls 64 f).toArray = ({ g with con := f } : Gr).cells := by
  have hle : 2 + (fls 64 f).toArray.size ≤ g.cells.size := by rw [fls_size, g.size]; omega
  apply Gr.cells_of
  · rw [splice_size _ _ _ hle, g.size]
  · intro i hi
    rw [splice_get _ _ _ hle, fls_size, g.get i hi]
    unfold Gr.at
    by_cases h1 : i < 2
    · rw [if_pos h1]
      by_cases h0 : i = 0
      · simp [h0]
      · simp [show i = 1 by omega]
    · rw [if_neg h1]
      by_cases h2 : i < 66
      · rw [if_pos (by omega), List.getElem?_toArray, fls_get 64 f (i - 2) (by omega)]
        rw [if_neg (by omega), if_neg (by omega), if_pos h2]
      · rw [if_neg (by omega)]; simp only [h2, if_false]
theorem Gr.spG (g : Gr) (f : Nat → Nat) : splice g.cells 66 (fls 64 f).toArray = ({ g with gai := f } : Gr).cells := by
  have hle : 66 + (fls 64 f).toArray.size ≤ g.cells.size := by rw [fls_size, g.size]; omega
  apply Gr.cells_of
  · rw [splice_size _ _ _ hle, g.size]
  · intro i hi
    rw [splice_get _ _ _ hle, fls_size, g.get i hi]
    unfold Gr.at
    by_cases h1 : i < 66
    · rw [if_pos h1]; simp only [h1, if_true]
    · rw [if_neg h1]
      by_cases h2 : i < 130
      · rw [if_pos (by omega), List.getElem?_toArray, fls_get 64 f (i - 66) (by omega)]
        rw [if_neg (by omega), if_neg (by omega), if_neg (by omega), if_pos h2]
      · rw [if_neg (by omega)]; simp only [h2, if_false]
theorem Gr.spH (g : Gr) (f : Nat → Nat) : splice g.cells 130 (fls 64 f).toArray = ({ g with hea := f } : Gr).cells := by
  have hle : 130 + (fls 64 f).toArray.size ≤ g.cells.size := by rw [fls_size, g.size]; omega
  apply Gr.cells_of
  · rw [splice_size _ _ _ hle, g.size]
  · intro i hi
    rw [splice_get _ _ _ hle, fls_size, g.get i hi]
    unfold Gr.at
    by_cases h1 : i < 130
    · rw [if_pos h1]; simp only [h1, if_true]
    · rw [if_neg h1]
      by_cases h2 : i < 194
      · rw [if_pos (by omega), List.getElem?_toArray, fls_get 64 f (i - 130) (by omega)]
        rw [if_neg (by omega), if_neg (by omega), if_neg (by omega), if_neg (by omega), if_pos h2]
      · rw [if_neg (by omega)]; simp only [h2, if_false]
theorem fls_of {cs : Array Value} {n : Nat} {f : Nat → Nat} (hs : cs.size = n) (h : ∀ i, i < n → cs[i]? = some (.float .f32 (f i))) : cs = (fls n f).toArray := by
  apply Array.ext_getElem?
  intro i
  by_cases hi : i < n
  · rw [h i hi, List.getElem?_toArray, fls_get n f i hi]
  · rw [Array.getElem?_eq_none (by omega), Array.getElem?_eq_none (by rw [fls_size]; omega)]
theorem Gr.exC (g : Gr) : g.cells.extract 2 66 = (fls 64 g.con).toArray := fls_of (by simp [g.size]) fun i hi => by
  rw [Array.getElem?_extract, if_pos (by rw [g.size]; omega), g.getC i hi]
theorem Gr.exG (g : Gr) : g.cells.extract 66 130 = (fls 64 g.gai).toArray := fls_of (by simp [g.size]) fun i hi => by
  rw [Array.getElem?_extract, if_pos (by rw [g.size]; omega), g.getG i hi]
theorem Gr.exH (g : Gr) : g.cells.extract 130 194 = (fls 64 g.hea).toArray := fls_of (by simp [g.size]) fun i hi => by
  rw [Array.getElem?_extract, if_pos (by rw [g.size]; omega), g.getH i hi]

/-- A ground lies at the head of block b. -/
structure GAt (w : World) (b : Nat) (g : Gr) : Prop where
  lt : b < w.heap.size
  mem : ∀ i, i < 195 → w.cell? ⟨b, i, none⟩ = some (g.at i)
theorem cell_move {w w' : World} {b : Nat} (h : w'.heap[b]? = w.heap[b]?) (o : Nat) : w'.cell? ⟨b, o, none⟩ = w.cell? ⟨b, o, none⟩ := by
  unfold World.cell?; simp only [h]
theorem Blk.gat {w : World} {b : Nat} {g : Gr} {T : TypeId} (h : Blk w b g.cells T) : GAt w b g := ⟨h.lt, fun i hi => (h.cell i).trans (g.get i hi)⟩
section
variable {w w' : World} {b : Nat} {g : Gr}
theorem GAt.get0 (h : GAt w b g) : w.cell? ⟨b, 0, none⟩ = some (.int .i8 g.wide) := (h.mem 0 (by omega)).trans ((g.get 0 (by omega)).symm.trans g.get0)
theorem GAt.get1 (h : GAt w b g) : w.cell? ⟨b, 1, none⟩ = some (.int .i8 g.high) := (h.mem 1 (by omega)).trans ((g.get 1 (by omega)).symm.trans g.get1)
theorem GAt.getF (h : GAt w b g) : w.cell? ⟨b, 194, none⟩ = some (.int .u64 g.fix) := (h.mem 194 (by omega)).trans ((g.get 194 (by omega)).symm.trans g.getF)
theorem GAt.getC (h : GAt w b g) (k : Nat) (hk : k < 64) : w.cell? ⟨b, 2 + k, none⟩ = some (.float .f32 (g.con k)) := (h.mem (2 + k) (by omega)).trans ((g.get (2 + k) (by omega)).symm.trans (g.getC k hk))
theorem GAt.getG (h : GAt w b g) (k : Nat) (hk : k < 64) : w.cell? ⟨b, 66 + k, none⟩ = some (.float .f32 (g.gai k)) := (h.mem (66 + k) (by omega)).trans ((g.get (66 + k) (by omega)).symm.trans (g.getG k hk))
theorem GAt.getH (h : GAt w b g) (k : Nat) (hk : k < 64) : w.cell? ⟨b, 130 + k, none⟩ = some (.float .f32 (g.hea k)) := (h.mem (130 + k) (by omega)).trans ((g.get (130 + k) (by omega)).symm.trans (g.getH k hk))
theorem GAt.move (h : GAt w b g) (hm : w'.heap[b]? = w.heap[b]?) : GAt w' b g := by
  refine ⟨?_, fun i hi => (cell_move hm i).trans (h.mem i hi)⟩
  have hl := h.lt
  rw [Array.getElem?_eq_getElem hl] at hm
  exact lt_of_block hm
theorem GAt.below (h : GAt w b g) {B : Nat} (hb : Below B w w') (hB : b < B) : GAt w' b g := h.move (hb.block b hB)
theorem GAt.drewN (h : GAt w b g) (k : Nat) : GAt (w.drewN k) b g := h.move rfl
theorem GAt.alloc (h : GAt w b g) (o : Obj) : GAt (w.alloc o) b g := h.move (heap_alloc_old w o h.lt)
theorem GAt.grown (h : GAt w b g) {row : Option Nat} (hg : w.grownBy w' row) (hr : row ≠ some b) : GAt w' b g := h.move (hg.block b h.lt (Ne.symm hr))
end

theorem fls_set (n : Nat) (f : Nat → Nat) (k b : Nat) (hk : k < n) : (fls n f).toArray.setIfInBounds k (.float .f32 b) = (fls n (upd f k b)).toArray := fls_of (by simp [fls_length]) fun i hi => by
  rw [Array.getElem?_setIfInBounds, fls_size]
  by_cases h : k = i
  · subst h; simp [hk, upd]
  · rw [if_neg h, List.getElem?_toArray, fls_get n f i hi]; simp [upd, Ne.symm h]

/-- Each number of a ground fits its kind. -/
structure Gr.ok (g : Gr) : Prop where
  wide : -128 ≤ g.wide ∧ g.wide ≤ 127
  high : -128 ≤ g.high ∧ g.high ≤ 127
  fix : 0 ≤ g.fix ∧ g.fix < 18446744073709551616

end Go.Proofs.Ytglimhkpndfjgaa
/- Permits in memory, and the walks over lists of permits that several laws need. -/
namespace Go.Proofs.Ytglimhkpndfjgaa
open Go.ChangeShapes Go.WideShapes Go.ChangeAt Go.RowKit
set_option linter.unusedVariables false

/-- A permit's numbers. -/
structure Pm where
  own : Int
  cel : Int
  rat : Int
/-- Each number fits its kind. -/
def Pm.ok (p : Pm) : Prop := (-128 ≤ p.own ∧ p.own ≤ 127) ∧ (-128 ≤ p.cel ∧ p.cel ≤ 127) ∧ (-32768 ≤ p.rat ∧ p.rat ≤ 32767)
@[irreducible] def Pm.cells (p : Pm) : Array Value := #[.int .i8 p.own, .int .i8 p.cel, .int .i16 p.rat]
theorem Pm.cells_eq (p : Pm) : p.cells = #[.int .i8 p.own, .int .i8 p.cel, .int .i16 p.rat] := by unfold Pm.cells; rfl
theorem Pm.cells_size (p : Pm) : p.cells.size = 3 := by rw [p.cells_eq]; rfl
theorem Pm.get0 (p : Pm) : p.cells[0]? = some (.int .i8 p.own) := by rw [p.cells_eq]; rfl
theorem Pm.get1 (p : Pm) : p.cells[1]? = some (.int .i8 p.cel) := by rw [p.cells_eq]; rfl
theorem Pm.get2 (p : Pm) : p.cells[2]? = some (.int .i16 p.rat) := by rw [p.cells_eq]; rfl
theorem Pm.one (p : Pm) : ∀ v ∈ p.cells.toList, v.oneCell' = true := by
  intro v hv; rw [p.cells_eq] at hv; simp at hv; rcases hv with rfl | rfl | rfl <;> rfl

/-- n permits, one behind the other. -/
@[irreducible] def pls (n : Nat) (P : Nat → Pm) : List Value := (List.range n).flatMap fun i => (P i).cells.toList
theorem pls_zero (P : Nat → Pm) : pls 0 P = [] := by simp [pls]
theorem pls_succ (n : Nat) (P : Nat → Pm) : pls (n + 1) P = pls n P ++ (P n).cells.toList := by simp [pls, List.range_succ, List.flatMap_append]
theorem pls_length (n : Nat) (P : Nat → Pm) : (pls n P).length = n * 3 := by
  induction n with
  | zero => simp [pls_zero]
  | succ n ih => rw [pls_succ, List.length_append, ih]; simp [Pm.cells_size]; omega
theorem pls_congr {P P' : Nat → Pm} : ∀ {n : Nat}, (∀ i, i < n → P i = P' i) → pls n P = pls n P'
  | 0, _ => by rw [pls_zero, pls_zero]
  | n + 1, h => by rw [pls_succ, pls_succ, pls_congr (fun i hi => h i (by omega)), h n (by omega)]
theorem pls_get (n : Nat) (P : Nat → Pm) (i c : Nat) (h : i < n) (hc : c < 3) : (pls n P)[i * 3 + c]? = (P i).cells[c]? := by
  induction n with
  | zero => omega
  | succ n ih =>
    rw [pls_succ, List.getElem?_append, pls_length]
    by_cases hi : i < n
    · rw [if_pos (by omega), ih hi]
    · obtain rfl : i = n := by omega
      rw [if_neg (by omega), show i * 3 + c - i * 3 = c by omega]; simp
theorem pls_one (n : Nat) (P : Nat → Pm) : ∀ v ∈ pls n P, v.oneCell' = true := by
  intro v hv; unfold pls at hv; simp only [List.mem_flatMap] at hv; obtain ⟨i, _, hi⟩ := hv; exact (P i).one v hi
theorem pls_drop (n : Nat) (P : Nat → Pm) (k : Nat) (h : k < n) : ((pls n P).drop (k * 3)).take 3 = (P k).cells.toList := by
  apply List.ext_getElem?
  intro c
  rw [List.getElem?_take]
  by_cases hc : c < 3
  · rw [if_pos hc, List.getElem?_drop, pls_get n P k c h hc]; simp
  · rw [if_neg hc, List.getElem?_eq_none]; simp [Pm.cells_size]; omega

/-- The slice v holds n permits, P. -/
def PSl (w : World) (v : Value) (n : Nat) (P : Nat → Pm) : Prop :=
  ∃ a cap, v = .slice a n cap ∧ n ≤ cap ∧ cap ≤ maxLen ∧ (n = 0 ∨ ∃ b o, a = some ⟨b, o, none⟩ ∧ b < w.heap.size ∧ ∀ i c, i < n → c < 3 → w.cell? ⟨b, o + i * 3 + c, none⟩ = (P i).cells[c]?)
theorem PSl.below {w w' : World} {v : Value} {n : Nat} {P : Nat → Pm} (h : PSl w v n P) (hb : Below w.heap.size w w') : PSl w' v n P := by
  obtain ⟨a, cap, rfl, h1, h2, h3⟩ := h
  refine ⟨a, cap, rfl, h1, h2, ?_⟩
  rcases h3 with h3 | ⟨b, o, rfl, hlt, hc⟩
  · exact .inl h3
  · exact .inr ⟨b, o, rfl, Nat.lt_of_lt_of_le hlt hb.size, fun i c hi h3 => (hb.cell (p := ⟨b, _, none⟩) hlt).trans (hc i c hi h3)⟩
theorem Own.psl {w : World} {g : Nat} {e : TypeId} {v : Value} {n : Nat} {P : Nat → Pm} (h : Own w g e 3 v n (pls n P)) : PSl w v n P := by
  obtain ⟨cap, rfl, h1, h2⟩ := h.form
  exact ⟨_, cap, rfl, h1, h2, .inr ⟨g, 0, rfl, h.lt, fun i c hi hc => by rw [Nat.zero_add, h.cell _ (by omega), pls_get n P i c hi hc]⟩⟩

theorem bool_eq {a b : Bool} (h : a = b) : Ending.returned (.bool a) = Ending.returned (.bool b) := by rw [h]

/-- What 'eqPermit' says. -/
def eqPm (p q : Pm) : Bool := p.own == q.own && p.cel == q.cel && p.rat == q.rat
/-- A rate that is none, an owner that is none. -/
def badRate (p : Pm) : Bool := !decide (0 ≤ p.rat) || !decide (p.rat ≤ 400)
def badOwner (p : Pm) : Bool := !decide (0 ≤ p.own) || !decide (p.own ≤ 7)
/-- Does one of the first n answer yes? -/
def anyTo {α : Type} (q : α → Bool) (P : Nat → α) : Nat → Bool
  | 0 => false
  | n + 1 => anyTo q P n || q (P n)
theorem anyTo_false {α : Type} {q : α → Bool} {P : Nat → α} {n : Nat} : anyTo q P n = false ↔ ∀ i, i < n → q (P i) = false := by
  induction n with
  | zero => simp [anyTo]
  | succ n ih =>
    simp only [anyTo, Bool.or_eq_false_iff, ih]
    constructor
    · intro ⟨h1, h2⟩ i hi
      by_cases h : i < n
      · exact h1 i h
      · obtain rfl : i = n := by omega
        exact h2
    · intro h; exact ⟨fun i hi => h i (by omega), h n (by omega)⟩
theorem anyTo_true {α : Type} {q : α → Bool} {P : Nat → α} {n i : Nat} (hi : i < n) (h : q (P i) = true) : anyTo q P n = true := by
  cases hn : anyTo q P n
  · rw [anyTo_false.1 hn i hi] at h; cases h
  · rfl
theorem all_step {p : Nat → Prop} {k : Nat} (h : ∀ j, j < k → p j) (hk : p k) : ∀ j, j < k + 1 → p j := by
  intro j hj
  by_cases hjk : j < k
  · exact h j hjk
  · obtain rfl : j = k := by omega
    exact hk
/-- The first of the first n that answers yes. -/
def firstTo {α : Type} (q : α → Bool) (P : Nat → α) (n : Nat) (r : Int) : Prop := (r = -1 ∧ ∀ i, i < n → q (P i) = false) ∨ ∃ k : Nat, r = k ∧ k < n ∧ q (P k) = true ∧ ∀ i, i < k → q (P i) = false

theorem firstTo_any {α : Type} {q : α → Bool} {P : Nat → α} {n : Nat} {r : Int} (h : firstTo q P n r) : decide (0 ≤ r) = anyTo q P n := by
  rcases h with ⟨rfl, h⟩ | ⟨k, rfl, hk, hq, _⟩
  · rw [anyTo_false.2 h]; rfl
  · rw [anyTo_true hk hq]; simp

/-- May these be permits' rates? -/
def ratesAre (n : Nat) (P : Nat → Pm) : Bool := decide (n ≤ 6) && !anyTo badRate P n
/-- n permits' room. -/
@[irreducible] def zpm (n : Nat) : Array Value := madeCells (Pm.cells ⟨0, 0, 0⟩) (n * 3)
theorem zpm_size (n : Nat) : (zpm n).size = n * 3 := by unfold zpm; rw [size_madeCells]
/-- A permit behind the walk of one store. -/
theorem zpm_mixed_size (n : Nat) (P : Nat → Pm) (k : Nat) (hk : k ≤ n) : (mixed (pls n P).toArray (zpm n) (k * 3)).size = n * 3 := by
  rw [mixed_size _ _ (by simp [pls_length, zpm_size]) _ (by simp [pls_length]; omega)]; simp [pls_length]

end Go.Proofs.Ytglimhkpndfjgaa
/- Which grounds are valid: the walks through the program's test and the reference's. -/
namespace Go.Proofs.Ytglimhkpndfjgaa
open Go.ChangeShapes Go.WideShapes Go.ChangeAt Go.RowKit
set_option linter.unusedVariables false
set_option linter.unusedSimpArgs false
attribute [local irreducible] Calls

/-- Is k a cell? -/
def isC (g : Gr) (k : Nat) : Bool := decide ((k : Int) % 8 < g.wide) && decide ((k : Int) / 8 < g.high)

/-- Narrow numbers compared. -/
@[irreducible] def fge (a b : Nat) : Bool := FloatKind.f32.format.order a b == some .gt || FloatKind.f32.format.order a b == some .eq
@[irreducible] def fle (a b : Nat) : Bool := FloatKind.f32.format.order a b == some .lt || FloatKind.f32.format.order a b == some .eq
@[irreducible] def flt (a b : Nat) : Bool := FloatKind.f32.format.order a b == some .lt
@[irreducible] def feq (a b : Nat) : Bool := FloatKind.f32.format.order a b == some .eq
theorem fge_eq (a b : Nat) : (FloatKind.f32.format.order a b == some .gt || FloatKind.f32.format.order a b == some .eq) = fge a b := by unfold fge; rfl
theorem fle_eq (a b : Nat) : (FloatKind.f32.format.order a b == some .lt || FloatKind.f32.format.order a b == some .eq) = fle a b := by unfold fle; rfl
theorem flt_eq (a b : Nat) : (FloatKind.f32.format.order a b == some .lt) = flt a b := by unfold flt; rfl
theorem feq_eq (a b : Nat) : (FloatKind.f32.format.order a b == some .eq) = feq a b := by unfold feq; rfl
theorem fne_eq (a b : Nat) : (FloatKind.f32.format.order a b != some .eq) = !feq a b := by unfold feq; rfl
/-- Is this a plain number? -/
def plain (b : Nat) : Bool := fge b 3380609024 && fle b 1233125376
def amount (b : Nat) : Bool := plain b && fge b 0

set_option maxRecDepth 100000 in
set_option maxHeartbeats 400000 in
theorem isPlain_any (b : Nat) (w : World) :
    Calls Try.prog 82 #[.float .f32 b] w fun e w' => e = .returned (.bool (plain b)) ∧ w' = w := by
  have h1 := fge_eq b 3380609024
  have h2 := fle_eq b 1233125376
  unfold plain
  cases hd : fge b 3380609024 <;> rw [hd] at h1
  · go_enter Try.func82, Try.ntmps82
    go_wp2_with fail
    go_ret
    exact ⟨rfl, rfl⟩
  · go_enter Try.func82, Try.ntmps82
    go_wp2_with fail
    go_ret
    exact ⟨rfl, rfl⟩
/-- Is a field's number at k as it must be? -/
def badAt (q : Nat → Bool) (g : Gr) (f : Nat → Nat) (k : Nat) : Bool := if isC g k then !q (f k) else !feq (f k) 0
def fieldIs (q : Nat → Bool) (g : Gr) (f : Nat → Nat) : Bool := !anyTo (badAt q g f) (fun i => i) 64

theorem Callable.run {P : Program} {fid : FuncId} (hf : Callable P fid) (args : Array Value) (w : World) : (callFunc fid args).run P w = .ok (.enter fid args) w := by
  obtain ⟨fn, hf, hn, hb⟩ := hf
  have hn' : fn.name ≠ "runtime.NumGoroutine" := by simpa using hn
  have hb' : ¬ fn.body = none := by intro h0; rw [h0] at hb; simp at hb
  simp [callFunc, hf, hn', hb']

/-- The cells among the first k. -/
def cellsTo (g : Gr) (k : Nat) : List Nat := (List.range k).filter fun i => isC g i
theorem cellsTo_succ (g : Gr) (k : Nat) : cellsTo g (k + 1) = if isC g k then cellsTo g k ++ [k] else cellsTo g k := by
  unfold cellsTo; rw [List.range_succ, List.filter_append]; cases h : isC g k <;> simp [h]
theorem cellsTo_length (g : Gr) (k : Nat) : (cellsTo g k).length ≤ k := by
  unfold cellsTo; exact Nat.le_trans (List.length_filter_le _ _) (by simp)
theorem cellsTo_lt {g : Gr} {k i : Nat} (h : i ∈ cellsTo g k) : i < k ∧ isC g i = true := by
  unfold cellsTo at h; rw [List.mem_filter, List.mem_range] at h; exact h
/-- Whole numbers in a row. -/
@[irreducible] def ils (l : List Nat) : List Value := l.map fun (i : Nat) => Value.int .i64 (i : Int)
theorem ils_length (l : List Nat) : (ils l).length = l.length := by simp [ils]
theorem ils_nil : ils [] = [] := by simp [ils]
theorem ils_snoc (l : List Nat) (k : Nat) : ils l ++ [.int .i64 k] = ils (l ++ [k]) := by simp [ils]
theorem ils_get (l : List Nat) (i k : Nat) (h : l[i]? = some k) : (ils l)[i]? = some (.int .i64 k) := by simp [ils, h]
theorem int_eq {k : IntKind} {a b : Int} (h : a = b) : Ending.returned (.int k a) = Ending.returned (.int k b) := by rw [h]
/-- The mask with one more cell; the mask of a list of cells. -/
@[irreducible] def orB (x : Int) (k : Nat) : Int := bits .or .u64 x (IntKind.u64.wrap (2 ^ k))
theorem orB_eq (x : Int) (k : Nat) : bits .or .u64 x (IntKind.u64.wrap (2 ^ k)) = orB x k := by unfold orB; rfl
def maskOf (l : List Nat) : Int := l.foldl orB 0
theorem maskOf_snoc (l : List Nat) (k : Nat) : maskOf (l ++ [k]) = orB (maskOf l) k := by simp [maskOf]

end Go.Proofs.Ytglimhkpndfjgaa
/- ValidGround, in the program and in the reference. -/
namespace Go.Proofs.Ytglimhkpndfjgaa
open Go.ChangeShapes Go.WideShapes Go.ChangeAt Go.RowKit
set_option linter.unusedVariables false
set_option linter.unusedSimpArgs false

theorem order_some {k : FloatKind} {x y : Nat} (hx : isN k x = false) (hy : isN k y = false) : ∃ o, k.format.order x y = some o := by
  unfold Ieee.Format.order
  unfold isN at hx hy
  cases hr : k.format.read x <;> cases hs : k.format.read y <;> simp_all [Ieee.Datum.order, Ieee.Datum.isNaN]
theorem fge_num {a b : Nat} (h : fge a b = true) : isN .f32 a = false := by
  cases hn : isN .f32 a
  · rfl
  · unfold fge at h; rw [order_nan_left hn] at h; simp at h
theorem plain_num {a : Nat} (h : plain a = true) : isN .f32 a = false := by
  unfold plain at h; exact fge_num (Bool.and_eq_true_iff.1 h).1
theorem zero_num : isN .f32 0 = false := by decide
theorem flt_fge {a b : Nat} (ha : isN .f32 a = false) (hb : isN .f32 b = false) : flt a b = !fge a b := by
  obtain ⟨o, ho⟩ := order_some ha hb
  unfold flt fge
  rw [ho]
  cases o <;> rfl
theorem feq_flt {a b : Nat} (h : feq a b = true) : flt a b = false := by
  unfold feq at h; unfold flt
  cases ho : FloatKind.f32.format.order a b with
  | none => rw [ho] at h; simp at h
  | some o => rw [ho] at h; cases o <;> simp_all

/-- Is one of the numbers less than nothing? -/
def anyNeg (f : Nat → Nat) : Bool := anyTo (fun x => flt x 0) f 64
theorem fieldIs_amount (g : Gr) : fieldIs amount g g.con = (fieldIs plain g g.con && !anyNeg g.con) := by
  apply Bool.eq_iff_iff.2
  unfold fieldIs anyNeg
  simp only [Bool.not_eq_true', Bool.and_eq_true, anyTo_false]
  constructor
  · intro h
    refine ⟨fun i hi => ?_, fun i hi => ?_⟩
    · have h1 := h i hi
      unfold badAt at h1 ⊢
      cases hc : isC g i <;> simp only [hc, Bool.false_eq_true, if_false, if_true] at h1 ⊢
      · exact h1
      · simp [amount] at h1; simp [h1.1]
    · have h1 := h i hi
      unfold badAt at h1
      cases hc : isC g i <;> simp only [hc, Bool.false_eq_true, if_false, if_true] at h1
      · exact feq_flt (by simpa using h1)
      · simp [amount] at h1
        rw [flt_fge (plain_num h1.1) zero_num, h1.2]; rfl
  · rintro ⟨h, h'⟩ i hi
    have h1 := h i hi
    have h2 := h' i hi
    unfold badAt at h1 ⊢
    cases hc : isC g i <;> simp only [hc, Bool.false_eq_true, if_false, if_true] at h1 ⊢
    · exact h1
    · have hp : plain (g.con i) = true := by simpa using h1
      rw [flt_fge (plain_num hp) zero_num] at h2
      simp [amount, hp]; simpa using h2

/-- May the fixed cells be these? -/
def fixOk (g : Gr) : Bool := (g.fix != 0) && (bits .andNot .u64 g.fix (maskOf (cellsTo g 64)) == 0)
/-- Is this a valid ground? -/
def validG (g : Gr) : Bool := (decide (2 ≤ g.wide) && decide (g.wide ≤ 8)) && ((decide (2 ≤ g.high) && decide (g.high ≤ 8)) && (fieldIs amount g g.con && (fieldIs plain g g.gai && (fieldIs plain g g.hea && fixOk g))))
attribute [local irreducible] Calls
theorem cellU64 : CellTy Try.prog 88 := ⟨.int .u64, Try.underlying88, rfl, by kernel_rfl⟩
theorem callPlain : Callable Try.prog 82 := ⟨_, Try.func82, by kernel_rfl, by kernel_rfl⟩

end Go.Proofs.Ytglimhkpndfjgaa
