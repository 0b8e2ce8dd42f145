import Derived.Test.YtglimhkpndfjgaaGreatDoorMW12
import Derived.Lib.Bytealg
import Derived.Test.YtglimhkpndfjgaaGreatDoorMW01
import Derived.RangeFuncNested
import Derived.RangeFuncCalls
import Derived.RangeFuncLeaves
import Derived.Shelf.Strings.Builder1
import Derived.Shelf.Strings.Builder2
import Derived.Shelf.Small.Bits
import Derived.Shelf.Small.Strs
import Derived.Shelf.Strings.BuilderF
import Derived.Shelf.Strings.BuilderK
import Derived.Shelf.Utf8.RuneCount
import Derived.Shelf.Strings.Builder2Cap
import Derived.Shelf.Strconv.Itoa0
import Derived.Shelf.Strconv.Itoa1
import Derived.Shelf.LaysM
import Derived.Shelf.Strconv.Itoa2
import Derived.Shelf.Strconv.Itoa3
import Derived.Shelf.Strconv.Itoa4
import Derived.Shelf.Strconv.ParseIntEmpty
import Derived.Shelf.Strconv.Clone
import Derived.Shelf.Strconv.SyntaxError
import Derived.Shelf.LaysC
import Derived.Shelf.Strconv.ToError
import Derived.Shelf.Strconv.Lower
import Derived.Shelf.Strconv.ParseUint10
import Derived.Shelf.Strconv.ParseUint10Empty
import Derived.Shelf.Strconv.ParseUint10Any
import Derived.Shelf.Strconv.ParseInt10
import Derived.Shelf.Strconv.RangeError
import Derived.Shelf.Strconv.ToErrorRange
import Derived.Shelf.Strconv.ParseUintEmpty
import Derived.Shelf.Strconv.ParseUint10b64
import Derived.Shelf.Strconv.ParseUint10b32
import Derived.Shelf.Strconv.ParseUint10b16
import Derived.Shelf.Strconv.ParseUint10b8
import Derived.Shelf.Strconv.ParseUint10At
import Derived.Shelf.Strconv.ParseInt10At64
import Derived.Shelf.Strconv.ParseInt10At32
import Derived.Shelf.Strconv.ParseInt10At16
import Derived.Shelf.Strconv.ParseInt10At8
import Derived.Shelf.Strconv.ParseInt10All
import Derived.Shelf.Strconv.ParseIntPublic10
import Derived.Shelf.Strconv.ErrVarParseInt
import Derived.Ground.MpProg
import Derived.Shelf.Pu.ParseUintPublic10
import Derived.Shelf.Pu.ErrVarParseUint
import Derived.Shelf.Strings.Search1
import Derived.Shelf.Strings.Search2
import Derived.Shelf.Strings.Search3
import Derived.Shelf.Strings.Count
import Derived.Shelf.Strings.Shaped
import Derived.Shelf.Strings.Prefix
import Derived.Shelf.Strings.Split
import Derived.Shelf.Strings.SplitShaped
import Derived.Shelf.Unicode.Decode
import Derived.Shelf.Strings.RuneCount
import Derived.Shelf.Strings.Explode
import Derived.Shelf.Bits.Mul64
import Derived.Shelf.Strings.Repeat
import Derived.Shelf.Unicode.DecodeSlow
import Derived.Shelf.Unicode.DecodeAny
import Derived.Shelf.Strings.BuilderCap
/- Texts of lines and words: plain laws; no statement is proved here. -/
namespace Go.Proofs.YtglimhkpndfjgaaGreatDoor
open Go.ChangeShapes Go.WideShapes Go.ChangeAt Go.RowKit
set_option linter.unusedVariables false

theorem splitL_app {c : UInt8} : ∀ {a : List UInt8} (b : List UInt8), c ∉ a → splitL c (a ++ c :: b) = a :: splitL c b
  | [], b, _ => by show splitL c (c :: b) = _; rw [splitL, if_pos rfl]
  | x :: a, b, h => by
    have hx : x ≠ c := fun e => h (by rw [e]; exact List.mem_cons_self)
    show splitL c (x :: (a ++ c :: b)) = _
    rw [splitL, if_neg hx, splitL_app b (fun e => h (List.mem_cons_of_mem _ e))]
/-- Words with a byte between. -/
def glue (c : UInt8) : List (List UInt8) → List UInt8
  | [] => []
  | [a] => a
  | a :: b :: l => a ++ c :: glue c (b :: l)
theorem glue_split (c : UInt8) : ∀ l : List UInt8, glue c (splitL c l) = l
  | [] => rfl
  | x :: l => by
    have ih := glue_split c l
    rw [splitL]
    split
    · rename_i hx
      cases hs : splitL c l with
      | nil => exact absurd hs (splitL_ne c l)
      | cons a t => rw [hs] at ih; show [] ++ c :: glue c (a :: t) = _; rw [ih, hx]; rfl
    · cases hs : splitL c l with
      | nil => exact absurd hs (splitL_ne c l)
      | cons a t =>
        rw [hs] at ih
        show glue c ((x :: a) :: t) = _
        cases t with
        | nil => show x :: a = _; rw [← ih]; rfl
        | cons b t => show (x :: a) ++ c :: glue c (b :: t) = _; rw [← ih]; rfl
theorem splitL_glue {c : UInt8} : ∀ {L : List (List UInt8)}, L ≠ [] → (∀ a ∈ L, c ∉ a) → splitL c (glue c L) = L
  | [], h, _ => absurd rfl h
  | [a], _, h => splitL_one (h a (by simp))
  | a :: b :: L, _, h => by
    show splitL c (a ++ c :: glue c (b :: L)) = _
    rw [splitL_app _ (h a (by simp)), splitL_glue (by simp) (fun x hx => h x (List.mem_cons_of_mem _ hx))]
/-- No word holds the byte. -/
theorem splitL_not {c : UInt8} : ∀ (l : List UInt8), ∀ a ∈ splitL c l, c ∉ a
  | [], a, h => by have h : a = [] := by simpa [splitL] using h
                   rw [h]; simp
  | x :: l, a, h => by
    have ih := splitL_not (c := c) l
    rw [splitL] at h
    split at h
    · rcases List.mem_cons.1 h with rfl | h
      · simp
      · exact ih a h
    · rename_i hx
      cases hs : splitL c l with
      | nil => exact absurd hs (splitL_ne c l)
      | cons b t =>
        rw [hs] at h ih
        rcases List.mem_cons.1 h with rfl | h
        · intro hm
          rcases List.mem_cons.1 hm with e | e
          · exact hx e.symm
          · exact ih b List.mem_cons_self e
        · exact ih a (List.mem_cons_of_mem _ h)
/-- Lines with a byte behind each. -/
def lined (c : UInt8) (L : List (List UInt8)) : List UInt8 := L.flatMap fun a => a ++ [c]
theorem lined_cons (c : UInt8) (a : List UInt8) (L : List (List UInt8)) : lined c (a :: L) = a ++ c :: lined c L := by simp [lined]
theorem lined_snoc (c : UInt8) (L : List (List UInt8)) (a : List UInt8) : lined c (L ++ [a]) = lined c L ++ a ++ [c] := by simp [lined]
theorem splitL_lined {c : UInt8} : ∀ {L : List (List UInt8)}, (∀ a ∈ L, c ∉ a) → splitL c (lined c L) = L ++ [[]]
  | [], _ => rfl
  | a :: L, h => by
    rw [lined_cons, splitL_app _ (h a (by simp)), splitL_lined (fun x hx => h x (List.mem_cons_of_mem _ hx))]; rfl
theorem glue_lined (c : UInt8) : ∀ L : List (List UInt8), glue c (L ++ [[]]) = lined c L
  | [] => rfl
  | [a] => by simp [glue, lined]
  | a :: b :: L => by
    have ih := glue_lined c (b :: L)
    show a ++ c :: glue c ((b :: L) ++ [[]]) = _
    rw [ih, lined_cons, lined_cons, lined_cons]
/-- A text whose last line is empty. -/
theorem lined_of {c : UInt8} {l : List UInt8} {L : List (List UInt8)} (h : splitL c l = L ++ [[]]) : lined c L = l := by
  rw [← glue_lined, ← h, glue_split]
theorem dig_ne {n : Nat} (h : n < 16) (c : UInt8) (hc : c.toNat < 48) : dig n ≠ c := by
  intro e
  have := congrArg UInt8.toNat e
  rw [toNat_dig h] at this
  split at this <;> omega
theorem hexK_not (c : UInt8) (hc : c.toNat < 48) : ∀ k u, u < 16 ^ k → c ∉ hexK k u
  | 0, u, _ => by simp [hexK]
  | k + 1, u, h => by
    have h1 : u / 16 ^ k < 16 := by apply Nat.div_lt_of_lt_mul; rw [Nat.pow_succ] at h; exact h
    unfold hexK
    intro hm
    rcases List.mem_cons.1 hm with e | e
    · exact dig_ne h1 c hc e.symm
    · exact hexK_not c hc k _ (Nat.mod_lt _ (Nat.pow_pos (by decide))) e
theorem txt_not (b : Nat) (hb : b < 4294967296) (c : UInt8) (hc : c.toNat < 48) : c ∉ txt b := hexK_not c hc 8 _ (by simpa using cn_lt hb)
theorem decDigits_not (u : Nat) (c : UInt8) (hc : c.toNat < 48) : c ∉ Lib.decDigits u := fun h => by
  have := decDigits_digits u u (Nat.le_refl _) c h; omega
end Go.Proofs.YtglimhkpndfjgaaGreatDoor
/- The lines of a text, each with what ends it: plain laws; no statement is proved here. -/
namespace Go.Proofs.YtglimhkpndfjgaaGreatDoor
open Go.ChangeShapes Go.WideShapes Go.ChangeAt Go.RowKit
set_option linter.unusedVariables false

def linesL : List UInt8 → List (List UInt8)
  | [] => []
  | x :: l => if x = 10 then [10] :: linesL l else match linesL l with | h :: t => (x :: h) :: t | [] => [[x]]
theorem linesL_flat : ∀ l, (linesL l).flatten = l
  | [] => rfl
  | x :: l => by
    have ih := linesL_flat l
    rw [linesL]
    split
    · rename_i h; simp [ih, h]
    · cases hs : linesL l with
      | nil => rw [hs] at ih; simp at ih; simp [← ih]
      | cons h t => rw [hs] at ih; simp at ih ⊢; exact ih
/-- The first line: it ends with the byte that ends lines, or it is the last. -/
theorem linesL_head : ∀ (l : List UInt8) {h : List UInt8} {t : List (List UInt8)}, linesL l = h :: t → t = linesL t.flatten ∧ ((∃ p, h = p ++ [10] ∧ (10 : UInt8) ∉ p) ∨ ((10 : UInt8) ∉ h ∧ h ≠ [] ∧ t = []))
  | [], h, t, e => by cases e
  | x :: l, h, t, e => by
    rw [linesL] at e
    split at e
    · rename_i hx
      injection e with e1 e2
      subst e1 e2
      exact ⟨by rw [linesL_flat], .inl ⟨[], rfl, by simp⟩⟩
    · rename_i hx
      cases hs : linesL l with
      | nil =>
        rw [hs] at e
        injection e with e1 e2
        subst e1 e2
        exact ⟨rfl, .inr ⟨by simpa using fun q => hx q.symm, by simp, rfl⟩⟩
      | cons h' t' =>
        rw [hs] at e
        injection e with e1 e2
        subst e1 e2
        obtain ⟨i1, i2⟩ := linesL_head l hs
        refine ⟨i1, ?_⟩
        rcases i2 with ⟨p, rfl, hp⟩ | ⟨q1, q2, q3⟩
        · exact .inl ⟨x :: p, rfl, by simp; exact ⟨fun q => hx q.symm, hp⟩⟩
        · exact .inr ⟨by simp; exact ⟨fun q => hx q.symm, q1⟩, by simp, q3⟩
theorem linesL_nil {l : List UInt8} (h : linesL l = []) : l = [] := by
  have := linesL_flat l; rw [h] at this; simpa using this.symm
/-- The lines that are still to come, as one text. -/
def leftL (l : List UInt8) (k : Nat) : List UInt8 := ((linesL l).drop k).flatten
theorem leftL_zero (l : List UInt8) : leftL l 0 = l := by unfold leftL; simp [linesL_flat]
theorem leftL_lines (l : List UInt8) : ∀ k, linesL (leftL l k) = (linesL l).drop k
  | 0 => by rw [leftL_zero]; simp
  | k + 1 => by
    have ih := leftL_lines l k
    cases hd : (linesL l).drop k with
    | nil =>
      have h1 : (linesL l).drop (k + 1) = [] := by rw [← List.drop_drop, hd]; rfl
      unfold leftL; rw [h1]; rfl
    | cons h t =>
      have h1 : (linesL l).drop (k + 1) = t := by rw [← List.drop_drop, hd]; rfl
      rw [hd] at ih
      have := (linesL_head _ ih).1
      unfold leftL; rw [h1]; exact this.symm
theorem leftL_step {l : List UInt8} {k : Nat} (h : k < (linesL l).length) : leftL l k = (linesL l)[k] ++ leftL l (k + 1) ∧ ((∃ p, (linesL l)[k] = p ++ [10] ∧ (10 : UInt8) ∉ p) ∨ ((10 : UInt8) ∉ (linesL l)[k] ∧ (linesL l)[k] ≠ [] ∧ leftL l (k + 1) = [])) := by
  have hd : (linesL l).drop k = (linesL l)[k] :: (linesL l).drop (k + 1) := List.drop_eq_getElem_cons h
  have hh := linesL_head (leftL l k) (by rw [leftL_lines, hd])
  refine ⟨by show ((linesL l).drop k).flatten = (linesL l)[k] ++ ((linesL l).drop (k + 1)).flatten; rw [hd]; rfl, ?_⟩
  rcases hh.2 with q | ⟨q1, q2, q3⟩
  · exact .inl q
  · exact .inr ⟨q1, q2, by unfold leftL; rw [q3]; rfl⟩
theorem leftL_end (l : List UInt8) : leftL l (linesL l).length = [] := by unfold leftL; simp
theorem leftL_len (l : List UInt8) (k : Nat) : (leftL l k).length ≤ l.length := by
  have h1 : (linesL l).flatten = ((linesL l).take k).flatten ++ leftL l k := by
    unfold leftL
    rw [← List.flatten_append, List.take_append_drop]
  rw [linesL_flat] at h1
  have := congrArg List.length h1
  simp at this; omega
theorem indexByte_hit : ∀ (p m : List UInt8) (c : UInt8), c ∉ p → Lib.indexByte (p ++ c :: m) c = p.length
  | [], m, c, _ => by simp [Lib.indexByte]
  | x :: p, m, c, h => by
    have hx : x ≠ c := fun e => h (by rw [e]; exact List.mem_cons_self)
    have ih := indexByte_hit p m c (fun e => h (List.mem_cons_of_mem _ e))
    simp [Lib.indexByte, hx, ih]
    try omega
theorem indexByte_miss : ∀ (p : List UInt8) (c : UInt8), c ∉ p → Lib.indexByte p c = -1
  | [], c, _ => by simp [Lib.indexByte]
  | x :: p, c, h => by
    have hx : x ≠ c := fun e => h (by rw [e]; exact List.mem_cons_self)
    have ih := indexByte_miss p c (fun e => h (List.mem_cons_of_mem _ e))
    simp [Lib.indexByte, hx, ih]
/-- A text's lines where its last word between ends is empty. -/
theorem linesL_lined : ∀ L : List (List UInt8), (∀ a ∈ L, (10 : UInt8) ∉ a) → linesL (lined 10 L) = L.map (· ++ [10])
  | [], _ => rfl
  | a :: L, h => by
    rw [lined_cons]
    have ha := h a (by simp)
    have ih := linesL_lined L (fun x hx => h x (List.mem_cons_of_mem _ hx))
    have go : ∀ (p : List UInt8), (10 : UInt8) ∉ p → linesL (p ++ 10 :: lined 10 L) = (p ++ [10]) :: L.map (· ++ [10]) := by
      intro p
      induction p with
      | nil => intro _; rw [List.nil_append, linesL, if_pos rfl, ih]; rfl
      | cons x p ihp =>
        intro hp
        have hx : x ≠ 10 := fun e => hp (by rw [e]; exact List.mem_cons_self)
        show linesL (x :: (p ++ 10 :: lined 10 L)) = _
        rw [linesL, if_neg hx, ihp (fun e => hp (List.mem_cons_of_mem _ e))]
        rfl
    rw [go a ha]; rfl
end Go.Proofs.YtglimhkpndfjgaaGreatDoor
/- A range over a function that keeps what is left to come in a cell of its own: one law of the walk, made of the kit's laws of the loop's record. A plain law; no statement is proved here. -/
namespace Go.Proofs.YtglimhkpndfjgaaGreatDoor
open Go.ChangeShapes Go.WideShapes Go.ChangeAt Go.RowKit
set_option linter.unusedVariables false

/-- The cell of what is left to come holds v, and may be written. -/
def LeftAt (c : Nat) (v : Value) (W : World) : Prop := W.cell? ⟨c, 0, none⟩ = some v ∧ W.frozen? ⟨c, 0, none⟩ = false
theorem LeftAt.move {c : Nat} {v : Value} {W W' : World} (h : LeftAt c v W) (hm : W'.heap[c]? = W.heap[c]?) : LeftAt c v W' := by
  obtain ⟨h1, h2⟩ := h
  constructor
  · rw [← h1]; unfold World.cell?; rw [hm]
  · rw [← h2]; unfold World.frozen?; rw [hm]
/-- What the iterator does to the world between two rounds. -/
def ItStep (c : Nat) (W W' : World) : Prop := ∃ m, W' = W.drewN m ∨ ∃ v, W' = (W.setCell ⟨c, 0, none⟩ v).drewN m
/-- The iterator: N rounds, the k-th with arg k, the cell c holding left k ahead of it. -/
def ItOk (F : Fence) (n : Nat) (P : Program) (gf : Nat) (lb : Array Value) (c N : Nat) (arg left : Nat → Value) : Prop :=
  ∀ (l : Nat) (J : Nat → World → Prop) (Jx : World → Prop) (W : World), (∀ k W W', J k W → ItStep c W W' → J k W') →
    (∀ k W1, k < N → J k W1 → LeftAt c (left (k + 1)) W1 → YieldAt F (n - 1) P l #[arg k] W1 fun e W' => (e = .returned (.bool true) ∧ J (k + 1) W' ∧ LeftAt c (left (k + 1)) W') ∨ (e = .returned (.bool false) ∧ Jx W')) →
    J 0 W → LeftAt c (left 0) W →
    CallsIn F n P gf (#[.func (.yield l) #[] #[]] ++ lb) W fun e W' => (∃ v, e = .returned v) ∧ (J N W' ∨ Jx W')
/-- How a round's body may be left. -/
def bodyEnd (c N : Nat) (left : Nat → Value) (I : Nat → World → Prop) (Ix : World → Prop) (k : Nat) (W : World) : Exit → Act → World → Prop
  | .normal, _, W' => KeepsOthers W W' ∧ I (k + 1) W' ∧ LeftAt c (left (k + 1)) W'
  | .ret, _, W' => KeepsOthers W W' ∧ Ix W'
  | _, _, _ => False
theorem wpIn_rangeLeft {F : Fence} {n : Nat} {P : Program} {g : Operand} {p : Tmp} {assign body : Code} {Q : Exit → Act → World → Prop} {a : Act} {w : World}
    (hro : F.round = none) (h1 : 1 ≤ n) {gf : Nat} {lb : Array Value} (hg : a.eval g = .func (.func gf) #[] lb) (hFg : F.fn gf) (eg : ∀ args w, (callFunc gf args).run P w = .ok (.enter gf args) w)
    {c N : Nat} {arg left : Nat → Value} (hit : ItOk F (n - 1) P gf lb c N arg left) (hc : c < w.heap.size) (hl0 : LeftAt c (left 0) w)
    (I : Nat → World → Prop) (Ix : World → Prop) (h0 : I 0 w)
    (hIa : ∀ k W o, I k W → I k (W.alloc o)) (hIp : ∀ k W l o o', w.heap.size ≤ l → W.heap[l]? = some o' → o'.isCells = false → I k W → I k (W.putObj l o))
    (hXp : ∀ W l o o', w.heap.size ≤ l → W.heap[l]? = some o' → o'.isCells = false → Ix W → Ix (W.putObj l o))
    (hIs : ∀ k W W', I k W → ItStep c W W' → I k W') (a₁ : Nat → Act)
    (hassign : ∀ (l k : Nat) (W : World) (K : Act → World → Prop), K (a₁ k) W → assign.wpIn (F.inRound l) (n - 1 - 1) P (Exit.then K (fun _ _ _ => False)) { tmps := a.tmps.setIfInBounds p (arg k), defers := [] } W)
    (hbody : ∀ (l k : Nat) (W : World), k < N → I k W → LeftAt c (left (k + 1)) W → w.heap.size ≤ W.heap.size → body.wpIn (F.inRound l) (n - 1 - 1) P (bodyEnd c N left I Ix k W) (a₁ k) W)
    (hdone : ∀ (D : Nat) (W : World), I N W → w.heap.size ≤ D → W.heap[D]? = some (.deferred (some [])) → Q .normal { a with defers := { target := .collected D, args := #[] } :: a.defers } W)
    (hstop : ∀ (D : Nat) (W : World), Ix W → w.heap.size ≤ D → W.heap[D]? = some (.deferred (some [])) → Code.ret.wpIn F n P Q { a with defers := { target := .collected D, args := #[] } :: a.defers } W) :
    (Code.rangeFunc g #[p] assign body).wpIn F n P Q a w := by
  refine wpIn_rangeFunc fun fn hfn => ?_
  rw [hro]
  obtain ⟨rec, hrec⟩ : ∃ rec : LoopState → Option Code → Loop, rec = fun st pe => { state := st, pending := pe, fn, tmps := a.tmps, params := #[p], assign, body, defers := w.heap.size } := ⟨_, rfl⟩
  obtain ⟨L, hL⟩ : ∃ L, L = w.heap.size + 1 := ⟨_, rfl⟩
  obtain ⟨W1, hW1⟩ : ∃ W1, W1 = (w.alloc (.deferred (some []))).alloc (.loop (rec .ready none)) := ⟨_, rfl⟩
  have eD : (w.alloc (.deferred (some []))).heap[w.heap.size]? = some (.deferred (some [])) := World.alloc_heap_new w _
  have b1 : W1.heap[L]? = some (.loop (rec .ready none)) := by
    rw [hW1, hL]
    have h := World.alloc_heap_new (w.alloc (.deferred (some []))) (.loop (rec .ready none))
    rwa [World.size_alloc] at h
  have b2 : W1.heap[w.heap.size]? = some (.deferred (some [])) := by
    rw [hW1]; exact (heap_alloc_old _ _ (by simp)).trans eD
  have bI : I 0 W1 := by rw [hW1]; exact hIa _ _ _ (hIa _ _ _ h0)
  have bC : LeftAt c (left 0) W1 := hl0.move (by
    rw [hW1]; exact (heap_alloc_old _ _ (by simp; omega)).trans (heap_alloc_old w _ hc))
  have e1 : (Instr.enterLoop fn a.tmps #[p] assign body none).run P w = .ok (L, [{ target := .collected w.heap.size, args := #[] }]) W1 := by
    rw [hW1, hL, hrec]; exact run_enterLoop_outer _ _ _ _ _
  have e2 : (resolve a.eval (rangeCall g L) 0).run P W1 = .ok { target := .fn (.func gf) lb, args := #[.func (.yield L) #[] #[]] } W1 := by
    simp only [resolve, hg]; simp [go_sem]
  have e3 : ∀ f', Target.leads P W1 (.fn (.func gf) lb) #[.func (.yield L) #[] #[]] = some f' → F.fn f' := fun f' hf' => by
    simp [Target.leads] at hf'; subst hf'; exact hFg
  have e4 : (invoke (.fn (.func gf) lb) #[.func (.yield L) #[] #[]]).run P W1 = .ok (.enter gf (#[.func (.yield L) #[] #[]] ++ lb)) W1 := by
    simp [invoke, go_sem, eg]
  -- the invariant with the loop's record beside it
  obtain ⟨J, hJ⟩ : ∃ J : Nat → World → Prop, J = fun k W => I k W ∧ W.heap[L]? = some (.loop (rec .ready none)) ∧ W.heap[w.heap.size]? = some (.deferred (some [])) := ⟨_, rfl⟩
  obtain ⟨Jx, hJx⟩ : ∃ Jx : World → Prop, Jx = fun W => Ix W ∧ W.heap[L]? = some (.loop (rec .done (some .ret))) ∧ W.heap[w.heap.size]? = some (.deferred (some [])) := ⟨_, rfl⟩
  have key := hit L J Jx W1 (by
    rw [hJ]
    rintro k W W' ⟨g1, g2, g3⟩ hs
    have hm : ∀ j, j ≠ c → W'.heap[j]? = W.heap[j]? := fun j hj => by
      obtain ⟨m, rfl | ⟨v, rfl⟩⟩ := hs
      · rfl
      · exact heap_setCell_other W _ j v (by simpa using hj)
    exact ⟨hIs k W W' g1 hs, (hm L (by omega)).trans g2, (hm _ (by omega)).trans g3⟩) (by
    rw [hJ, hJx]
    rintro k W hk ⟨g1, g2, g3⟩ gc
    have hlt : L < W.heap.size := (Array.getElem?_eq_some_iff.1 g2).1
    have hy := run_yield (P := P) (args := #[arg k]) g2 (by rw [hrec]; rfl)
    refine ⟨_, _, _, _, hy, ?_⟩
    have eF : (rec .ready none).fn = fn := by rw [hrec]
    have eA : (rec .ready none).assign = assign := by rw [hrec]
    have eB : (rec .ready none).body = body := by rw [hrec]
    have eT : ((rec .ready none).params.zip #[arg k]).foldl (fun tmps (t, a) => tmps.setIfInBounds t a) (rec .ready none).tmps = a.tmps.setIfInBounds p (arg k) := by rw [hrec]; simp
    rw [eF, eA, eB]
    refine roundIn_of_wpIn hfn ?_
    have has := fun K => hassign L k W K
    rw [← eT] at has
    refine has _ ⟨_, run_beginRound g2 (by rw [hrec]), ?_⟩
    obtain ⟨W2, hW2⟩ : ∃ W2, W2 = W.putObj L (.loop { rec .ready none with state := .busy }) := ⟨_, rfl⟩
    rw [← hW2]
    have c2 : W2.heap[L]? = some (.loop { rec .ready none with state := .busy }) := by rw [hW2]; exact World.putObj_heap_same hlt
    have c3 : W2.heap[w.heap.size]? = some (.deferred (some [])) := by rw [hW2]; exact (World.putObj_heap_other (by omega)).trans g3
    have c1 : I k W2 := by rw [hW2]; exact hIp k W L _ _ (by omega) g2 rfl g1
    have cc : LeftAt c (left (k + 1)) W2 := gc.move (by rw [hW2]; exact World.putObj_heap_other (by omega))
    refine wpIn_mono (hbody L k W2 hk c1 cc (by rw [hW2]; simp; omega)) ?_
    rintro e a3 W3 hp
    have fin : ∀ (jump : Option Code), KeepsOthers W2 W3 →
        (Instr.endRound L jump).run P W3 = .ok (.bool jump.isNone) (W3.putObj L (.loop (rec (if jump.isNone then .ready else .done) jump))) ∧ W3.heap[L]? = some (.loop { rec .ready none with state := .busy }) ∧
        (W3.putObj L (.loop (rec (if jump.isNone then .ready else .done) jump))).heap[L]? = some (.loop (rec (if jump.isNone then .ready else .done) jump)) ∧
        (W3.putObj L (.loop (rec (if jump.isNone then .ready else .done) jump))).heap[w.heap.size]? = some (.deferred (some [])) := fun jump hk3 => by
      have d2 := hk3.same _ _ c2 rfl
      have d3 := hk3.same _ _ c3 rfl
      have hr := run_endRound (P := P) jump d2
      refine ⟨?_, d2, World.putObj_heap_same (Array.getElem?_eq_some_iff.1 d2).1, (World.putObj_heap_other (by omega)).trans d3⟩
      rw [hrec] at hr ⊢; exact hr
    cases e with
    | normal =>
      obtain ⟨k3, i3, l3⟩ := hp
      obtain ⟨r1, r2, r3, r4⟩ := fin none k3
      exact ⟨_, _, r1, .inl ⟨rfl, ⟨hIp _ _ _ _ _ (by omega) r2 rfl i3, r3, r4⟩, l3.move (World.putObj_heap_other (by omega))⟩⟩
    | ret =>
      obtain ⟨k3, x3⟩ := hp
      obtain ⟨r1, r2, r3, r4⟩ := fin (some .ret) k3
      exact ⟨_, _, r1, .inr ⟨rfl, hXp _ _ _ _ (by omega) r2 rfl x3, r3, r4⟩⟩
    | exit id => exact hp.elim
    | goto t => exact hp.elim
    | panic ch => exact hp.elim
    | outgrown => exact hp.elim) (by rw [hJ]; exact ⟨bI, b1, b2⟩) bC
  refine ⟨L, _, W1, _, W1, gf, _, W1, e1, e2, e3, e4, fun _ => h1, key.mono ?_⟩
  rw [hJ, hJx]
  rintro e W2 ⟨⟨v, rfl⟩, ⟨g1, g2, g3⟩ | ⟨g1, g2, g3⟩⟩
  · have h : (Instr.endLoop L).run P W2 = .ok none (W2.putObj L (.loop { rec .ready none with state := .exhausted })) := by
      have h := run_endLoop (P := P) g2 (by rw [hrec]; simp)
      have e : (rec .ready none).pending = none := by rw [hrec]
      rw [h]; exact congrArg (fun q => Result.ok q _) e
    exact ⟨none, _, h, hdone w.heap.size _ (hIp _ _ L _ _ (by omega) g2 rfl g1) (Nat.le_refl _) ((World.putObj_heap_other (by omega)).trans g3)⟩
  · have h : (Instr.endLoop L).run P W2 = .ok (some .ret) (W2.putObj L (.loop { rec .done (some .ret) with state := .exhausted })) := by
      have h := run_endLoop (P := P) g2 (by rw [hrec]; simp)
      have e : (rec .done (some .ret)).pending = some .ret := by rw [hrec]
      rw [h]; exact congrArg (fun q => Result.ok q _) e
    exact ⟨some .ret, _, h, hstop w.heap.size _ (hXp _ L _ _ (by omega) g2 rfl g1) (Nat.le_refl _) ((World.putObj_heap_other (by omega)).trans g3)⟩
end Go.Proofs.YtglimhkpndfjgaaGreatDoor
/- Contracts of the library's functions, laid at this program by the shelf's tool (numbers of this seat alone). -/
namespace Go.Proofs.YtglimhkpndfjgaaGreatDoor
open Go.Shelf
def sh_lays137_ren : Go.Shelf.Ren := ⟨fun | 137 => 146 | 217 => 177 | 266 => 207 | n => n, fun | 9 => 9 | 5 => 5 | 3 => 3 | n => n, fun | n => n⟩
theorem sh_lays137 : Go.Proofs.Lays.n137 Tryz.prog sh_lays137_ren := {
  mixed := by kernel_rfl
  f137 := Tryz.func146.trans (congrArg some (by kernel_rfl))
  f217 := Tryz.func177.trans (congrArg some (by kernel_rfl))
  f266 := Tryz.func207.trans (congrArg some (by kernel_rfl))
  t3 := Tryz.underlying3
  a3 := Tryz.isAgg3
  z3 := Tryz.sizeOf3
  v3 := Tryz.zeroValue3
  t5 := Tryz.underlying5
  a5 := Tryz.isAgg5
  z5 := Tryz.sizeOf5
  v5 := Tryz.zeroValue5
  t9 := Tryz.underlying9
  a9 := Tryz.isAgg9
  z9 := Tryz.sizeOf9
  v9 := Tryz.zeroValue9 }
open Go.RowKit in
/-- strings.IndexByte: "IndexByte returns the index of the first instance of c in s, or -1 if c is not present in s.": IT RETURNS 'Lib.indexByte s c'; the world is as it was. (LAID: no walk: one application.) -/
theorem sh_strings_IndexByte (s : ByteArray) (c : Int) (w : World) :
    Calls Tryz.prog 146 #[.string s, .int .u8 c] w fun e w' => e = .returned (.int .i64 (Lib.indexByte s.data.toList c.toNat.toUInt8)) ∧ w' = w := Any.strings_IndexByte sh_lays137 s c w
def sh_laysC174_ren : Go.Shelf.Ren := ⟨fun | 174 => 119 | 247 => 153 | 245 => 150 | 287 => 149 | 279 => 184 | 280 => 185 | 281 => 186 | 282 => 187 | 321 => 182 | 322 => 183 | 316 => 212 | 171 => 214 | 205 => 213 | 243 => 231 | 246 => 194 | 283 => 215 | 284 => 216 | 285 => 217 | 286 => 218 | 129 => 174 | 317 => 232 | 318 => 233 | 319 => 234 | 320 => 235 | 337 => 238 | 338 => 239 | n => n, fun | 9 => 9 | 3 => 3 | 2 => 2 | 75 => 136 | 85 => 142 | 4 => 4 | 167 => 188 | 5 => 5 | 53 => 126 | 175 => 137 | 46 => 157 | 168 => 190 | 37 => 22 | 0 => 0 | 210 => 214 | 21 => 21 | 127 => 166 | 145 => 231 | 143 => 229 | 171 => 217 | 173 => 219 | 212 => 233 | 51 => 140 | 20 => 20 | 213 => 234 | 232 => 242 | 233 => 243 | 80 => 151 | n => n, fun | 15 => 1 | 16 => 2 | 17 => 4 | 18 => 7 | 19 => 8 | n => n⟩
theorem sh_laysC174 : Go.Proofs.LaysC.n174 Tryz.prog sh_laysC174_ren := {
  mixed := by kernel_rfl
  f129 := Tryz.func174.trans (congrArg some (by kernel_rfl))
  f171 := Tryz.func214.trans (congrArg some (by kernel_rfl))
  f174 := Tryz.func119.trans (congrArg some (by kernel_rfl))
  f205 := Tryz.func213.trans (congrArg some (by kernel_rfl))
  f243 := Tryz.func231.trans (congrArg some (by kernel_rfl))
  f245 := Tryz.func150.trans (congrArg some (by kernel_rfl))
  f246 := Tryz.func194.trans (congrArg some (by kernel_rfl))
  f247 := Tryz.func153.trans (congrArg some (by kernel_rfl))
  f279 := Tryz.func184.trans (congrArg some (by kernel_rfl))
  f280 := Tryz.func185.trans (congrArg some (by kernel_rfl))
  f281 := Tryz.func186.trans (congrArg some (by kernel_rfl))
  f282 := Tryz.func187.trans (congrArg some (by kernel_rfl))
  f283 := Tryz.func215.trans (congrArg some (by kernel_rfl))
  f284 := Tryz.func216.trans (congrArg some (by kernel_rfl))
  f285 := Tryz.func217.trans (congrArg some (by kernel_rfl))
  f286 := Tryz.func218.trans (congrArg some (by kernel_rfl))
  f287 := Tryz.func149.trans (congrArg some (by kernel_rfl))
  f316 := Tryz.func212.trans (congrArg some (by kernel_rfl))
  f317 := Tryz.func232.trans (congrArg some (by kernel_rfl))
  f318 := Tryz.func233.trans (congrArg some (by kernel_rfl))
  f319 := Tryz.func234.trans (congrArg some (by kernel_rfl))
  f320 := Tryz.func235.trans (congrArg some (by kernel_rfl))
  f321 := Tryz.func182.trans (congrArg some (by kernel_rfl))
  f322 := Tryz.func183.trans (congrArg some (by kernel_rfl))
  f337 := Tryz.func238.trans (congrArg some (by kernel_rfl))
  f338 := Tryz.func239.trans (congrArg some (by kernel_rfl))
  t0 := Tryz.underlying0
  a0 := Tryz.isAgg0
  z0 := Tryz.sizeOf0
  v0 := Tryz.zeroValue0
  t2 := Tryz.underlying2
  a2 := Tryz.isAgg2
  z2 := Tryz.sizeOf2
  v2 := Tryz.zeroValue2
  t3 := Tryz.underlying3
  a3 := Tryz.isAgg3
  z3 := Tryz.sizeOf3
  v3 := Tryz.zeroValue3
  t4 := Tryz.underlying4
  a4 := Tryz.isAgg4
  z4 := Tryz.sizeOf4
  v4 := Tryz.zeroValue4
  t5 := Tryz.underlying5
  a5 := Tryz.isAgg5
  z5 := Tryz.sizeOf5
  v5 := Tryz.zeroValue5
  t9 := Tryz.underlying9
  a9 := Tryz.isAgg9
  z9 := Tryz.sizeOf9
  v9 := Tryz.zeroValue9
  t20 := Tryz.underlying20
  a20 := Tryz.isAgg20
  z20 := Tryz.sizeOf20
  v20 := Tryz.zeroValue20
  t21 := Tryz.underlying21
  a21 := Tryz.isAgg21
  z21 := Tryz.sizeOf21
  v21 := Tryz.zeroValue21
  t37 := Tryz.underlying22
  a37 := Tryz.isAgg22
  z37 := Tryz.sizeOf22
  v37 := Tryz.zeroValue22
  t46 := Tryz.underlying157
  a46 := Tryz.isAgg157
  z46 := Tryz.sizeOf157
  v46 := Tryz.zeroValue157
  t51 := Tryz.underlying140
  a51 := Tryz.isAgg140
  z51 := Tryz.sizeOf140
  v51 := Tryz.zeroValue140
  t53 := Tryz.underlying126
  a53 := Tryz.isAgg126
  z53 := Tryz.sizeOf126
  v53 := Tryz.zeroValue126
  t75 := Tryz.underlying136
  a75 := Tryz.isAgg136
  z75 := Tryz.sizeOf136
  v75 := Tryz.zeroValue136
  t85 := Tryz.underlying142
  a85 := Tryz.isAgg142
  z85 := Tryz.sizeOf142
  v85 := Tryz.zeroValue142
  t127 := Tryz.underlying166
  a127 := Tryz.isAgg166
  z127 := Tryz.sizeOf166
  v127 := Tryz.zeroValue166
  t143 := Tryz.underlying229
  a143 := Tryz.isAgg229
  z143 := Tryz.sizeOf229
  v143 := Tryz.zeroValue229
  t145 := Tryz.underlying231
  a145 := Tryz.isAgg231
  z145 := Tryz.sizeOf231
  v145 := Tryz.zeroValue231
  t167 := Tryz.underlying188
  a167 := Tryz.isAgg188
  z167 := Tryz.sizeOf188
  v167 := Tryz.zeroValue188
  t168 := Tryz.underlying190
  a168 := Tryz.isAgg190
  z168 := Tryz.sizeOf190
  v168 := Tryz.zeroValue190
  t171 := Tryz.underlying217
  a171 := Tryz.isAgg217
  z171 := Tryz.sizeOf217
  v171 := Tryz.zeroValue217
  t173 := Tryz.underlying219
  a173 := Tryz.isAgg219
  z173 := Tryz.sizeOf219
  v173 := Tryz.zeroValue219
  t175 := Tryz.underlying137
  a175 := Tryz.isAgg137
  z175 := Tryz.sizeOf137
  v175 := Tryz.zeroValue137
  t210 := Tryz.underlying214
  a210 := Tryz.isAgg214
  z210 := Tryz.sizeOf214
  v210 := Tryz.zeroValue214
  t212 := Tryz.underlying233
  a212 := Tryz.isAgg233
  z212 := Tryz.sizeOf233
  v212 := Tryz.zeroValue233
  t213 := Tryz.underlying234
  a213 := Tryz.isAgg234
  z213 := Tryz.sizeOf234
  t232 := Tryz.underlying242
  a232 := Tryz.isAgg242
  z232 := Tryz.sizeOf242
  v232 := Tryz.zeroValue242
  t233 := Tryz.underlying243
  a233 := Tryz.isAgg243
  z233 := Tryz.sizeOf243
  v233 := Tryz.zeroValue243
  g15 := by kernel_rfl
  g16 := by kernel_rfl
  g17 := by kernel_rfl
  g18 := by kernel_rfl
  g19 := by kernel_rfl
  t80 := Tryz.underlying151
  a80 := Tryz.isAgg151
  z80 := Tryz.sizeOf151
  v80 := Tryz.zeroValue151
  i0 := by kernel_rfl
  i2 := by kernel_rfl
  i3 := by kernel_rfl
  i4 := by kernel_rfl
  i5 := by kernel_rfl
  i9 := by kernel_rfl
  i20 := by kernel_rfl
  i21 := by kernel_rfl
  i37 := by kernel_rfl
  i46 := by kernel_rfl
  i51 := by kernel_rfl
  i53 := by kernel_rfl
  i75 := by kernel_rfl
  i80 := by kernel_rfl
  i85 := by kernel_rfl
  i127 := by kernel_rfl
  i143 := by kernel_rfl
  i145 := by kernel_rfl
  i167 := by kernel_rfl
  i168 := by kernel_rfl
  i171 := by kernel_rfl
  i173 := by kernel_rfl
  i175 := by kernel_rfl
  i210 := by kernel_rfl
  i212 := by kernel_rfl
  i232 := by kernel_rfl
  i233 := by kernel_rfl
  m15 := by kernel_rfl
  m16 := by kernel_rfl
  m17 := by kernel_rfl
  m18 := by kernel_rfl
  m19 := by kernel_rfl
  c0 := by kernel_rfl
  c2 := by kernel_rfl
  c3 := by kernel_rfl
  c4 := by kernel_rfl
  c5 := by kernel_rfl
  c9 := by kernel_rfl
  c20 := by kernel_rfl
  c21 := by kernel_rfl
  c37 := by kernel_rfl
  c46 := by kernel_rfl
  c51 := by kernel_rfl
  c53 := by kernel_rfl
  c75 := by kernel_rfl
  c80 := by kernel_rfl
  c85 := by kernel_rfl
  c127 := by kernel_rfl
  c143 := by kernel_rfl
  c145 := by kernel_rfl
  c167 := by kernel_rfl
  c168 := by kernel_rfl
  c171 := by kernel_rfl
  c173 := by kernel_rfl
  c175 := by kernel_rfl
  c210 := by kernel_rfl
  c212 := by kernel_rfl
  c213 := by kernel_rfl
  c232 := by kernel_rfl
  c233 := by kernel_rfl }
def sh_lays102_ren : Go.Shelf.Ren := ⟨fun | 102 => 115 | 209 => 148 | 207 => 181 | n => n, fun | 9 => 9 | 4 => 4 | 3 => 3 | n => n, fun | n => n⟩
theorem sh_lays102 : Go.Proofs.Lays.n102 Tryz.prog sh_lays102_ren := {
  mixed := by kernel_rfl
  f102 := Tryz.func115.trans (congrArg some (by kernel_rfl))
  f207 := Tryz.func181.trans (congrArg some (by kernel_rfl))
  f209 := Tryz.func148.trans (congrArg some (by kernel_rfl))
  t3 := Tryz.underlying3
  a3 := Tryz.isAgg3
  z3 := Tryz.sizeOf3
  v3 := Tryz.zeroValue3
  t4 := Tryz.underlying4
  a4 := Tryz.isAgg4
  z4 := Tryz.sizeOf4
  v4 := Tryz.zeroValue4
  t9 := Tryz.underlying9
  a9 := Tryz.isAgg9
  z9 := Tryz.sizeOf9
  v9 := Tryz.zeroValue9 }
open Go.RowKit Go.Lib in
/-- strings.TrimSuffix: "TrimSuffix returns s without the provided trailing suffix string. If s doesn't end with suffix, s is returned unchanged.": IT RETURNS 'Lib.trimSuffix s suffix'; the world is as it was. (LAID: no walk: one application.) -/
theorem sh_strings_TrimSuffix (s p : ByteArray) (w : World) (hs : s.size ≤ 9223372036854775807) :
    Calls Tryz.prog 115 #[.string s, .string p] w fun e w' => e = .returned (.string ⟨(Lib.trimSuffix s.data.toList p.data.toList).toArray⟩) ∧ w' = w := Any.strings_TrimSuffix sh_lays102 s p w hs
def sh_lays147_ren : Go.Shelf.Ren := ⟨fun | 147 => 114 | 221 => 147 | 268 => 178 | 138 => 179 | 143 => 180 | 195 => 208 | 197 => 209 | 218 => 210 | 219 => 211 | 260 => 227 | 217 => 177 | 225 => 228 | 224 => 229 | 267 => 230 | 266 => 207 | 314 => 237 | n => n, fun | 9 => 9 | 3 => 3 | 31 => 93 | 4 => 4 | 0 => 0 | 105 => 210 | 21 => 21 | 5 => 5 | 46 => 157 | 119 => 237 | 139 => 240 | 138 => 239 | 146 => 221 | 51 => 140 | n => n, fun | 1 => 3 | 3 => 5 | 4 => 6 | n => n⟩
theorem sh_lays147 : Go.Proofs.Lays.n147 Tryz.prog sh_lays147_ren := {
  mixed := by kernel_rfl
  f138 := Tryz.func179.trans (congrArg some (by kernel_rfl))
  f143 := Tryz.func180.trans (congrArg some (by kernel_rfl))
  f147 := Tryz.func114.trans (congrArg some (by kernel_rfl))
  f195 := Tryz.func208.trans (congrArg some (by kernel_rfl))
  f197 := Tryz.func209.trans (congrArg some (by kernel_rfl))
  f217 := Tryz.func177.trans (congrArg some (by kernel_rfl))
  f218 := Tryz.func210.trans (congrArg some (by kernel_rfl))
  f219 := Tryz.func211.trans (congrArg some (by kernel_rfl))
  f221 := Tryz.func147.trans (congrArg some (by kernel_rfl))
  f224 := Tryz.func229.trans (congrArg some (by kernel_rfl))
  f225 := Tryz.func228.trans (congrArg some (by kernel_rfl))
  f260 := Tryz.func227.trans (congrArg some (by kernel_rfl))
  f266 := Tryz.func207.trans (congrArg some (by kernel_rfl))
  f267 := Tryz.func230.trans (congrArg some (by kernel_rfl))
  f268 := Tryz.func178.trans (congrArg some (by kernel_rfl))
  f314 := Tryz.func237.trans (congrArg some (by kernel_rfl))
  t0 := Tryz.underlying0
  a0 := Tryz.isAgg0
  z0 := Tryz.sizeOf0
  v0 := Tryz.zeroValue0
  t3 := Tryz.underlying3
  a3 := Tryz.isAgg3
  z3 := Tryz.sizeOf3
  v3 := Tryz.zeroValue3
  t4 := Tryz.underlying4
  a4 := Tryz.isAgg4
  z4 := Tryz.sizeOf4
  v4 := Tryz.zeroValue4
  t5 := Tryz.underlying5
  a5 := Tryz.isAgg5
  z5 := Tryz.sizeOf5
  v5 := Tryz.zeroValue5
  t9 := Tryz.underlying9
  a9 := Tryz.isAgg9
  z9 := Tryz.sizeOf9
  v9 := Tryz.zeroValue9
  t21 := Tryz.underlying21
  a21 := Tryz.isAgg21
  z21 := Tryz.sizeOf21
  v21 := Tryz.zeroValue21
  t31 := Tryz.underlying93
  a31 := Tryz.isAgg93
  z31 := Tryz.sizeOf93
  v31 := Tryz.zeroValue93
  t46 := Tryz.underlying157
  a46 := Tryz.isAgg157
  z46 := Tryz.sizeOf157
  v46 := Tryz.zeroValue157
  t51 := Tryz.underlying140
  a51 := Tryz.isAgg140
  z51 := Tryz.sizeOf140
  v51 := Tryz.zeroValue140
  t105 := Tryz.underlying210
  a105 := Tryz.isAgg210
  z105 := Tryz.sizeOf210
  v105 := Tryz.zeroValue210
  t119 := Tryz.underlying237
  a119 := Tryz.isAgg237
  z119 := Tryz.sizeOf237
  t138 := Tryz.underlying239
  a138 := Tryz.isAgg239
  z138 := Tryz.sizeOf239
  v138 := Tryz.zeroValue239
  t139 := Tryz.underlying240
  a139 := Tryz.isAgg240
  z139 := Tryz.sizeOf240
  v139 := Tryz.zeroValue240
  t146 := Tryz.underlying221
  a146 := Tryz.isAgg221
  z146 := Tryz.sizeOf221
  v146 := Tryz.zeroValue221
  g1 := by kernel_rfl
  g3 := by kernel_rfl
  g4 := by kernel_rfl }
open Go.RowKit Go.Lib in
/-- strings.SplitN, n > 0. (LAID: no walk: one application.) -/
theorem sh_strings_SplitN (s sep : ByteArray) (n : Nat) (m : Int) (w : World) (hs : s.size < 4294967281) (hm : w.cell? ⟨3, 0, none⟩ = some (.int .i64 m)) (h1 : 1 ≤ sep.size) (hn : 1 ≤ n) (hn63 : n ≤ 9223372036854775807) :
    Calls Tryz.prog 114 #[.string s, .string sep, .int .i64 n] w fun e w' =>
      e = .returned (.slice (some ⟨w.heap.size, 0, none⟩) (Lib.splitB sep 0 (min n (s.size + 1) - 1) s).length (min n (s.size + 1))) ∧ w' = w.alloc (.cells (Lib.cellsOf (Lib.splitB sep 0 (min n (s.size + 1) - 1) s) (min n (s.size + 1))) 9) := Any.strings_SplitN sh_lays147 (by kernel_rfl) s sep n m w hs hm h1 hn hn63
end Go.Proofs.YtglimhkpndfjgaaGreatDoor
