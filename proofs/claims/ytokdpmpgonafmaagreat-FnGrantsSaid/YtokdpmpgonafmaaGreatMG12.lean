import Derived.Test.YtokdpmpgonafmaaGreatMG11
import Derived.Test.YtokdpmpgonafmaaGreatMG10
import Derived.Laws.Externs
/- Steps of a ground: the walks through the program's functions and the reference's. -/
namespace Go.Proofs.YtokdpmpgonafmaaGreat
open Go.ChangeShapes Go.WideShapes Go.ChangeAt Go.RowKit
set_option linter.unusedVariables false
set_option linter.unusedSimpArgs false
attribute [local irreducible] Calls

section
variable {P : Program} {ops : Array Oper} {rest : List Oper} {o : Oper} {a : Act} {Q : Exit → Act → World → Prop} {w : World}
/-- 'T{}' of a type whose zero value is a row. -/
theorem wpList_zero {t : TypeId} {Z : Array Value} (hgd : o.guard = none) (ho : o.op = .build t #[]) (hb : P.built t [] = some Z) (h : wpList P ops Q rest (a.put o.dst (.agg Z)) w) : wpList P ops Q (o :: rest) a w :=
  wpList_plain hgd fun K hK => by
    have hb' : P.built t ((#[] : Array (Nat × Operand)).map fun (i, x) => (i, a.eval x)).toList = some Z := by simpa using hb
    refine wp_build t #[] ho (by rw [hb']; rfl) ?_
    rw [hb']
    exact hK _ _ h
/-- A ground at the head of a block, loaded whole. -/
theorem wpList_load_gat {ty : TypeId} {x : Operand} {b : Nat} {g : Gr} (hgd : o.guard = none) (ho : o.op = .load ty x) (hx : a.eval x = .pointer (some ⟨b, 0, none⟩)) (hr : RowTy P ty 195) (hb : GAt w b g)
    (h : wpList P ops Q rest (a.put o.dst (.agg g.cells)) w) : wpList P ops Q (o :: rest) a w := by
  obtain ⟨d, hu, hd, hi⟩ := hr
  refine wpList_load_mid hgd ty x ho b 0 hx g.cells.toList d (fun j u hj => ?_) hu hd (by rw [hi]; simp [g.size]) ?_
  · have hj2 : j < 195 := by
      rcases Nat.lt_or_ge j g.cells.toList.length with h2 | h2
      · simpa [g.size] using h2
      · rw [List.getElem?_eq_none h2] at hj; cases hj
    have := hb.mem j hj2
    rw [Array.getElem?_toList, g.get j hj2] at hj
    rw [Nat.zero_add, this, hj]
  · rw [Array.toArray_toList]; exact h
end
theorem built66 : Tryz.prog.built 39 [] = some zeroG.cells := by unfold zeroG Gr.cells; kernel_rfl
theorem built64 : Tryz.prog.built 37 [] = some (fls 64 fun _ => 0).toArray := by unfold fls; kernel_rfl

/-- The cells among the first k that are not fixed. -/
def freeOf (g : Gr) (l : List Nat) : List Nat := l.filter fun k => !isFx g k
theorem freeOf_snoc (g : Gr) (l : List Nat) (k : Nat) : freeOf g (l ++ [k]) = if isFx g k then freeOf g l else freeOf g l ++ [k] := by
  unfold freeOf; rw [List.filter_append]; cases h : isFx g k <;> simp [h]
theorem freeOf_length (g : Gr) (l : List Nat) : (freeOf g l).length ≤ l.length := List.length_filter_le _ _
theorem freeOf_mem {g : Gr} {l : List Nat} {k : Nat} (h : k ∈ freeOf g l) : k ∈ l ∧ isFx g k = false := by
  unfold freeOf at h; rw [List.mem_filter] at h; simpa using h
/-- All cells that are not fixed. -/
def freeL (g : Gr) : List Nat := freeOf g (cellsTo g 64)

/-- The balance of a cell, nothing elsewhere. -/
def balF (g : Gr) (k : Nat) : Nat := if isC g k then bal g k else 0
def allFin (g : Gr) (l : List Nat) : Bool := l.all fun k => fin (bal g k)
theorem allFin_snoc (g : Gr) (l : List Nat) (k : Nat) : allFin g (l ++ [k]) = (allFin g l && fin (bal g k)) := by unfold allFin; simp [List.all_append]
theorem cellsTo_mem {g : Gr} {n k : Nat} : k ∈ cellsTo g n ↔ k < n ∧ isC g k = true := by unfold cellsTo; rw [List.mem_filter, List.mem_range]
theorem allFin_all (g : Gr) : allFin g (cellsTo g 64) = balsOk g := by
  apply Bool.eq_iff_iff.2
  unfold allFin balsOk
  simp only [Bool.not_eq_true', anyTo_false, List.all_eq_true, cellsTo_mem]
  constructor
  · intro h i hi
    unfold notFin
    cases hc : isC g i
    · rfl
    · rw [h i ⟨hi, hc⟩]; rfl
  · rintro h i ⟨hi, hc⟩
    have := h i hi
    unfold notFin at this
    rw [hc] at this
    simpa using this

end Go.Proofs.YtokdpmpgonafmaaGreat
/- Steps of a ground: the walks through the program's step and the reference's. -/
namespace Go.Proofs.YtokdpmpgonafmaaGreat
open Go.ChangeShapes Go.WideShapes Go.ChangeAt Go.RowKit
set_option linter.unusedVariables false
set_option linter.unusedSimpArgs false
attribute [local irreducible] Calls

theorem zero66z : ZeroTy Tryz.prog 39 zeroG.cells := zero66
theorem nodup_cells (g : Gr) (n : Nat) : (cellsTo g n).Nodup := by unfold cellsTo; exact List.Pairwise.filter _ List.nodup_range
theorem nodup_free (g : Gr) : (freeL g).Nodup := by unfold freeL freeOf; exact List.Pairwise.filter _ (nodup_cells g 64)
theorem not_take {l : List Nat} (h : l.Nodup) {j k : Nat} (hk : l[j]? = some k) : k ∉ l.take j := by
  intro hm
  obtain ⟨i, hi⟩ := List.getElem?_of_mem hm
  rw [List.getElem?_take] at hi
  by_cases hij : i < j
  · rw [if_pos hij] at hi
    have hil : i < l.length := by
      rcases Nat.lt_or_ge i l.length with h' | h'
      · exact h'
      · rw [List.getElem?_eq_none h'] at hi; cases hi
    have := (List.getElem?_inj hil h).1 (hi.trans hk.symm)
    omega
  · rw [if_neg hij] at hi; cases hi
theorem freeL_mem {g : Gr} {k : Nat} : k ∈ freeL g ↔ (k < 64 ∧ isC g k = true) ∧ isFx g k = false := by
  unfold freeL freeOf; rw [List.mem_filter, cellsTo_mem]; simp
theorem stepIs_of {g : Gr} {part : Nat} {hh : Nat → Nat} (hb : balsOk g = true) (h : ∀ k, k < 64 → cn (hh k) = cn (stepH g part k)) : validG { g with hea := hh } = stepIs g part ∧ GrEq { g with hea := hh } (stepG g part) := by
  have he : GrEq { g with hea := hh } (stepG g part) := ⟨rfl, rfl, rfl, fun _ _ => rfl, fun _ _ => rfl, h⟩
  exact ⟨by rw [validG_al he]; unfold stepIs; rw [hb]; rfl, he⟩

end Go.Proofs.YtokdpmpgonafmaaGreat
/- Steps of a ground: the walk through the reference's step, and StepGround in both. -/
namespace Go.Proofs.YtokdpmpgonafmaaGreat
open Go.ChangeShapes Go.WideShapes Go.ChangeAt Go.RowKit
set_option linter.unusedVariables false
set_option linter.unusedSimpArgs false
attribute [local irreducible] Calls

/-- May these be a ground and a part? -/
def askOk (g : Gr) (part : Nat) : Bool := validG g && plain part
def stepGR (g : Gr) (part : Nat) : Gr := if askOk g part then stepR g part else zeroG
def stepGC (g : Gr) (part : Nat) : Int := if askOk g part then stepC g part else 1

end Go.Proofs.YtokdpmpgonafmaaGreat
/- Several steps of a ground: StepsOf in the program and in the reference, and its law. -/
namespace Go.Proofs.YtokdpmpgonafmaaGreat
open Go.ChangeShapes Go.WideShapes Go.ChangeAt Go.RowKit
set_option linter.unusedVariables false
set_option linter.unusedSimpArgs false
attribute [local irreducible] Calls

/-- The ground behind k steps, with a code: nothing goes on behind a step that fails. -/
def runTo (g : Gr) (part : Nat) : Nat → Gr × Int
  | 0 => (g, 0)
  | k + 1 => if (runTo g part k).2 = 0 then (stepR (runTo g part k).1 part, stepC (runTo g part k).1 part) else runTo g part k
theorem runTo_go {g : Gr} {part k : Nat} (h : (runTo g part k).2 = 0) : runTo g part (k + 1) = (stepR (runTo g part k).1 part, stepC (runTo g part k).1 part) := by
  show (if _ then _ else _) = _
  rw [if_pos h]
theorem runTo_stay {g : Gr} {part k : Nat} (h : (runTo g part k).2 ≠ 0) : ∀ m, k ≤ m → runTo g part m = runTo g part k
  | 0, hm => by obtain rfl : k = 0 := by omega
                rfl
  | m + 1, hm => by
    by_cases hk : k = m + 1
    · rw [hk]
    · have ih := runTo_stay h m (by omega)
      show (if _ then _ else _) = _
      rw [ih, if_neg h]
theorem stepC_cases (g : Gr) (part : Nat) : (stepIs g part = true ∧ stepC g part = 0 ∧ stepR g part = stepG g part) ∨ (stepIs g part = false ∧ stepC g part = 4 ∧ stepR g part = zeroG) := by
  unfold stepC stepR
  cases h : stepIs g part
  · right; exact ⟨rfl, rfl, rfl⟩
  · left; exact ⟨rfl, rfl, rfl⟩
theorem stepG_ok {g : Gr} (part : Nat) (h : g.ok) : (stepG g part).ok := ⟨h.wide, h.high, h.fix⟩
theorem zeroG_ok : zeroG.ok := ⟨by decide, by decide, by decide⟩
theorem zeroG_small : zeroG.small := ⟨by decide, by decide⟩
theorem stepR_ok {g : Gr} (part : Nat) (h : g.ok) : (stepR g part).ok := by
  rcases stepC_cases g part with ⟨_, _, e⟩ | ⟨_, _, e⟩ <;> rw [e]
  · exact stepG_ok part h
  · exact zeroG_ok
theorem stepR_small {g : Gr} (part : Nat) (h : g.small) : (stepR g part).small := by
  rcases stepC_cases g part with ⟨_, _, e⟩ | ⟨_, _, e⟩ <;> rw [e]
  · exact h
  · exact zeroG_small
theorem runTo_ok {g : Gr} {part : Nat} (h : g.ok) : ∀ k, (runTo g part k).1.ok
  | 0 => h
  | k + 1 => by
    show (if _ then _ else _ : Gr × Int).1.ok
    split
    · exact stepR_ok part (runTo_ok h k)
    · exact runTo_ok h k
theorem runTo_small {g : Gr} {part : Nat} (h : g.small) : ∀ k, (runTo g part k).1.small
  | 0 => h
  | k + 1 => by
    show (if _ then _ else _ : Gr × Int).1.small
    split
    · exact stepR_small part (runTo_small h k)
    · exact runTo_small h k

/-- May there be so many steps? -/
def isStp (n : Int) : Bool := decide (0 ≤ n) && decide (n ≤ 400)
def stepsC (g : Gr) (part : Nat) (n : Int) : Int := if askOk g part then (if isStp n then (runTo g part n.toNat).2 else 2) else 1
def stepsR (g : Gr) (part : Nat) (n : Int) : Gr := if stepsC g part n = 0 then (runTo g part n.toNat).1 else zeroG

end Go.Proofs.YtokdpmpgonafmaaGreat
/- Sizes of numbers, and the greatest of several: plain laws on words; no statement is proved here. -/
namespace Go.Proofs.YtokdpmpgonafmaaGreat
open Go.ChangeShapes Go.WideShapes Go.ChangeAt Go.RowKit Ieee
set_option linter.unusedVariables false
set_option linter.unusedSimpArgs false

theorem read_f32 (b : Nat) : FloatKind.f32.format.read b = single.read b := rfl
theorem plain_read {a : Nat} (h : plain a = true) : ∃ s m e, single.read a = .number s m e := by
  unfold plain at h
  obtain ⟨h1, h2⟩ := Bool.and_eq_true_iff.1 h
  have c1 : single.read 3380609024 = .number true 8388608 (-3) := by decide
  have c2 : single.read 1233125376 = .number false 8388608 (-3) := by decide
  unfold fge at h1
  unfold fle at h2
  unfold Format.order at h1 h2
  simp only [read_f32, c1, c2] at h1 h2
  cases hr : single.read a with
  | nan s f => rw [hr] at h1; simp [Datum.order] at h1
  | number s m e => exact ⟨s, m, e, rfl⟩
  | infinity s =>
    rw [hr] at h1 h2
    cases s <;> simp [Datum.order] at h1 h2
theorem isN_word (s : Bool) (r : Nat) (h : r ≤ 2139095040) : isN .f32 (single.word s r) = false := by
  obtain ⟨hb, hi, hl, hs, hf⟩ := single_facts
  unfold isN
  rw [read_f32, read_word _ _ _ (by rw [hs]; omega), hb, hi, hl]
  split
  · rfl
  · split
    · rfl
    · rw [if_pos (by omega)]; rfl
theorem isN_nearest (s : Bool) (m : Nat) (e : Int) : isN .f32 (single.nearest s m e) = false := by
  unfold Format.nearest
  split
  · exact isN_word _ _ (by omega)
  · exact isN_word _ _ (Nat.min_le_right _ _)
theorem sub_plain {a b : Nat} (ha : plain a = true) (hb : plain b = true) : ∃ r, floatBits .sub .f32 a b = some r ∧ isN .f32 r = false ∧ r < 4294967296 := by
  obtain ⟨s, m, e, h1⟩ := plain_read ha
  obtain ⟨s', m', e', h2⟩ := plain_read hb
  have h3 : floatBits .sub .f32 a b = single.sub a b := rfl
  cases hr : floatBits .sub .f32 a b with
  | none =>
    rw [h3] at hr
    unfold Format.sub at hr
    rw [h1, h2] at hr
    simp [Datum.opposite, Datum.sum] at hr
  | some r =>
    refine ⟨r, rfl, ?_, ?_⟩
    · rw [h3] at hr
      unfold Format.sub at hr
      rw [h1, h2] at hr
      simp only [Datum.opposite, Datum.sum, Option.map_some, Option.some.injEq] at hr
      rw [← hr]
      exact isN_nearest _ _ _
    · rw [h3] at hr
      have := single.sub_lt hr
      exact this
theorem fop_sub_plain {a b : Nat} (ha : plain a = true) (hb : plain b = true) : isN .f32 (fop .sub a b) = false ∧ fop .sub a b < 4294967296 := by
  obtain ⟨r, h1, h2, h3⟩ := sub_plain ha hb
  have : fop .sub a b = r := by unfold fop; rw [h1]; exact cn_num h2
  rw [this]; exact ⟨h2, h3⟩
theorem word_split {b : Nat} (hlt : b < 4294967296) : b = single.word (b / 2147483648 % 2 == 1) (b % 2147483648) := by
  unfold Format.word
  rw [single_facts.2.2.2.1]
  by_cases h : b < 2147483648
  · rw [show b / 2147483648 = 0 by omega, show b % 2147483648 = b by omega]; rfl
  · rw [show b / 2147483648 = 1 by omega]
    simp only [if_true, show (1 % 2 == 1) = true from rfl]
    omega
theorem read_sign (b : Nat) : (single.read b).neg = (b / 2147483648 % 2 == 1) := by
  unfold Format.read
  rw [single_facts.2.2.2.1]
  simp only
  split
  · rfl
  · split
    · rfl
    · split <;> rfl
theorem read_zero : single.read 0 = .number false 0 (-149) := by decide
theorem signed_zero (s : Bool) (u : Nat) : signed s 0 u = 0 := by unfold signed; cases s <;> simp
theorem signed_pos {m : Nat} (h : m ≠ 0) (u : Nat) : 0 < signed false m u := by
  unfold signed; simp only [Bool.false_eq_true, if_false, Nat.shiftLeft_eq]
  have : 0 < m * 2 ^ u := Nat.mul_pos (by omega) (Nat.two_pow_pos _)
  omega
theorem signed_neg {m : Nat} (h : m ≠ 0) (u : Nat) : signed true m u < 0 := by
  unfold signed; simp only [if_true, Nat.shiftLeft_eq]
  have : 0 < m * 2 ^ u := Nat.mul_pos (by omega) (Nat.two_pow_pos _)
  omega
/-- When a number is at most nothing. -/
theorem fle_zero {b : Nat} (hn : isN .f32 b = false) : fle b 0 = true ↔ (∃ e, single.read b = .infinity true ∧ e = 0) ∨ ∃ s m e, single.read b = .number s m e ∧ (s = true ∨ m = 0) := by
  unfold fle Format.order
  simp only [read_f32, read_zero]
  have hn' : (single.read b).isNaN = false := hn
  cases hr : single.read b with
  | nan s f => rw [hr] at hn'; cases hn'
  | infinity s => cases s <;> simp [Datum.order]
  | number s m e =>
    simp only [Datum.order, signed_zero]
    by_cases h0 : m = 0
    · subst h0; simp [signed_zero]
    · cases s
      · have := signed_pos h0 (e - min e (-149)).toNat
        have hc : compare (signed false m (e - min e (-149)).toNat) 0 = .gt := by rw [Int.compare_eq_gt]; exact this
        simp [hc, h0]
      · have := signed_neg h0 (e - min e (-149)).toNat
        have hc : compare (signed true m (e - min e (-149)).toNat) 0 = .lt := by rw [Int.compare_eq_lt]; exact this
        simp [hc]
/-- '0 - a' of a number that is at most nothing. -/
theorem size_sub {b : Nat} (hn : isN .f32 b = false) (h : fle b 0 = true) : floatBits .sub .f32 0 b = some (fab b) := by
  have h3 : floatBits .sub .f32 0 b = single.sub 0 b := rfl
  rw [h3]
  unfold Format.sub
  rw [read_zero]
  rcases (fle_zero hn).1 h with ⟨_, hr, _⟩ | ⟨s, m, e, hr, hs⟩
  · rw [hr, single_inf hr]; decide
  · rw [hr]
    simp only [Datum.opposite, Datum.sum, Option.map_some, Option.some.injEq]
    have hrange := single_range hr
    show single.nearest _ _ _ = _
    rw [signed_zero, Int.zero_add]
    by_cases h0 : m = 0
    · subst h0
      rw [zero_mag hr, signed_zero]
      rfl
    · obtain rfl : s = true := by rcases hs with h | h
                                  · exact h
                                  · exact absurd h h0
      have hp := signed_pos h0 (e - min (-149) e).toNat
      simp only [Bool.not_true]
      rw [if_neg (by omega), show min (-149 : Int) e = -149 by omega]
      have e1 : decide (signed false m (e - -149).toNat < 0) = false := decide_eq_false (by have := signed_pos h0 (e - -149).toNat; omega)
      have e2 : (signed false m (e - -149).toNat).natAbs = m <<< (e - -149).toNat := by unfold signed; simp only [Bool.false_eq_true, if_false]; exact Int.natAbs_natCast _
      rw [e1, e2]
      have := nearest_word single (by decide) b true false m e (e - -149).toNat hr
      rw [show e - (((e - -149).toNat : Nat) : Int) = -149 by omega] at this
      rw [this, single_facts.2.2.2.1]
      rfl
/-- A number that is more than nothing is its own size. -/
theorem size_pos {b : Nat} (hn : isN .f32 b = false) (hlt : b < 4294967296) (h : fle b 0 = false) : fab b = b := by
  have hs : (single.read b).neg = false := by
    cases hr : single.read b with
    | nan s f => have hn' : (single.read b).isNaN = false := hn; rw [hr] at hn'; cases hn'
    | infinity s => cases s
                    · rfl
                    · rw [(fle_zero hn).2 (.inl ⟨0, hr, rfl⟩)] at h; cases h
    | number s m e => cases s
                      · rfl
                      · rw [(fle_zero hn).2 (.inr ⟨true, m, e, hr, .inl rfl⟩)] at h; cases h
  rw [read_sign] at hs
  unfold fab
  simp at hs
  omega
theorem isN_fab {b : Nat} (h : isN .f32 b = false) : isN .f32 (fab b) = false := by
  unfold isN at h ⊢
  rw [read_f32] at h ⊢
  unfold Format.read at h ⊢
  obtain ⟨hb, hi, hl, hs, hf⟩ := single_facts
  have e6 : fab b % single.signWeight = b % single.signWeight := by rw [hs]; unfold fab; omega
  rw [e6]
  generalize b % single.signWeight = r at *
  simp only [hb, hi, hl] at h ⊢
  split
  · rfl
  · split
    · rfl
    · split
      · rfl
      · rename_i h1 h2 h3
        rw [if_neg h1, if_neg h2, if_neg h3] at h
        cases h

/-! ### The greatest change. -/
/-- What a cell has more behind a sweep. -/
def dif (g g' : Gr) (k : Nat) : Nat := fop .sub (g'.hea k) (g.hea k)
/-- The greatest size among the first k cells. -/
def mostTo (g g' : Gr) : Nat → Nat
  | 0 => fab (dif g g' 0)
  | k + 1 => if isC g (k + 1) && fgt (fab (dif g g' (k + 1))) (mostTo g g' k) then fab (dif g g' (k + 1)) else mostTo g g' k
def most (g g' : Gr) : Nat := mostTo g g' 63
end Go.Proofs.YtokdpmpgonafmaaGreat
/- Sizes of numbers, and whether a ground is still: the walks. -/
namespace Go.Proofs.YtokdpmpgonafmaaGreat
open Go.ChangeShapes Go.WideShapes Go.ChangeAt Go.RowKit
set_option linter.unusedVariables false
set_option linter.unusedSimpArgs false
attribute [local irreducible] Calls

theorem run_f64bits (b : Nat) (w : World) : (callFunc 149 #[.float .f64 b]).run Tryz.prog w = .ok (.value (.int .u64 b)) w := by
  rw [run_callFunc_extern Tryz.func149 (by kernel_rfl) (by kernel_rfl) (by kernel_rfl) (e := Extern.MathFloatBits.float64bits) (by kernel_rfl)]
  rfl
theorem run_f64from (n : Int) (w : World) : (callFunc 148 #[.int .u64 n]).run Tryz.prog w = .ok (.value (.float .f64 n.toNat)) w := by
  rw [run_callFunc_extern Tryz.func148 (by kernel_rfl) (by kernel_rfl) (by kernel_rfl) (e := Extern.MathFloatBits.float64frombits) (by kernel_rfl)]
  rfl
/-- The sign bit struck from a wide word. -/
theorem andNot_sign (b : Nat) (h : b < 18446744073709551616) : bits .andNot .u64 (b : Int) 9223372036854775808 = ((b % 9223372036854775808 : Nat) : Int) := by
  have h0 : bits .andNot .u64 (b : Int) 9223372036854775808 = IntKind.u64.wrap ((BitVec.ofInt 64 (b : Int) &&& ~~~ BitVec.ofInt 64 (9223372036854775808 : Int)).toNat : Int) := rfl
  rw [h0, IntKind.wrap_u64]
  have h1 : BitVec.ofInt 64 (b : Int) = BitVec.ofNat 64 b := by simp
  have h2 : BitVec.ofInt 64 (9223372036854775808 : Int) = BitVec.ofNat 64 9223372036854775808 := by decide
  have h3 : ~~~ (BitVec.ofNat 64 9223372036854775808) = BitVec.ofNat 64 9223372036854775807 := by decide
  rw [h1, h2, h3]
  rw [BitVec.toNat_and]
  simp only [BitVec.toNat_ofNat]
  rw [Nat.mod_eq_of_lt (by omega), Nat.mod_eq_of_lt (by omega)]
  have h4 : b &&& 9223372036854775807 = b % 9223372036854775808 := by
    have := Nat.and_two_pow_sub_one_eq_mod b 63
    simpa using this
  rw [h4]
  omega
theorem widen_lt {b : Nat} (h : isN .f32 b = false) : widen b < 18446744073709551616 := by
  unfold widen
  rw [h]
  exact Ieee.Format.write_lt Ieee.double _
set_option maxRecDepth 100000 in
set_option maxHeartbeats 400000 in
theorem mathAbs_any (b : Nat) (hb : b < 18446744073709551616) (w : World) :
    Calls Tryz.prog 147 #[.float .f64 b] w fun e w' => e = .returned (.float .f64 (b % 9223372036854775808)) ∧ w' = w := by
  have h1 := fun w' => run_f64bits b w'
  have h2 : ∀ w', (callFunc 148 #[.int .u64 ((b : Int) % 9223372036854775808)]).run Tryz.prog w' = .ok (.value (.float .f64 (b % 9223372036854775808))) w' := fun w' => by
    rw [run_f64from, show ((b : Int) % 9223372036854775808).toNat = b % 9223372036854775808 by omega]
  have h3 : bits .andNot .u64 (b : Int) 9223372036854775808 = (b : Int) % 9223372036854775808 := (andNot_sign b hb).trans (by omega)
  go_enter Tryz.func147, Tryz.ntmps147
  go_wp2_with fail
  go_ret
  exact ⟨rfl, rfl⟩
theorem run_narrow_conv {P : Program} (src dst : TypeId) (b r : Nat) (hs : P.underlying src = some (.float .f64)) (hd : P.underlying dst = some (.float .f32)) (h : floatToFloatBits .f64 b .f32 = some r) (w : World) : (convert src dst (.float .f64 b)).run P w = .ok (.float .f32 r) w := by
  simp [convert, run_underlying hs, run_underlying hd, run_floatToFloat w h]
theorem run_widen_num {P : Program} (src dst : TypeId) (b : Nat) (hs : P.underlying src = some (.float .f32)) (hd : P.underlying dst = some (.float .f64)) (h : isN .f32 b = false) (w : World) : (convert src dst (.float .f32 b)).run P w = .ok (.float .f64 (widen b)) w := by
  rw [run_convert_widen w src dst b hs hd]
  have h1 : fwid b w = widen b := by unfold fwid; rw [h]; rfl
  have h2 : wcnt b = 0 := by unfold wcnt; rw [h]; rfl
  rw [h1, h2, World.drewN_zero]
set_option maxRecDepth 100000 in
set_option maxHeartbeats 400000 in
theorem size_any (b : Nat) (h : isN .f32 b = false) (w : World) :
    Calls Tryz.prog 141 #[.float .f32 b] w fun e w' => e = .returned (.float .f32 (fab b)) ∧ w' = w := by
  have h1 := fun w' => run_widen_num (P := Tryz.prog) 23 135 b Tryz.underlying23 Tryz.underlying135 h w'
  have h2 := fun w' => run_narrow_conv (P := Tryz.prog) 135 23 _ _ Tryz.underlying135 Tryz.underlying23 (narrow_abs b h) w'
  have h3 := fun w' => mathAbs_any (widen b) (widen_lt h) w'
  clear h
  go_enter Tryz.func141, Tryz.ntmps141
  go_wp2_with (go_at_call 147; refine (h3 _).mono ?_; rintro e w' ⟨rfl, hw⟩; rw [hw]; clear hw w')
  go_ret
  exact ⟨rfl, rfl⟩

/-- Two words that stand for the same. -/
theorem fle_rd {a a' : Nat} (h : Ieee.single.read a = Ieee.single.read a') (x : Nat) : fle a x = fle a' x := by
  unfold fle Ieee.Format.order; simp only [read_f32, h]
theorem fgt_rd {a a' b b' : Nat} (h : Ieee.single.read a = Ieee.single.read a') (h' : Ieee.single.read b = Ieee.single.read b') : fgt a b = fgt a' b' := by
  unfold fgt Ieee.Format.order; simp only [read_f32, h, h']
theorem isN_rd {a a' : Nat} (h : Ieee.single.read a = Ieee.single.read a') : isN .f32 a = isN .f32 a' := by
  unfold isN; simp only [read_f32, h]
theorem size_read {b : Nat} (hn : isN .f32 b = false) (h : fle b 0 = false) : Ieee.single.read b = Ieee.single.read (fab b) := by
  have hs : (Ieee.single.read b).neg = false := by
    cases hr : Ieee.single.read b with
    | nan s f => have hn' : (Ieee.single.read b).isNaN = false := hn; rw [hr] at hn'; cases hn'
    | infinity s => cases s
                    · rfl
                    · rw [(fle_zero hn).2 (.inl ⟨0, hr, rfl⟩)] at h; cases h
    | number s m e => cases s
                      · rfl
                      · rw [(fle_zero hn).2 (.inr ⟨true, m, e, hr, .inl rfl⟩)] at h; cases h
  rw [read_sign] at hs
  have hf : (fab b / 2147483648 % 2 == 1) = false := by
    have : fab b / 2147483648 % 2 = 0 := by unfold fab; omega
    rw [this]; rfl
  unfold Ieee.Format.read
  have e1 : Ieee.single.signWeight = 2147483648 := single_facts.2.2.2.1
  rw [e1, hs, hf]
  have e2 : fab b % 2147483648 = b % 2147483648 := by unfold fab; omega
  rw [e2]
set_option maxRecDepth 100000 in
set_option maxHeartbeats 400000 in
theorem l01Size_any (b : Nat) (h : isN .f32 b = false) (w : World) :
    Calls Tryz.prog 145 #[.float .f32 b] w fun e w' => ∃ r, e = .returned (.float .f32 r) ∧ Ieee.single.read r = Ieee.single.read (fab b) ∧ w' = w := by
  have h1 := fle_eq b 0
  cases hz : fle b 0 <;> rw [hz] at h1
  · have HR := Lib.hid (size_read h hz)
    clear h hz
    go_enter Tryz.func145, Tryz.ntmps145
    go_wp2_with fail
    go_ret
    exact ⟨b, rfl, HR.out, rfl⟩
  · have h2 := fun w' => run_float_arith (P := Tryz.prog) w' .sub 23 .f32 0 b _ (size_sub h hz)
    clear h hz
    go_enter Tryz.func145, Tryz.ntmps145
    go_wp2_with fail
    go_ret
    exact ⟨fab b, rfl, rfl, rfl⟩

theorem fin_num {b : Nat} (h : fin b = true) : isN .f32 b = false := by
  cases hn : isN .f32 b
  · rfl
  · unfold fin at h
    have h2 := feq_num h
    have h3 : isN .f32 (fop .sub b b) = true := by unfold fop; rw [bits_nan_left hn, isN_cn]; exact isN_qn _
    rw [h3] at h2; cases h2

/-- Are the balances of all cells that are not fixed small? -/
def stillG (g : Gr) (small : Nat) : Bool := (freeL g).all fun k => fle (fab (bal g k)) small
theorem bals_num {g : Gr} (h : balsOk g = true) {k : Nat} (hk : k < 64) (hc : isC g k = true) : isN .f32 (bal g k) = false := by
  unfold balsOk at h
  have h1 := anyTo_false.1 (by simpa using h) k hk
  unfold notFin at h1
  rw [hc] at h1
  exact fin_num (by simpa using h1)
theorem bals_eq {g : Gr} {ff : Nat → Nat} (h : balsOk g = true) (hff : ∀ k, k < 64 → cn (ff k) = cn (balF g k)) {k : Nat} (hk : k < 64) (hc : isC g k = true) : ff k = bal g k := by
  have h1 := hff k hk
  unfold balF at h1
  rw [hc] at h1
  exact al_eq h1 (bals_num h hk hc)
theorem stillG_any {g : Gr} {small : Nat} : stillG g small = !anyTo (fun k => (isC g k && !isFx g k) && !fle (fab (bal g k)) small) (fun i => i) 64 := by
  apply Bool.eq_iff_iff.2
  unfold stillG
  simp only [List.all_eq_true, Bool.not_eq_true', anyTo_false, freeL_mem]
  constructor
  · intro h i hi
    cases hc : isC g i
    · rfl
    · cases hf : isFx g i
      · simp [h i ⟨⟨hi, hc⟩, hf⟩]
      · rfl
  · rintro h k ⟨⟨hk, hc⟩, hf⟩
    have := h k hk
    rw [hc, hf] at this
    simpa using this

end Go.Proofs.YtokdpmpgonafmaaGreat
