/- The walks that FnExactDropsLogged needs: levels are copied, and the greatest drop is found. -/
import Derived.Test.YtnfoemgiebplmaaBlk
namespace Go.Proofs.Ytnfoemgiebplmaa
open Go.ChangeShapes Go.WideShapes Go.ChangeAt Go.RowKit
set_option linter.unusedVariables false

/-- A row of int16 numbers. -/
@[irreducible] def i16s (n : Nat) (f : Nat → Int) : Array Value := Array.ofFn (n := n) fun i => .int .i16 (f i)
theorem i16s_size (n : Nat) (f : Nat → Int) : (i16s n f).size = n := by simp [i16s]
theorem i16s_get (n : Nat) (f : Nat → Int) (i : Nat) (h : i < n) : (i16s n f)[i]? = some (.int .i16 (f i)) := by simp [i16s, h]
theorem i16s_one (n : Nat) (f : Nat → Int) : ∀ v ∈ (i16s n f).toList, v.oneCell' = true := by
  intro v hv; simp [i16s] at hv; obtain ⟨i, rfl⟩ := hv; rfl

theorem row23 : RowTy Try.prog 42 64 := ⟨.array 64 41, by kernel_rfl, rfl, by kernel_rfl⟩
theorem zero23 : ZeroTy Try.prog 42 (i16s 64 fun _ => 0) := by unfold ZeroTy i16s; kernel_rfl

/-- The first of the first k numbers with the greatest drop. -/
def bestOf (f g : Nat → Int) : Nat → Nat
  | 0 => 0
  | k + 1 => if f (bestOf f g k) - g (bestOf f g k) < f k - g k then k else bestOf f g k
theorem bestOf_lt (f g : Nat → Int) (k : Nat) (h : 0 < k) : bestOf f g k < k := by
  induction k with
  | zero => omega
  | succ k ih =>
    unfold bestOf
    split
    · omega
    · cases k with
      | zero => simp [bestOf]
      | succ k => have := ih (by omega); omega
theorem bestOf_one (f g : Nat → Int) : bestOf f g 1 = 0 := by simp [bestOf]
/-- Each number is an int16. -/
def Is16 (n : Nat) (f : Nat → Int) : Prop := ∀ i, i < n → -32768 ≤ f i ∧ f i ≤ 32767
set_option maxRecDepth 100000 in
/-- An array of levels, opened. -/
theorem open_i16s {n : Nat} {t : TypeId} (ht : Try.prog.underlying t = some (.array n 41)) (hc : Try.prog.cellsOf t = n) {H : Type} {enc : TypeId × Value → H} {W : World} {r : Reach} {b0 : Nat} {v : Value} {d : DataW H} {ps : List MemPlace} (hv : Value.okWide Try.prog W r b0 t v) (h : DataW.Trod enc Try.prog W 0 (fun _ => true) true t v d ps) :
    ∃ f, v = .agg (i16s n f) ∧ Is16 n f := by
  obtain ⟨cs, rfl, hs⟩ := okWide_row ht hv
  obtain ⟨fuel, hf⟩ := h
  obtain ⟨f, hf'⟩ := ints_of_row ht Try.underlying41 (by kernel_rfl) hf
  refine ⟨f, ?_, fun i hi => ?_⟩
  · congr 1
    apply Array.ext
    · rw [hs, hc, i16s_size]
    · intro i h1 h2
      have := (hf' i (by rw [i16s_size] at h2; exact h2)).1
      have h3 := i16s_get n f i (by rw [i16s_size] at h2; exact h2)
      have e1 : cs[i]? = some (.int .i16 (f i)) := by simpa [Value.cells] using this
      rw [Array.getElem?_eq_getElem h1] at e1
      rw [Array.getElem?_eq_getElem h2] at h3
      exact Option.some.inj (e1.trans h3.symm)
  · have := (hf' i hi).2
    simp [Lit.wf, IntKind.min, IntKind.max, IntKind.signed, IntKind.bits] at this
    omega

/-- What both functions return. -/
def dropsOf (f g : Nat → Int) : Value := .tuple #[.int .i64 (bestOf f g 64), .int .i64 (f (bestOf f g 64) - g (bestOf f g 64))]

set_option maxRecDepth 100000 in
set_option maxHeartbeats 400000 in
theorem specDrops_any (f g : Nat → Int) (hf : Is16 64 f) (hg : Is16 64 g) (w : World) :
    Calls Try.prog 60 #[.agg (i16s 64 f), .agg (i16s 64 g)] w fun e w' => e = .returned (dropsOf f g) ∧ Below w.heap.size w w' := by
  go_enter Try.func60, Try.ntmps60
  go_wp2_with (refine wpList_box_as rfl rfl rfl ?_)
  go_loopw [6, 7] (fun at_ i wr => ∃ k b : Nat, 1 ≤ k ∧ k ≤ 64 ∧ b < k ∧ Hid (b = bestOf f g k) ∧ at_ = .int .i64 b ∧ i = .int .i64 k ∧ Blk wr w.heap.size (i16s 64 f) 42 ∧ Blk wr (w.heap.size + 1) (i16s 64 g) 42 ∧ Below w.heap.size w wr) (fun _ i _ => 64 - (intOf i).toNat)
  case atStart =>
    refine ⟨1, 0, by omega, by omega, by omega, Lib.hid (bestOf_one f g).symm, rfl, rfl, (Blk.new _ _ _).alloc _, ?_, ((Below.refl _ _).alloc (Nat.le_refl _) _).alloc (by simp) _⟩
    have := Blk.new (w.alloc (.cells (i16s 64 f) 42)) (i16s 64 g) 42
    simpa using this
  case round =>
    obtain ⟨k, b, hk1, hk, hbk, hbest, rfl, rfl, hA, hB, hbel⟩ := hrel
    have cA := hA.cell
    have cB := hB.cell
    have b1 := hf b (by omega)
    have b2 := hg b (by omega)
    have fb := i16s_get 64 f b (by omega)
    have gb := i16s_get 64 g b (by omega)
    have w2 : IntKind.i64.wrap (f b - g b) = f b - g b := IntWalk.i64_in _ (by omega)
    by_cases hlt : k < 64
    · have b3 := hf k hlt
      have b4 := hg k hlt
      have fk := i16s_get 64 f k hlt
      have gk := i16s_get 64 g k hlt
      have w1 : IntKind.i64.wrap (f k - g k) = f k - g k := IntWalk.i64_in _ (by omega)
      go_wp2
      go_quiet (fail)
      by_cases ht : f b - g b < f k - g k
      · go_wp2
        go_roundw
        case rel => exact ⟨k + 1, k, by omega, by omega, by omega, Lib.hid (by simp only [bestOf]; rw [← hbest.out, if_pos ht]), rfl, by go_num, hA.drewN _, hB.drewN _, below_drewN hbel _⟩
        case measure => simp [intOf]; omega
      · go_wp2
        go_roundw
        case rel => exact ⟨k + 1, b, by omega, by omega, by omega, Lib.hid (by simp only [bestOf]; rw [← hbest.out, if_neg (by omega)]), rfl, by go_num, hA.drewN _, hB.drewN _, below_drewN hbel _⟩
        case measure => simp [intOf]; omega
    · obtain rfl : k = 64 := by omega
      go_wp2
      go_quiet (fail)
      go_wp2
      go_ret2
      exact ⟨by unfold dropsOf; rw [← hbest.out]; rfl, below_drewN hbel _⟩

set_option maxRecDepth 100000 in
set_option maxHeartbeats 400000 in
theorem drop_any (f g : Nat → Int) (hf : Is16 64 f) (hg : Is16 64 g) (A B : Nat) (i : Nat) (hi : i < 64) (w : World) (hA : Blk w A (i16s 64 f) 42) (hB : Blk w B (i16s 64 g) 42) :
    Calls Try.prog 102 #[.int .i64 i, .pointer (some ⟨A, 0, none⟩), .pointer (some ⟨B, 0, none⟩)] w fun e w' => e = .returned (.int .i64 (f i - g i)) ∧ ∃ n, w' = w.drewN n := by
  have cA := hA.cell
  have cB := hB.cell
  have b1 := hf i (by omega)
  have b2 := hg i (by omega)
  have fb := i16s_get 64 f i (by omega)
  have gb := i16s_get 64 g i (by omega)
  have w2 : IntKind.i64.wrap (f i - g i) = f i - g i := IntWalk.i64_in _ (by omega)
  go_enter Try.func102, Try.ntmps102
  go_wp2
  go_quiet (fail)
  go_wp2
  go_ret
  exact ⟨rfl, _, rfl⟩

set_option maxRecDepth 100000 in
set_option maxHeartbeats 400000 in
theorem implDrops_any (f g : Nat → Int) (hf : Is16 64 f) (hg : Is16 64 g) (w : World) :
    Calls Try.prog 59 #[.agg (i16s 64 f), .agg (i16s 64 g)] w fun e w' => e = .returned (dropsOf f g) ∧ Below w.heap.size w w' := by
  go_enter Try.func59, Try.ntmps59
  go_wp2_with (refine wpList_box_as rfl rfl rfl ?_)
  go_loopw [6, 10] (fun at_ i wr => ∃ k b : Nat, k ≤ 64 ∧ b ≤ k ∧ b < 64 ∧ Hid (b = bestOf f g k) ∧ at_ = .int .i64 b ∧ i = .int .i64 k ∧ Blk wr w.heap.size (i16s 64 f) 42 ∧ Blk wr (w.heap.size + 1) (i16s 64 g) 42 ∧ Below w.heap.size w wr) (fun _ i _ => 64 - (intOf i).toNat)
  case atStart =>
    refine ⟨0, 0, by omega, by omega, by omega, Lib.hid rfl, rfl, rfl, (Blk.new _ _ _).alloc _, ?_, ((Below.refl _ _).alloc (Nat.le_refl _) _).alloc (by simp) _⟩
    have := Blk.new (w.alloc (.cells (i16s 64 f) 42)) (i16s 64 g) 42
    simpa using this
  case round =>
    obtain ⟨k, b, hk, hbk, hb64, hbest, rfl, rfl, hA, hB, hbel⟩ := hrel
    by_cases hlt : k < 64
    · by_cases ht : f b - g b < f k - g k
      all_goals
        go_wp2_with fail
        refine (drop_any f g hf hg _ _ k hlt _ hA hB).mono ?_
        rintro e w1 ⟨rfl, n1, rfl⟩
        go_wp2_with fail
        refine (drop_any f g hf hg _ _ b hb64 _ (hA.drewN _) (hB.drewN _)).mono ?_
        rintro e w1 ⟨rfl, n2, rfl⟩
        go_wp2
        go_roundw
        case rel =>
          first
            | exact ⟨k + 1, k, by omega, by omega, by omega, Lib.hid (by simp only [bestOf]; rw [← hbest.out, if_pos ht]), rfl, by go_num, hA.drewN _, hB.drewN _, below_drewN hbel _⟩
            | exact ⟨k + 1, b, by omega, by omega, by omega, Lib.hid (by simp only [bestOf]; rw [← hbest.out, if_neg (by omega)]), rfl, by go_num, hA.drewN _, hB.drewN _, below_drewN hbel _⟩
        case measure => simp [intOf]; omega
    · obtain rfl : k = 64 := by omega
      go_wp2_with fail
      refine (drop_any f g hf hg _ _ b hb64 _ hA hB).mono ?_
      rintro e w1 ⟨rfl, n2, rfl⟩
      go_wp2
      go_ret2
      exact ⟨by unfold dropsOf; rw [← hbest.out]; rfl, below_drewN hbel _⟩
end Go.Proofs.Ytnfoemgiebplmaa
