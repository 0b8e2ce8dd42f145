import Derived.Test.YtmmfnklnmdhkiaaGreatMU09
import Derived.Test.YtmmfnklnmdhkiaaGreatMU10
/- Steps of a ground: the walks through the program's functions and the reference's. -/
namespace Go.Proofs.YtmmfnklnmdhkiaaGreat
open Go.ChangeShapes Go.WideShapes Go.ChangeAt Go.RowKit
set_option linter.unusedVariables false
set_option linter.unusedSimpArgs false
attribute [local irreducible] Calls

section
variable {P : Program} {ops : Array Oper} {rest : List Oper} {o : Oper} {a : Act} {Q : Exit → Act → World → Prop} {w : World}
/-- 'T{}' of a type whose zero value is a row. -/
theorem wpList_zero {t : TypeId} {Z : Array Value} (hgd : o.guard = none) (ho : o.op = .build t #[]) (hb : P.built t [] = some Z) (h : wpList P ops Q rest (a.put o.dst (.agg Z)) w) : wpList P ops Q (o :: rest) a w :=
  wpList_plain hgd fun K hK => by
    have hb' : P.built t ((#[] : Array (Nat × Operand)).map fun (i, x) => (i, a.eval x)).toList = some Z := by simpa using hb
    refine wp_build t #[] ho (by rw [hb']; rfl) ?_
    rw [hb']
    exact hK _ _ h
/-- A ground at the head of a block, loaded whole. -/
theorem wpList_load_gat {ty : TypeId} {x : Operand} {b : Nat} {g : Gr} (hgd : o.guard = none) (ho : o.op = .load ty x) (hx : a.eval x = .pointer (some ⟨b, 0, none⟩)) (hr : RowTy P ty 195) (hb : GAt w b g)
    (h : wpList P ops Q rest (a.put o.dst (.agg g.cells)) w) : wpList P ops Q (o :: rest) a w := by
  obtain ⟨d, hu, hd, hi⟩ := hr
  refine wpList_load_mid hgd ty x ho b 0 hx g.cells.toList d (fun j u hj => ?_) hu hd (by rw [hi]; simp [g.size]) ?_
  · have hj2 : j < 195 := by
      rcases Nat.lt_or_ge j g.cells.toList.length with h2 | h2
      · simpa [g.size] using h2
      · rw [List.getElem?_eq_none h2] at hj; cases hj
    have := hb.mem j hj2
    rw [Array.getElem?_toList, g.get j hj2] at hj
    rw [Nat.zero_add, this, hj]
  · rw [Array.toArray_toList]; exact h
end
theorem built66 : Tryz.prog.built 30 [] = some zeroG.cells := by unfold zeroG Gr.cells; kernel_rfl
theorem built64 : Tryz.prog.built 27 [] = some (fls 64 fun _ => 0).toArray := by unfold fls; kernel_rfl

/-- The cells among the first k that are not fixed. -/
def freeOf (g : Gr) (l : List Nat) : List Nat := l.filter fun k => !isFx g k
theorem freeOf_snoc (g : Gr) (l : List Nat) (k : Nat) : freeOf g (l ++ [k]) = if isFx g k then freeOf g l else freeOf g l ++ [k] := by
  unfold freeOf; rw [List.filter_append]; cases h : isFx g k <;> simp [h]
theorem freeOf_length (g : Gr) (l : List Nat) : (freeOf g l).length ≤ l.length := List.length_filter_le _ _
theorem freeOf_mem {g : Gr} {l : List Nat} {k : Nat} (h : k ∈ freeOf g l) : k ∈ l ∧ isFx g k = false := by
  unfold freeOf at h; rw [List.mem_filter] at h; simpa using h
/-- All cells that are not fixed. -/
def freeL (g : Gr) : List Nat := freeOf g (cellsTo g 64)

set_option maxRecDepth 100000 in
set_option maxHeartbeats 400000 in
theorem free_any (g : Gr) (b : Nat) (hg : g.ok) (w : World) (hb : GAt w b g) :
    Calls Tryz.prog 46 #[.pointer (some ⟨b, 0, none⟩)] w fun e w' => ∃ r cap, e = .returned (.slice (some ⟨r, 0, none⟩) (freeL g).length cap) ∧ w.heap.size ≤ r ∧ Own w' r 3 1 (.slice (some ⟨r, 0, none⟩) (freeL g).length cap) (freeL g).length (ils (freeL g)) ∧ Below w.heap.size w w' := by
  have lb := hb.lt
  have hcl := fun w' h => cells_any g b hg w' h
  have hlen := cellsTo_length g 64
  have hmem : Hid (∀ i k, (cellsTo g 64)[i]? = some k → k < 64) := Lib.hid fun i k h => (cellsTo_lt (List.mem_of_getElem? h)).1
  unfold freeL
  generalize cellsTo g 64 = L at *
  go_enter Tryz.func46, Tryz.ntmps46
  go_upto_region 2 with fail
  have hE : Own (w.alloc (.cells #[] 3)) w.heap.size 3 1 (.slice (some ⟨w.heap.size, 0, none⟩) 0 0) 0 (ils []) := own_blk (Blk.new _ _ _) rfl (by decide) (by rw [ils_nil])
  have hbel := below1 w (.cells #[] 3)
  have hb1 := hb.alloc (.cells #[] 3)
  go_wp2_with (go_at_call 51; refine (hcl _ hb1).mono ?_; rintro e w1 ⟨r1, cap1, rfl, hr1, hown1, hbel1⟩)
  clear hcl
  have lE := hE.lt
  have hE := hE.below hbel1 lE
  have hb1 := hb1.below hbel1 hb1.lt
  have hbel := hbel.trans (hbel1.mono hbel.size)
  have hne : r1 ≠ w.heap.size := by simp at hr1; omega
  have hr1 : w.heap.size ≤ r1 := by simp at hr1; omega
  obtain ⟨_, hcap, hc1, hc2⟩ := hown1.form
  injection hcap with _ _ hcap
  subst hcap
  clear hbel1 lE
  go_loopw [3, 10] (fun s i wr => ∃ (j r n : Nat), j ≤ L.length ∧ i = .int .i64 j ∧ n = (freeOf g (L.take j)).length ∧ Own wr r 3 1 s n (ils (freeOf g (L.take j))) ∧ w.heap.size ≤ r ∧ r1 ≠ r ∧ Own wr r1 3 1 (.slice (some ⟨r1, 0, none⟩) L.length cap1) L.length (ils L) ∧ GAt wr b g ∧ Below w.heap.size w wr) (fun _ i _ => L.length - (intOf i).toNat)
  case atStart => exact ⟨0, _, 0, by omega, rfl, rfl, hE, Nat.le_refl _, hne, hown1, hb1, hbel⟩
  case round =>
    clear hE hbel hb1 hb hown1 hne
    obtain ⟨j, r, n, hj, rfl, hn, hown, hr, hne, hown1, hb, hbel⟩ := hrel
    by_cases hlt : j < L.length
    · obtain ⟨k, hk⟩ : ∃ k, L[j]? = some k := ⟨_, List.getElem?_eq_getElem hlt⟩
      have hk64 := hmem.out j k hk
      have c0 : wr.cell? ⟨r1, j, none⟩ = some (.int .i64 k) := (hown1.cell _ (by omega)).trans (ils_get _ _ _ hk)
      have bk : (0 : Int) ≤ k := by omega
      have bl : (k : Int) < 64 := by omega
      have bj : (0 : Int) ≤ j := by omega
      have hfx := fixed_any g b k hg hk64 wr hb
      have hl := freeOf_length g (L.take j)
      have htk : (L.take j).length ≤ j := List.length_take_le _ _
      have HS : Hid (freeOf g (L.take (j + 1)) = if isFx g k then freeOf g (L.take j) else freeOf g (L.take j) ++ [k]) := Lib.hid (by rw [List.take_add_one, hk]; exact freeOf_snoc g _ k)
      clear hk
      cases hf : isFx g k <;> rw [hf] at hfx
      · have HF := Lib.hid hf
        clear hf
        have hB := hbel.size
        have lr := hown.lt
        have lr1 := hown1.lt
        go_wp2_with (first | (go_at_call 52; refine hfx.mono ?_; rintro e w' ⟨rfl, hw⟩; rw [hw]; clear hw w') | (at_builtin; refine wpList_app elInt rfl rfl rfl rfl (by decide) (hown.alloc _) (Blk.new _ _ _) rfl ?_ ?_ ?_ ?_; (· intro u hu; simp at hu; subst hu; rfl); (· unfold maxLen; omega); (· omega); intro v1 w2 g1 hown2 hgr hg1))
        go_roundw
        case rel =>
          have hs := HS.out
          rw [HF.out] at hs
          simp only [if_false, Bool.false_eq_true] at hs
          simp only [show ((#[Value.int .i64 k] : Array Value).toList) = [.int .i64 k] from rfl] at hown2
          rw [ils_snoc, ← hs] at hown2
          simp at hg1
          have hb2 := (hb.alloc (.cells #[.int .i64 k] 3)).grown hgr (by simp; omega)
          have hbel2 := (hbel.alloc hB (.cells #[.int .i64 k] 3)).grown hgr (by simp; omega) (fun j hj => by injection hj with hj; omega)
          have hown3 := (hown1.alloc (.cells #[.int .i64 k] 3)).grown hgr (by simp; omega)
          exact ⟨j + 1, g1, n + 1, by omega, by go_num, by rw [hs]; simp [hn], hown2, by omega, by omega, hown3, hb2, hbel2⟩
        case measure => simp [intOf]; omega
      · have HF := Lib.hid hf
        clear hf
        go_wp2_with (first | (go_at_call 52; refine hfx.mono ?_; rintro e w' ⟨rfl, hw⟩; rw [hw]; clear hw w'))
        go_roundw
        case rel =>
          have hs := HS.out
          rw [HF.out] at hs
          simp only [if_true] at hs
          exact ⟨j + 1, r, n, by omega, by go_num, by rw [hs]; exact hn, by rw [hs]; exact hown, hr, hne, hown1, hb, hbel⟩
        case measure => simp [intOf]; omega
    · obtain rfl : j = L.length := by omega
      rw [List.take_length] at hown hn
      obtain ⟨cap, rfl, _, _⟩ := hown.form
      go_wp2_with fail
      go_ret
      subst hn
      exact ⟨r, cap, rfl, hr, hown, hbel⟩

/-- The balance of a cell, nothing elsewhere. -/
def balF (g : Gr) (k : Nat) : Nat := if isC g k then bal g k else 0
def allFin (g : Gr) (l : List Nat) : Bool := l.all fun k => fin (bal g k)
theorem allFin_snoc (g : Gr) (l : List Nat) (k : Nat) : allFin g (l ++ [k]) = (allFin g l && fin (bal g k)) := by unfold allFin; simp [List.all_append]
theorem cellsTo_mem {g : Gr} {n k : Nat} : k ∈ cellsTo g n ↔ k < n ∧ isC g k = true := by unfold cellsTo; rw [List.mem_filter, List.mem_range]
theorem allFin_all (g : Gr) : allFin g (cellsTo g 64) = balsOk g := by
  apply Bool.eq_iff_iff.2
  unfold allFin balsOk
  simp only [Bool.not_eq_true', anyTo_false, List.all_eq_true, cellsTo_mem]
  constructor
  · intro h i hi
    unfold notFin
    cases hc : isC g i
    · rfl
    · rw [h i ⟨hi, hc⟩]; rfl
  · rintro h i ⟨hi, hc⟩
    have := h i hi
    unfold notFin at this
    rw [hc] at this
    simpa using this

set_option maxRecDepth 100000 in
set_option maxHeartbeats 400000 in
theorem balances_any (g : Gr) (b : Nat) (hg : g.ok) (hsm : g.small) (w : World) (hb : GAt w b g) :
    Calls Tryz.prog 44 #[.pointer (some ⟨b, 0, none⟩)] w fun e w' => ∃ ff, e = .returned (.tuple #[.agg (fls 64 ff).toArray, .bool (balsOk g)]) ∧ (balsOk g = true → ∀ k, k < 64 → cn (ff k) = cn (balF g k)) ∧ Below w.heap.size w w' := by
  have lb := hb.lt
  have hcl := fun w' h => cells_any g b hg w' h
  have hlen := cellsTo_length g 64
  have hmem : Hid (∀ i k, (cellsTo g 64)[i]? = some k → k < 64) := Lib.hid fun i k h => (cellsTo_lt (List.mem_of_getElem? h)).1
  have HALL := Lib.hid (allFin_all g)
  have HIN : Hid (∀ k, k < 64 → (if k ∈ cellsTo g 64 then bal g k else 0) = balF g k) := Lib.hid fun k hk => by
    unfold balF; simp only [cellsTo_mem, hk, true_and]
  generalize cellsTo g 64 = L at *
  go_enter Tryz.func44, Tryz.ntmps44
  go_upto_region 2 with (first | (refine wpList_alloc_as rfl rfl zero64 ?_) | (refine wpList_zero rfl rfl built64 ?_) | (refine wpList_store_last rfl rfl rfl rfl rfl (by rw [fls_size]; kernel_rfl) rfl (List.all_eq_true.2 (fls_one _ _)) ?_))
  have hA : Blk ((w.alloc (.cells (fls 64 fun _ => 0).toArray 27)).alloc (.cells (fls 64 fun _ => 0).toArray 27)) w.heap.size (fls 64 fun _ => 0).toArray 27 := (Blk.new _ _ _).alloc _
  have hB : Blk ((w.alloc (.cells (fls 64 fun _ => 0).toArray 27)).alloc (.cells (fls 64 fun _ => 0).toArray 27)) (w.heap.size + 1) (fls 64 fun _ => 0).toArray 27 := Blk.new1 _ _ _ _
  have hb1 := (hb.alloc (.cells (fls 64 fun _ => 0).toArray 27)).alloc (.cells (fls 64 fun _ => 0).toArray 27)
  have hbel := below2 w (.cells (fls 64 fun _ => 0).toArray 27) (.cells (fls 64 fun _ => 0).toArray 27)
  generalize ((w.alloc (.cells (fls 64 fun _ => 0).toArray 27)).alloc (.cells (fls 64 fun _ => 0).toArray 27)) = W at *
  go_wp2_with (go_at_call 51; refine (hcl _ hb1).mono ?_; rintro e w1 ⟨r1, cap1, rfl, hr1, hown1, hbel1⟩)
  clear hcl
  have lA := hA.lt
  have lB := hB.lt
  have hA := hA.below hbel1 lA
  have hB := hB.below hbel1 lB
  have hb1 := hb1.below hbel1 hb1.lt
  have hbel := hbel.trans (hbel1.mono hbel.size)
  obtain ⟨_, hcap, hc1, hc2⟩ := hown1.form
  injection hcap with _ _ hcap
  subst hcap
  clear hbel1
  have n1 : w.heap.size + 1 ≠ r1 := by omega
  have n2 : w.heap.size < r1 := by omega
  clear lA lB hr1
  go_loopw [5, 12] (fun o i wr => ∃ (j : Nat) (ff : Nat → Nat) (ok : Bool), j ≤ L.length ∧ i = .int .i64 j ∧ o = .bool ok ∧ Hid (ok = allFin g (L.take j)) ∧ Hid (∀ k, k < 64 → cn (ff k) = cn (if k ∈ L.take j then bal g k else 0)) ∧ Blk wr w.heap.size (fls 64 fun _ => 0).toArray 27 ∧ Blk wr (w.heap.size + 1) (fls 64 ff).toArray 27 ∧ Own wr r1 3 1 (.slice (some ⟨r1, 0, none⟩) L.length cap1) L.length (ils L) ∧ GAt wr b g ∧ Below w.heap.size w wr) (fun _ i _ => L.length - (intOf i).toNat)
  case atStart => exact ⟨0, _, true, by omega, rfl, rfl, Lib.hid rfl, Lib.hid (fun k hk => by simp), hA, hB, hown1, hb1, hbel⟩
  case round =>
    clear hA hB hown1 hb1 hbel
    obtain ⟨j, ff, ok, hj, rfl, rfl, hok, hff, hA, hB, hown1, hb, hbel⟩ := hrel
    by_cases hlt : j < L.length
    · obtain ⟨k, hk⟩ : ∃ k, L[j]? = some k := ⟨_, List.getElem?_eq_getElem hlt⟩
      have hk64 := hmem.out j k hk
      have c0 : wr.cell? ⟨r1, j, none⟩ = some (.int .i64 k) := (hown1.cell _ (by omega)).trans (ils_get _ _ _ hk)
      have bk : (0 : Int) ≤ k := by omega
      have bl : (k : Int) < 64 := by omega
      have bj : (0 : Int) ≤ j := by omega
      have HT : Hid (L.take (j + 1) = L.take j ++ [k]) := Lib.hid (by rw [List.take_add_one, hk]; rfl)
      clear hk
      have hbal := balance_any g b k hg hsm hk64 wr hb
      have c2 : wr.cell? ⟨w.heap.size + 1, k, none⟩ = some (.float .f32 (ff k)) := (hB.cell _).trans (by rw [List.getElem?_toArray, fls_get 64 _ k hk64])
      have f2 := hB.free k
      go_upto_region 6 with (go_at_call 83; refine hbal.mono ?_; rintro e w' ⟨r, rfl, hr, n, rfl⟩; have HR := Lib.hid hr; clear hr)
      clear c0 c2 f2 hbal
      have hA := (hA.drewN n).setOther (a := ⟨w.heap.size + 1, k, none⟩) (.float .f32 r) (by show w.heap.size ≠ w.heap.size + 1; omega)
      have hB := (hB.drewN n).setCell k (.float .f32 r)
      rw [fls_set _ _ _ _ hk64] at hB
      have hown1 := (hown1.drewN n).setOther (a := ⟨w.heap.size + 1, k, none⟩) (.float .f32 r) (Ne.symm n1)
      have hb := (hb.drewN n).move (w' := (wr.drewN n).setCell ⟨w.heap.size + 1, k, none⟩ (.float .f32 r)) (heap_setCell_other _ ⟨w.heap.size + 1, k, none⟩ b _ (by show b ≠ w.heap.size + 1; omega))
      have hbel := (below_drewN hbel n).setCell (p := ⟨w.heap.size + 1, k, none⟩) (by show w.heap.size ≤ w.heap.size + 1; omega) (.float .f32 r)
      have HF : Hid (∀ i, i < 64 → cn (upd ff k r i) = cn (if i ∈ L.take (j + 1) then bal g i else 0)) := Lib.hid fun i hi => by
        rw [HT.out]
        unfold Go.Proofs.YtmmfnklnmdhkiaaGreat.upd
        by_cases hik : i = k
        · subst hik; simp only [if_true, List.mem_append, List.mem_singleton, or_true]; exact HR.out
        · simp only [hik, if_false, List.mem_append, List.mem_singleton, or_false]; exact hff.out i hi
      generalize (wr.drewN n).setCell ⟨w.heap.size + 1, k, none⟩ (.float .f32 r) = W2 at *
      have c3 : W2.cell? ⟨w.heap.size + 1, k, none⟩ = some (.float .f32 r) := (hB.cell _).trans (by rw [List.getElem?_toArray, fls_get 64 _ k hk64]; simp [Go.Proofs.YtmmfnklnmdhkiaaGreat.upd])
      have hfin := finite_any r W2
      cases ok
      · go_wp2_with fail
        go_roundw
        case rel => exact ⟨j + 1, _, false, by omega, by go_num, rfl, Lib.hid (by rw [HT.out, allFin_snoc, ← hok.out]; rfl), HF, hA, hB, hown1, hb, hbel⟩
        case measure => simp [intOf]; omega
      · go_wp2_with (go_at_call 84; refine hfin.mono ?_; rintro e w' ⟨rfl, n2, rfl⟩)
        go_roundw
        case rel => exact ⟨j + 1, _, _, by omega, by go_num, rfl, Lib.hid (by rw [HT.out, allFin_snoc, ← hok.out, Bool.true_and]; exact fin_al HR.out), HF, hA.drewN _, hB.drewN _, hown1.drewN _, hb.drewN _, below_drewN hbel _⟩
        case measure => simp [intOf]; omega
    · obtain rfl : j = L.length := by omega
      have h1 := hok.out
      rw [List.take_length, HALL.out] at h1
      subst h1
      go_wp2_with (first | (refine wpList_load_blk rfl rfl rfl row64 hB (fls_size _ _) ?_) | (refine wpList_store_blk rfl rfl rfl rfl row64 hA (fls_size _ _) (fls_size _ _) (fls_one _ _) ?_))
      refine bodyPost_row2 rfl rfl row64 (hA.setRow _) (fls_size _ _) rfl ⟨ff, rfl, fun _ k hk => ?_, below_setRow hbel (by omega) _⟩
      have h2 := hff.out k hk
      rw [List.take_length, HIN.out k hk] at h2
      exact h2

set_option maxRecDepth 100000 in
set_option maxHeartbeats 400000 in
theorem l01Balances_any (g : Gr) (b : Nat) (hg : g.ok) (hsm : g.small) (w : World) (hb : GAt w b g) :
    Calls Tryz.prog 41 #[.pointer (some ⟨b, 0, none⟩)] w fun e w' => ∃ ff, e = .returned (.tuple #[.agg (fls 64 ff).toArray, .bool (balsOk g)]) ∧ (balsOk g = true → ∀ k, k < 64 → cn (ff k) = cn (balF g k)) ∧ Below w.heap.size w w' := by
  have lb := hb.lt
  go_enter Tryz.func41, Tryz.ntmps41
  go_upto_region 2 with (first | (refine wpList_alloc_as rfl rfl zero64 ?_) | (refine wpList_zero rfl rfl built64 ?_) | (refine wpList_store_last rfl rfl rfl rfl rfl (by rw [fls_size]; kernel_rfl) rfl (List.all_eq_true.2 (fls_one _ _)) ?_))
  have hA : Blk ((w.alloc (.cells (fls 64 fun _ => 0).toArray 27)).alloc (.cells (fls 64 fun _ => 0).toArray 27)) w.heap.size (fls 64 fun _ => 0).toArray 27 := (Blk.new _ _ _).alloc _
  have hB : Blk ((w.alloc (.cells (fls 64 fun _ => 0).toArray 27)).alloc (.cells (fls 64 fun _ => 0).toArray 27)) (w.heap.size + 1) (fls 64 fun _ => 0).toArray 27 := Blk.new1 _ _ _ _
  have hb1 := (hb.alloc (.cells (fls 64 fun _ => 0).toArray 27)).alloc (.cells (fls 64 fun _ => 0).toArray 27)
  have hbel := below2 w (.cells (fls 64 fun _ => 0).toArray 27) (.cells (fls 64 fun _ => 0).toArray 27)
  generalize ((w.alloc (.cells (fls 64 fun _ => 0).toArray 27)).alloc (.cells (fls 64 fun _ => 0).toArray 27)) = W at *
  go_wp2_with fail
  go_loopw [5] (fun i wr => ∃ (j : Nat) (ff : Nat → Nat), j ≤ 64 ∧ i = .int .i64 j ∧ Hid (∀ k, k < j → notFin g k = false) ∧ Hid (∀ k, k < 64 → cn (ff k) = cn (if k < j then balF g k else 0)) ∧ Blk wr w.heap.size (fls 64 fun _ => 0).toArray 27 ∧ Blk wr (w.heap.size + 1) (fls 64 ff).toArray 27 ∧ GAt wr b g ∧ Below w.heap.size w wr) (fun i _ => 64 - (intOf i).toNat)
  case atStart => exact ⟨0, _, by omega, rfl, Lib.hid (fun k hk => by omega), Lib.hid (fun k hk => by simp), hA, hB, hb1, hbel⟩
  case round =>
    clear hA hB hb1 hbel
    obtain ⟨k, ff, hj, rfl, hok, hff, hA, hB, hb, hbel⟩ := hrel
    by_cases hlt : k < 64
    · have bk : (0 : Int) ≤ k := by omega
      have bl : (k : Int) < 64 := by omega
      have his := l01Is_any g b k hg hlt wr hb
      cases hc : isC g k <;> rw [hc] at his
      · have HC := Lib.hid hc
        clear hc
        go_wp2_with (go_at_call 67; refine his.mono ?_; rintro e w' ⟨rfl, hw⟩; rw [hw]; clear hw w')
        go_roundw
        case rel =>
          refine ⟨k + 1, ff, by omega, by go_num, Lib.hid (all_step hok.out (by unfold notFin; rw [HC.out]; rfl)), Lib.hid fun i hi => ?_, hA, hB, hb, hbel⟩
          rw [hff.out i hi]
          by_cases hik : i = k
          · subst hik; simp [balF, HC.out]
          · simp only [show i < k + 1 ↔ i < k by omega]
        case measure => simp [intOf]; omega
      · have HC := Lib.hid hc
        clear hc
        have hbal := l01Balance_any g b k hg hsm hlt wr hb
        have c2 : wr.cell? ⟨w.heap.size + 1, k, none⟩ = some (.float .f32 (ff k)) := (hB.cell _).trans (by rw [List.getElem?_toArray, fls_get 64 _ k hlt])
        have f2 := hB.free k
        go_upto_region 7 with (first | (go_at_call 67; refine his.mono ?_; rintro e w' ⟨rfl, hw⟩; rw [hw]; clear hw w') | (go_at_call 81; refine hbal.mono ?_; rintro e w' ⟨r, rfl, hr, n, rfl⟩; have HR := Lib.hid hr; clear hr))
        clear c2 f2 hbal his
        have hA := (hA.drewN n).setOther (a := ⟨w.heap.size + 1, k, none⟩) (.float .f32 r) (by show w.heap.size ≠ w.heap.size + 1; omega)
        have hB := (hB.drewN n).setCell k (.float .f32 r)
        rw [fls_set _ _ _ _ hlt] at hB
        have hb := (hb.drewN n).move (w' := (wr.drewN n).setCell ⟨w.heap.size + 1, k, none⟩ (.float .f32 r)) (heap_setCell_other _ ⟨w.heap.size + 1, k, none⟩ b _ (by show b ≠ w.heap.size + 1; omega))
        have hbel := (below_drewN hbel n).setCell (p := ⟨w.heap.size + 1, k, none⟩) (by show w.heap.size ≤ w.heap.size + 1; omega) (.float .f32 r)
        have HF : Hid (∀ i, i < 64 → cn (upd ff k r i) = cn (if i < k + 1 then balF g i else 0)) := Lib.hid fun i hi => by
          unfold Go.Proofs.YtmmfnklnmdhkiaaGreat.upd
          by_cases hik : i = k
          · subst hik; simp only [if_true, Nat.lt_succ_self]; unfold balF; rw [HC.out, HR.out]; rfl
          · simp only [hik, if_false, show i < k + 1 ↔ i < k by omega]; exact hff.out i hi
        generalize (wr.drewN n).setCell ⟨w.heap.size + 1, k, none⟩ (.float .f32 r) = W2 at *
        have c3 : W2.cell? ⟨w.heap.size + 1, k, none⟩ = some (.float .f32 r) := (hB.cell _).trans (by rw [List.getElem?_toArray, fls_get 64 _ k hlt]; simp [Go.Proofs.YtmmfnklnmdhkiaaGreat.upd])
        have hfin := l01Finite_any r W2
        rw [fin_al HR.out] at hfin
        cases hq : fin (bal g k) <;> rw [hq] at hfin
        · have HQ := Lib.hid hq
          clear hq
          go_wp2_with (first | (go_at_call 82; refine hfin.mono ?_; rintro e w' ⟨rfl, n2, rfl⟩) | (refine wpList_zero rfl rfl built64 ?_) | (refine wpList_store_blk rfl rfl rfl rfl row64 (hA.drewN _) (fls_size _ _) (fls_size _ _) (fls_one _ _) ?_))
          have hno : balsOk g = false := by
            unfold balsOk
            rw [anyTo_true (i := k) hlt (by unfold notFin; rw [HC.out, HQ.out]; rfl)]; rfl
          rw [hno]
          refine bodyPost_row2 rfl rfl row64 ((hA.drewN _).setRow _) (fls_size _ _) rfl ⟨_, rfl, fun h => (by cases h), below_setRow (below_drewN hbel _) (by omega) _⟩
        · have HQ := Lib.hid hq
          clear hq
          go_wp2_with (first | (go_at_call 82; refine hfin.mono ?_; rintro e w' ⟨rfl, n2, rfl⟩))
          go_roundw
          case rel => exact ⟨k + 1, _, by omega, by go_num, Lib.hid (all_step hok.out (by unfold notFin; rw [HC.out, HQ.out]; rfl)), HF, hA.drewN _, hB.drewN _, hb.drewN _, below_drewN hbel _⟩
          case measure => simp [intOf]; omega
    · obtain rfl : k = 64 := by omega
      have hyes : balsOk g = true := by unfold balsOk; rw [anyTo_false.2 hok.out]; rfl
      have HY := Lib.hid hyes
      clear hyes
      go_wp2_with (first | (refine wpList_load_blk rfl rfl rfl row64 hB (fls_size _ _) ?_) | (refine wpList_store_blk rfl rfl rfl rfl row64 hA (fls_size _ _) (fls_size _ _) (fls_one _ _) ?_))
      refine bodyPost_row2 rfl rfl row64 (hA.setRow _) (fls_size _ _) rfl ⟨ff, by rw [HY.out]; rfl, fun _ k hk => ?_, below_setRow hbel (by omega) _⟩
      have h2 := hff.out k hk
      rw [if_pos hk] at h2
      exact h2
end Go.Proofs.YtmmfnklnmdhkiaaGreat
