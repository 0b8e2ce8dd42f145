import Derived.Test.YtcojgmgoiopboaaGreatDoorMR06
import Derived.Test.YtcojgmgoiopboaaGreatDoorMR16
import Derived.Test.YtcojgmgoiopboaaGreatDoorMR25
import Derived.Test.YtcojgmgoiopboaaGreatDoorMR27
/- Two grounds whose numbers are alike are told equal. -/
namespace Go.Proofs.YtcojgmgoiopboaaGreatDoor
open Go.ChangeShapes Go.WideShapes Go.ChangeAt Go.RowKit
set_option linter.unusedVariables false
set_option linter.unusedSimpArgs false
attribute [local irreducible] Calls

set_option maxRecDepth 100000 in
set_option maxHeartbeats 400000 in
theorem eqField_alike (f f' : Nat → Nat) (h : ∀ k, k < 64 → cn (f k) = cn (f' k)) (w : World) :
    Calls Tryz.prog 33 #[.agg (fls 64 f).toArray, .agg (fls 64 f').toArray] w fun e w' => e = .returned (.bool true) ∧ Below w.heap.size w w' := by
  have HH := Lib.hid h
  clear h
  have cv := fun (b : Nat) (w : World) => run_convert_widen (P := Tryz.prog) w 29 98 b Tryz.underlying29 Tryz.underlying98
  go_enter Tryz.func33, Tryz.ntmps33
  go_wp2_with (refine wpList_box_as rfl rfl rfl ?_)
  have hA : Blk ((w.alloc (.cells (fls 64 f).toArray 31)).alloc (.cells (fls 64 f').toArray 31)) w.heap.size (fls 64 f).toArray 31 := (Blk.new _ _ _).alloc _
  have hB : Blk ((w.alloc (.cells (fls 64 f).toArray 31)).alloc (.cells (fls 64 f').toArray 31)) (w.heap.size + 1) (fls 64 f').toArray 31 := Blk.new1 _ _ _ _
  have hbel := below2 w (.cells (fls 64 f).toArray 31) (.cells (fls 64 f').toArray 31)
  generalize ((w.alloc (.cells (fls 64 f).toArray 31)).alloc (.cells (fls 64 f').toArray 31)) = W at *
  go_loopw [5] (fun i wr => ∃ m : Nat, m ≤ 64 ∧ i = .int .i64 m ∧ Blk wr w.heap.size (fls 64 f).toArray 31 ∧ Blk wr (w.heap.size + 1) (fls 64 f').toArray 31 ∧ Below w.heap.size w wr) (fun i _ => 64 - (intOf i).toNat)
  case atStart => exact ⟨0, by omega, rfl, hA, hB, hbel⟩
  case round =>
    clear hA hB hbel
    obtain ⟨m, hm, rfl, hA, hB, hbel⟩ := hrel
    by_cases hlt : m < 64
    · have c1 : wr.cell? ⟨w.heap.size, m, none⟩ = some (.float .f32 (f m)) := (hA.cell _).trans (by rw [List.getElem?_toArray, fls_get 64 _ m hlt])
      have c2 : wr.cell? ⟨w.heap.size + 1, m, none⟩ = some (.float .f32 (f' m)) := (hB.cell _).trans (by rw [List.getElem?_toArray, fls_get 64 _ m hlt])
      have bk : (0 : Int) ≤ m := by omega
      have bl : (m : Int) < 64 := by omega
      go_wp2_with fail
      have lA := hA.lt
      have lB := hB.lt
      have hcn := HH.out m hlt
      refine wp_loose (C := fun w' => ∃ n, w' = wr.drewN n) (R := fun _ _ => True) (F := fun _ d v => match d, v with
        | 10, v => v = .int .i64 m
        | 11, v => v = .pointer (some ⟨w.heap.size, m, none⟩)
        | 12, v => v = .float .f32 (f m)
        | 13, v => ∃ b, v = .float .f64 b ∧ cnk .f64 b = cnk .f64 (widen (f m))
        | 14, v => v = .int .i64 m
        | 15, v => v = .pointer (some ⟨w.heap.size + 1, m, none⟩)
        | 16, v => v = .float .f32 (f' m)
        | 17, v => ∃ b, v = .float .f64 b ∧ cnk .f64 b = cnk .f64 (widen (f m))
        | 18, v => v = .bool true
        | 19, v => v = .bool false
        | _, _ => True) (fun _ _ _ _ _ h => h) (by kernel_rfl) (by kernel_rfl) (by kernel_rfl) ⟨1, rfl⟩ ?_ ?_
      · refine steps_cons (step_go rfl fun a w1 hC k => ?_) ?_
        · have e := k.out 5 rfl rfl rfl
          exact good_of rfl (by simp [execOp, e]) hC trivial rfl
        refine steps_cons (step_go rfl fun a w1 hC k => ?_) ?_
        · have e := k.out 2 rfl rfl rfl
          have e2 : a (.tmp 10) = .int .i64 m := k.inn 10 rfl rfl
          exact good_of (v := .pointer (some ⟨w.heap.size, m, none⟩)) rfl (by simp [execOp, e, e2, go_sem, bl]) hC trivial rfl
        refine steps_cons (step_go rfl fun a w1 hC k => ?_) ?_
        · have e2 : a (.tmp 11) = .pointer (some ⟨w.heap.size, m, none⟩) := k.inn 11 rfl rfl
          obtain ⟨n, rfl⟩ := hC
          exact good_of (v := .float .f32 (f m)) rfl (by simp [execOp, e2, go_sem, c1]) ⟨n, rfl⟩ trivial rfl
        refine steps_cons (step_go rfl fun a w1 hC k => ?_) ?_
        · have e2 : a (.tmp 12) = .float .f32 (f m) := k.inn 12 rfl rfl
          obtain ⟨n, rfl⟩ := hC
          exact good_of (v := .float .f64 (fwid (f m) (wr.drewN n))) rfl (by simp [execOp, e2, cv]) ⟨n + wcnt (f m), rfl⟩ trivial ⟨_, rfl, cn_fwid _ _⟩
        refine steps_cons (step_go rfl fun a w1 hC k => ?_) ?_
        · have e := k.out 5 rfl rfl rfl
          exact good_of rfl (by simp [execOp, e]) hC trivial rfl
        refine steps_cons (step_go rfl fun a w1 hC k => ?_) ?_
        · have e := k.out 3 rfl rfl rfl
          have e2 : a (.tmp 14) = .int .i64 m := k.inn 14 rfl rfl
          exact good_of (v := .pointer (some ⟨w.heap.size + 1, m, none⟩)) rfl (by simp [execOp, e, e2, go_sem, bl]) hC trivial rfl
        refine steps_cons (step_go rfl fun a w1 hC k => ?_) ?_
        · have e2 : a (.tmp 15) = .pointer (some ⟨w.heap.size + 1, m, none⟩) := k.inn 15 rfl rfl
          obtain ⟨n, rfl⟩ := hC
          exact good_of (v := .float .f32 (f' m)) rfl (by simp [execOp, e2, go_sem, c2]) ⟨n, rfl⟩ trivial rfl
        refine steps_cons (step_go rfl fun a w1 hC k => ?_) ?_
        · have e2 : a (.tmp 16) = .float .f32 (f' m) := k.inn 16 rfl rfl
          obtain ⟨n, rfl⟩ := hC
          exact good_of (v := .float .f64 (fwid (f' m) (wr.drewN n))) rfl (by simp [execOp, e2, cv]) ⟨n + wcnt (f' m), rfl⟩ trivial ⟨_, rfl, by rw [cn_fwid, ← widen_cn, ← hcn, widen_cn]⟩
        refine steps_cons (step_go rfl fun a w1 hC k => ?_) ?_
        · obtain ⟨b1, e1, h1⟩ : ∃ b, a (.tmp 13) = .float .f64 b ∧ cnk .f64 b = cnk .f64 (widen (f m)) := k.inn 13 rfl rfl
          obtain ⟨b2, e2, h2⟩ : ∃ b, a (.tmp 17) = .float .f64 b ∧ cnk .f64 b = cnk .f64 (widen (f m)) := k.inn 17 rfl rfl
          refine good_call (f := 50) (args := #[.float .f64 b1, .float .f64 b2]) rfl (by simp [execOp, e1, e2, k.fn, go_sem]) ((sameFloat_alike b1 b2 (h1.trans h2.symm) w1).mono fun e w2 h => ⟨_, h.1, by rw [h.2]; exact hC, trivial, rfl⟩)
        refine steps_cons (step_go rfl fun a w1 hC k => ?_) ?_
        · have e2 : a (.tmp 18) = .bool true := k.inn 18 rfl rfl
          exact good_of (v := .bool false) rfl (by simp [execOp, e2, go_sem]) hC trivial rfl
        exact steps_nil
      · rintro x w1 hx ⟨n, rfl⟩
        have y : x 19 = .bool false := hx 19 (by decide)
        simp only [fill, dstsOf, List.filterMap_cons, List.filterMap_nil, List.foldl_cons, List.foldl_nil, List.set_cons_succ, List.set_cons_zero, y]
        go_wp2_with fail
        go_roundw
        case rel => exact ⟨m + 1, by omega, by go_num, hA.drewN _, hB.drewN _, below_drewN hbel _⟩
        case measure => simp [intOf]; omega
    · obtain rfl : m = 64 := by omega
      go_wp2_with fail
      go_ret
      exact ⟨rfl, hbel⟩
/-- Two grounds whose numbers are alike. -/
structure GrEq (g g' : Gr) : Prop where
  wide : g.wide = g'.wide
  high : g.high = g'.high
  fix : g.fix = g'.fix
  con : ∀ k, k < 64 → cn (g.con k) = cn (g'.con k)
  gai : ∀ k, k < 64 → cn (g.gai k) = cn (g'.gai k)
  hea : ∀ k, k < 64 → cn (g.hea k) = cn (g'.hea k)
theorem GrEq.refl (g : Gr) : GrEq g g := ⟨rfl, rfl, rfl, fun _ _ => rfl, fun _ _ => rfl, fun _ _ => rfl⟩

set_option maxRecDepth 100000 in
set_option maxHeartbeats 400000 in
theorem eqGround_alike (g g' : Gr) (h : GrEq g g') (w : World) :
    Calls Tryz.prog 12 #[.agg g.cells, .agg g'.cells] w fun e w' => e = .returned (.bool true) ∧ Below w.heap.size w w' := by
  obtain ⟨h1, h2, h3, h4, h5, h6⟩ := h
  have k1 := fun w' => eqField_alike g.con g'.con h4 w'
  have k2 := fun w' => eqField_alike g.gai g'.gai h5 w'
  have k3 := fun w' => eqField_alike g.hea g'.hea h6 w'
  clear h4 h5 h6
  go_enter Tryz.func12, Tryz.ntmps12
  go_upto_region 1 with (refine wpList_box_as rfl rfl rfl ?_)
  have hA : Blk ((w.alloc (.cells g.cells 34)).alloc (.cells g'.cells 34)) w.heap.size g.cells 34 := (Blk.new _ _ _).alloc _
  have hB : Blk ((w.alloc (.cells g.cells 34)).alloc (.cells g'.cells 34)) (w.heap.size + 1) g'.cells 34 := Blk.new1 _ _ _ _
  have hbel := below2 w (.cells g.cells 34) (.cells g'.cells 34)
  generalize ((w.alloc (.cells g.cells 34)).alloc (.cells g'.cells 34)) = W at *
  have a0 : W.cell? ⟨w.heap.size, 0, none⟩ = some (.int .i8 g.wide) := hA.gat.get0
  have a1 : W.cell? ⟨w.heap.size, 1, none⟩ = some (.int .i8 g.high) := hA.gat.get1
  have b0 : W.cell? ⟨w.heap.size + 1, 0, none⟩ = some (.int .i8 g.wide) := by rw [h1]; exact hB.gat.get0
  have b1 : W.cell? ⟨w.heap.size + 1, 1, none⟩ = some (.int .i8 g.high) := by rw [h2]; exact hB.gat.get1
  have n0 : (g.wide != g.wide) = false := by simp
  have n1 : (g.high != g.high) = false := by simp
  have n2 : (g.fix != g.fix) = false := by simp
  have lA := hA.lt
  have lB := hB.lt
  go_upto_region 5 with fail
  clear a0 a1 b0 b1
  go_upto_region 7 with (first
    | (refine wpList_load_part rfl rfl rfl row64 hA (by rw [g.size]; omega) ?_; rw [g.exC])
    | (refine wpList_load_part rfl rfl rfl row64 hB (by rw [g'.size]; omega) ?_; rw [g'.exC])
    | (go_at_call 33; refine (k1 _).mono ?_; rintro e W1 ⟨rfl, hb1⟩))
  have hA := hA.below hb1 lA
  have hB := hB.below hb1 lB
  have hbel := hbel.trans (hb1.mono hbel.size)
  have lA := hA.lt
  have lB := hB.lt
  clear hb1
  go_upto_region 9 with (first
    | (refine wpList_load_part rfl rfl rfl row64 hA (by rw [g.size]; omega) ?_; rw [g.exG])
    | (refine wpList_load_part rfl rfl rfl row64 hB (by rw [g'.size]; omega) ?_; rw [g'.exG])
    | (go_at_call 33; refine (k2 _).mono ?_; rintro e W2 ⟨rfl, hb1⟩))
  have hA := hA.below hb1 lA
  have hB := hB.below hb1 lB
  have hbel := hbel.trans (hb1.mono hbel.size)
  have lA := hA.lt
  have lB := hB.lt
  clear hb1
  go_upto_region 11 with (first
    | (refine wpList_load_part rfl rfl rfl row64 hA (by rw [g.size]; omega) ?_; rw [g.exH])
    | (refine wpList_load_part rfl rfl rfl row64 hB (by rw [g'.size]; omega) ?_; rw [g'.exH])
    | (go_at_call 33; refine (k3 _).mono ?_; rintro e W3 ⟨rfl, hb1⟩))
  have a2 : W3.cell? ⟨w.heap.size, 194, none⟩ = some (.int .u64 g.fix) := (hA.below hb1 lA).gat.getF
  have b2 : W3.cell? ⟨w.heap.size + 1, 194, none⟩ = some (.int .u64 g.fix) := by rw [h3]; exact (hB.below hb1 lB).gat.getF
  go_wp2_with fail
  go_ret
  exact ⟨rfl, hbel.trans (hb1.mono hbel.size)⟩
end Go.Proofs.YtcojgmgoiopboaaGreatDoor
/- The law FnExactReadGround: whatever the text, the program's ReadGround returns what the reference's returns. -/
namespace Go.Proofs.YtcojgmgoiopboaaGreatDoor.lawReadGround
open Go.ChangeShapes Go.WideShapes Go.ChangeAt Go.RowKit
set_option linter.unusedVariables false
attribute [local irreducible] Calls

set_option maxRecDepth 100000 in
set_option maxHeartbeats 4000000 in
theorem walk (s : ByteArray) (w : World) (ws : s.size ≤ maxLen) (hV : NumVars w) (htab : Lib.TabIs Tryz.prog w "internal/strconv.uint64pow10" .u64 Lib.pow10Tab) (m : Int) (hm : w.cell? ⟨1, 0, none⟩ = some (.int .i64 m)) :
    Calls Tryz.prog 4 #[.string s] w fun e w' => e = .returned (.bool true) ∧ Below w.heap.size w w' := by
  by_cases hs : s.size ≤ 1048576
  · have hsame : ∀ (l : List UInt8) (G : Gr) (c : Int) (G' : Gr) (c' : Int), ((SpecG l ∧ G = gdR l ∧ c = 0) ∨ (¬ SpecG l ∧ G = zeroGr ∧ c = 5)) → ((SpecG l ∧ G' = gdR l ∧ c' = 0) ∨ (¬ SpecG l ∧ G' = zeroGr ∧ c' = 5)) → G = G' ∧ c = c' := by
      rintro l G c G' c' (⟨a, rfl, rfl⟩ | ⟨a, rfl, rfl⟩) (⟨b, rfl, rfl⟩ | ⟨b, rfl, rfl⟩)
      · exact ⟨rfl, rfl⟩
      · exact absurd a b
      · exact absurd b a
      · exact ⟨rfl, rfl⟩
    have hS := readGroundS_any s hs w
    have hI := fun w1 (hb : Below w.heap.size w w1) => readGroundI_any s hs w1 (hV.below hb) (tab_below htab hb) m ((hb.cell (p := ⟨1, 0, none⟩) (Lib.lt_of_cell hm)).trans hm)
    have hs1 : (s.size : Int) ≤ 1048576 := by omega
    have HI := Lib.hid hI
    have HSAME := Lib.hid hsame
    clear hm hV htab hI hsame
    go_enter Tryz.func4, Tryz.ntmps4
    go_upto_region 4 with (first | (go_at_call 10; refine hS.mono ?_; rintro e w1 ⟨G, c, rfl, hgc, bel⟩) | (refine wpList_alloc_as rfl rfl zero66 ?_) | (refine wpList_store_last (c' := G.cells) rfl rfl rfl rfl rfl (by rw [Gr.size]; kernel_rfl) (by rw [Gr.size, Gr.size]) (List.all_eq_true.2 (Gr.one _)) ?_))
    clear hS
    have hX := Blk.new w1 G.cells 34
    have bel := bel.alloc bel.size (.cells G.cells 34)
    generalize w1.alloc (.cells G.cells 34) = W1 at *
    go_upto_region 5 with (first | (go_at_call 11; refine (HI.out _ bel).mono ?_; rintro e w2 ⟨G', c', rfl, hgc', bel2⟩; obtain ⟨rfl, rfl⟩ := HSAME.out _ _ _ _ _ hgc hgc'; clear hgc hgc') | (refine wpList_alloc_as rfl rfl zero66 ?_) | (refine wpList_store_last (c' := G.cells) rfl rfl rfl rfl rfl (by rw [Gr.size]; kernel_rfl) (by rw [Gr.size, Gr.size]) (List.all_eq_true.2 (Gr.one _)) ?_))
    have hX := (hX.below bel2 hX.lt).alloc (.cells G.cells 34)
    have bel := bel.trans (bel2.mono bel.size)
    have hY := Blk.new w2 G.cells 34
    have bel := bel.alloc bel.size (.cells G.cells 34)
    generalize w2.alloc (.cells G.cells 34) = W2 at *
    have heq := eqGround_alike G G (GrEq.refl _) W2
    have hcc : (c != c) = false := by simp
    have hsz := G.size
    go_wp2_with (first | (refine wpList_load_blk rfl rfl rfl row66 hX hsz ?_) | (refine wpList_load_blk rfl rfl rfl row66 hY hsz ?_) | (go_at_call 12; refine heq.mono ?_; rintro e w3 ⟨rfl, hb3⟩))
    go_ret
    exact ⟨rfl, bel.trans (hb3.mono bel.size)⟩
  · have hs1 : ¬ (s.size : Int) ≤ 1048576 := by omega
    clear hm hV htab
    go_enter Tryz.func4, Tryz.ntmps4
    go_wp2_with fail
    go_ret
    exact ⟨rfl, Below.refl _ _⟩
end Go.Proofs.YtcojgmgoiopboaaGreatDoor.lawReadGround
