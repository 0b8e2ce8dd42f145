/- The law over LoggedLevels: the walk through the law's own function. -/
import Derived.Test.YtnfoemgiebplmaaLogLev
import Derived.Test.YtnfoemgiebplmaaLawStep
namespace Go.Proofs.Ytnfoemgiebplmaa
open Go.ChangeShapes Go.WideShapes Go.ChangeAt Go.RowKit
set_option linter.unusedVariables false
set_option linter.unusedSimpArgs false
attribute [local irreducible] Calls

set_option maxRecDepth 100000 in
set_option maxHeartbeats 400000 in
theorem eqLev_same (f : Nat → Int) (w : World) :
    Calls Try.prog 25 #[.agg (i16s 64 f), .agg (i16s 64 f)] w fun e w' => e = .returned (.bool true) ∧ Below w.heap.size w w' := by
  go_enter Try.func25, Try.ntmps25
  go_upto_region 2 with (refine wpList_box_as rfl rfl rfl ?_)
  have hA : Blk ((w.alloc (.cells (i16s 64 f) 42)).alloc (.cells (i16s 64 f) 42)) w.heap.size (i16s 64 f) 42 := (Blk.new _ _ _).alloc _
  have hB : Blk ((w.alloc (.cells (i16s 64 f) 42)).alloc (.cells (i16s 64 f) 42)) (w.heap.size + 1) (i16s 64 f) 42 := Blk.new1 _ _ _ _
  have hbel := below2 w (.cells (i16s 64 f) 42) (.cells (i16s 64 f) 42)
  generalize ((w.alloc (.cells (i16s 64 f) 42)).alloc (.cells (i16s 64 f) 42)) = W at *
  obtain ⟨p, hp⟩ : ∃ p, p = w.heap.size + 1 := ⟨_, rfl⟩
  rw [← hp] at hB ⊢
  obtain ⟨q, hq⟩ : ∃ q, q = w.heap.size := ⟨_, rfl⟩
  rw [← hq] at hA hbel ⊢
  go_loopw [5] (fun i wr => ∃ m : Nat, m ≤ 64 ∧ i = .int .i64 m ∧ Blk wr q (i16s 64 f) 42 ∧ Blk wr p (i16s 64 f) 42 ∧ Below q w wr) (fun i _ => 64 - (intOf i).toNat)
  case atStart => exact ⟨0, by omega, rfl, hA, hB, hbel⟩
  case round =>
    clear hA hB hbel
    obtain ⟨m, hm, rfl, hA, hB, hbel⟩ := hrel
    by_cases hlt : m < 64
    · have c1 : wr.cell? ⟨q, m, none⟩ = some (.int .i16 (f m)) := (hA.cell _).trans (i16s_get 64 f m hlt)
      have c2 : wr.cell? ⟨p, m, none⟩ = some (.int .i16 (f m)) := (hB.cell _).trans (i16s_get 64 f m hlt)
      have bk : (0 : Int) ≤ m := by omega
      have bl : (m : Int) < 64 := by omega
      go_upto_region 4 with fail
      refine wp_loose (C := fun w' => ∃ n, w' = wr.drewN n) (R := fun _ _ => True) (F := fun _ dd vv => match dd, vv with
        | 10, vv => vv = .int .i64 m
        | 11, vv => vv = .pointer (some ⟨q, m, none⟩)
        | 12, vv => vv = .int .i16 (f m)
        | 13, vv => vv = .int .i64 m
        | 14, vv => vv = .pointer (some ⟨p, m, none⟩)
        | 15, vv => vv = .int .i16 (f m)
        | 16, vv => vv = .bool false
        | _, _ => True) (fun _ _ _ _ _ h => h) (by kernel_rfl) (by kernel_rfl) (by kernel_rfl) ⟨1, rfl⟩ ?_ ?_
      · refine steps_cons (step_go rfl fun ev w1 hC kn => ?_) ?_
        · have e1 : ev (.tmp 5) = .int .i64 m := kn.out 5 rfl rfl rfl
          exact good_of (v := .int .i64 m) rfl (by simp [execOp, e1, kn.con, go_sem]) hC trivial rfl
        refine steps_cons (step_go rfl fun ev w1 hC kn => ?_) ?_
        · have e1 : ev (.tmp 2) = .pointer (some ⟨q, 0, none⟩) := kn.out 2 rfl rfl rfl
          have e2 : ev (.tmp 10) = .int .i64 m := kn.inn 10 rfl rfl
          exact good_of (v := .pointer (some ⟨q, m, none⟩)) rfl (by simp [execOp, e1, e2, kn.con, go_sem, bl, bk]) hC trivial rfl
        refine steps_cons (step_go rfl fun ev w1 hC kn => ?_) ?_
        · have e1 : ev (.tmp 11) = .pointer (some ⟨q, m, none⟩) := kn.inn 11 rfl rfl
          obtain ⟨nn, rfl⟩ := hC
          exact good_of (v := .int .i16 (f m)) rfl (by simp [execOp, e1, go_sem, c1]) ⟨nn, rfl⟩ trivial rfl
        refine steps_cons (step_go rfl fun ev w1 hC kn => ?_) ?_
        · have e1 : ev (.tmp 5) = .int .i64 m := kn.out 5 rfl rfl rfl
          exact good_of (v := .int .i64 m) rfl (by simp [execOp, e1, kn.con, go_sem]) hC trivial rfl
        refine steps_cons (step_go rfl fun ev w1 hC kn => ?_) ?_
        · have e1 : ev (.tmp 3) = .pointer (some ⟨p, 0, none⟩) := kn.out 3 rfl rfl rfl
          have e2 : ev (.tmp 13) = .int .i64 m := kn.inn 13 rfl rfl
          exact good_of (v := .pointer (some ⟨p, m, none⟩)) rfl (by simp [execOp, e1, e2, kn.con, go_sem, bl, bk]) hC trivial rfl
        refine steps_cons (step_go rfl fun ev w1 hC kn => ?_) ?_
        · have e1 : ev (.tmp 14) = .pointer (some ⟨p, m, none⟩) := kn.inn 14 rfl rfl
          obtain ⟨nn, rfl⟩ := hC
          exact good_of (v := .int .i16 (f m)) rfl (by simp [execOp, e1, go_sem, c2]) ⟨nn, rfl⟩ trivial rfl
        refine steps_cons (step_go rfl fun ev w1 hC kn => ?_) ?_
        · have e1 : ev (.tmp 12) = .int .i16 (f m) := kn.inn 12 rfl rfl
          have e2 : ev (.tmp 15) = .int .i16 (f m) := kn.inn 15 rfl rfl
          exact good_of (v := .bool false) rfl (by simp [execOp, e1, e2, kn.con, go_sem]) hC trivial rfl
        exact steps_nil
      rintro xv w1 hxv hC
      have y16 : xv 16 = .bool false := hxv 16 (by decide)
      obtain ⟨n, rfl⟩ := hC
      simp only [fill, dstsOf, List.filterMap_cons, List.filterMap_nil, List.foldl_cons, List.foldl_nil, List.set_cons_succ, List.set_cons_zero, y16]
      clear hxv y16
      go_wp2_with fail
      go_roundw
      case rel => exact ⟨m + 1, by omega, by go_num, hA.drewN _, hB.drewN _, below_drewN hbel _⟩
      case measure => simp [intOf]; omega
    · obtain rfl : m = 64 := by omega
      go_wp2_with fail
      go_ret
      exact ⟨rfl, by rw [hq] at hbel; exact hbel⟩

set_option maxRecDepth 100000 in
set_option maxHeartbeats 400000 in
theorem lawLogged (lg : Nat → Int) (hI : ∀ b w, plain b = true → Calls Try.prog 79 #[.float .f32 b] w fun e w' => e = .returned (.int .i16 (lg b)) ∧ ∃ q, w' = w.drewN q) (hS : ∀ b w, plain b = true → Calls Try.prog 77 #[.float .f32 b] w fun e w' => e = .returned (.int .i16 (lg b)) ∧ ∃ q, w' = w.drewN q) (g : Gr) (w : World) (hg : g.ok) :
    Calls Try.prog 6 #[.agg g.cells] w fun e w' => e = .returned (.bool true) ∧ Below w.heap.size w w' := by
  have hto := fun w' => toGround_any g w'
  have hsp := fun w' => specLoggedLevels_any lg hS g hg w'
  have him := fun w' => loggedLevels_any lg hI g hg w'
  have heq := fun w' => eqLev_same (levF lg g) w'
  clear hI hS
  generalize levF lg g = G at *
  generalize levC g = V at *
  have hV : (V != V) = false := by simp
  go_enter Try.func6, Try.ntmps6
  go_upto_region 1 with (refine wpList_box_as rfl rfl rfl ?_)
  have hA : Blk (w.alloc (.cells g.cells 27)) w.heap.size g.cells 27 := Blk.new _ _ _
  have hbel := below1 w (.cells g.cells 27)
  generalize w.alloc (.cells g.cells 27) = W at *
  have lA := hA.lt
  go_upto_region 2 with (first | (refine wpList_load_blk rfl rfl rfl row61 hA g.size ?_) | (go_at_call 16; refine (hto _).mono ?_; rintro e w1 ⟨rfl, hb1⟩) | (go_at_call 23; refine (hsp _).mono ?_; rintro e w2 ⟨rfl, hb2⟩) | (refine wpList_alloc_as rfl rfl zero42 ?_) | (refine wpList_store_last rfl rfl rfl rfl rfl (by rw [i16s_size]; exact size42) (by rw [i16s_size, i16s_size]) (List.all_eq_true.2 (i16s_one _ _)) ?_))
  have hb12 := hb1.trans (hb2.mono hb1.size)
  have hA := (hA.below hb12 lA).alloc (.cells (i16s 64 G) 42)
  have hX := Blk.new w2 (i16s 64 G) 42
  have hbel := hbel.trans (hb12.mono hbel.size)
  have hbel := hbel.alloc hbel.size (.cells (i16s 64 G) 42)
  generalize w2.alloc (.cells (i16s 64 G) 42) = W2 at *
  generalize w2.heap.size = x at *
  clear hb1 hb2 hb12 lA
  have lA := hA.lt
  have lX := hX.lt
  go_upto_region 3 with (first | (refine wpList_load_blk rfl rfl rfl row61 hA g.size ?_) | (go_at_call 16; refine (hto _).mono ?_; rintro e w3 ⟨rfl, hb1⟩) | (go_at_call 24; refine (him _).mono ?_; rintro e w4 ⟨rfl, hb2⟩) | (refine wpList_alloc_as rfl rfl zero42 ?_) | (refine wpList_store_last rfl rfl rfl rfl rfl (by rw [i16s_size]; exact size42) (by rw [i16s_size, i16s_size]) (List.all_eq_true.2 (i16s_one _ _)) ?_))
  have hb12 := hb1.trans (hb2.mono hb1.size)
  have hX := (hX.below hb12 lX).alloc (.cells (i16s 64 G) 42)
  have hY := Blk.new w4 (i16s 64 G) 42
  have hbel := hbel.trans (hb12.mono hbel.size)
  have hbel := hbel.alloc hbel.size (.cells (i16s 64 G) 42)
  generalize w4.alloc (.cells (i16s 64 G) 42) = W4 at *
  generalize w4.heap.size = y at *
  clear hb1 hb2 hb12 lA lX hA
  go_wp2_with (first | (refine wpList_load_blk rfl rfl rfl row42 hX (i16s_size _ _) ?_) | (refine wpList_load_blk rfl rfl rfl row42 hY (i16s_size _ _) ?_) | (go_at_call 25; refine (heq _).mono ?_; rintro e w5 ⟨rfl, hb5⟩))
  go_ret
  exact ⟨rfl, hbel.trans (hb5.mono hbel.size)⟩
end Go.Proofs.Ytnfoemgiebplmaa
