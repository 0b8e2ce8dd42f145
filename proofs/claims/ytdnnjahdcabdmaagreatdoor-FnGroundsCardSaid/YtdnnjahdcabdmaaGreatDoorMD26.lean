import Derived.Test.YtdnnjahdcabdmaaGreatDoorMD25
import Derived.OwnWalk
/- FirstBelow, in the program and in the reference. -/
namespace Go.Proofs.YtdnnjahdcabdmaaGreatDoor
open Go.ChangeShapes Go.WideShapes Go.ChangeAt Go.RowKit
set_option linter.unusedVariables false
set_option linter.unusedSimpArgs false
attribute [local irreducible] Calls

/-- How much the head of this watch is less than its level. -/
def lackW (G : Gr) (p : Wt) : Nat := fop .sub p.lim (G.hea p.cel.toNat)
def fbT (g : Gr) (n : Nat) (P : Nat → Wt) (m : Nat) (Q : Nat → Pm) : Int × Nat × Int :=
  if (gwT g n P m Q).2 = 0 then (if firstI (lowW (gwT g n P m Q).1) P n < 0 then (0, 0, 6) else (firstI (lowW (gwT g n P m Q).1) P n, lackW (gwT g n P m Q).1 (P (firstI (lowW (gwT g n P m Q).1) P n).toNat), 0)) else (0, 0, (gwT g n P m Q).2)
theorem gwT_watch {g : Gr} {n m : Nat} {P : Nat → Wt} {Q : Nat → Pm} (h : (gwT g n P m Q).2 = 0) : watchIn n P := by
  unfold gwT at h
  cases hv : validP g n P m Q
  · rw [hv] at h; simp at h
  · exact validO_watch (validP_use hv).2.1

set_option maxRecDepth 100000 in
set_option maxHeartbeats 400000 in
theorem firstBelow_any (g : Gr) (v u : Value) (N m : Nat) (P : Nat → Wt) (Q : Nat → Pm) (hg : g.ok) (hP : ∀ i, i < N → (P i).ok) (hQ : ∀ i, i < m → (Q i).ok) (w : World) (hv : WSl w v N P) (hu : PSl w u m Q) :
    Calls Tryz.prog 13 #[.agg (ofc g v), u] w fun e w' => ∃ fb, e = .returned (.tuple #[.int .i64 (fbT g N P m Q).1, .float .f32 fb, .int .i64 (fbT g N P m Q).2.2]) ∧ cn fb = cn (fbT g N P m Q).2.1 ∧ Below w.heap.size w w' := by
  have hwa : (gwT g N P m Q).2 = 0 → watchIn N P := fun h => gwT_watch h
  have hgw := fun w' h1 (h2 : PSl w' u m Q) => groundWith_any g v u N m P Q hg hP hQ w' h1 h2
  obtain ⟨T, hT⟩ : ∃ T, T = fbT g N P m Q := ⟨_, rfl⟩
  rw [← hT]
  unfold fbT at hT
  generalize gwT g N P m Q = Y at *
  obtain ⟨T1, T2⟩ := Y
  obtain ⟨R, F, V⟩ := T
  have HF := Lib.hid hT
  clear hT
  obtain ⟨a', c1', rfl, hform'⟩ := id hu
  clear hform'
  obtain ⟨a, c', rfl, hc1, hc2, hcell⟩ := id hv
  unfold maxLen at hc2
  have HC := Lib.hid hcell
  clear hcell
  have bn : (N : Int) ≤ 9223372036854775807 := by omega
  go_enter Tryz.func13, Tryz.ntmps13
  go_upto_region 1 with (refine wpList_box_as rfl rfl rfl ?_)
  have hA := Blk.new w (ofc g (.slice a N c')) 33
  have hbel := below1 w (.cells (ofc g (.slice a N c')) 33)
  generalize w.alloc (.cells (ofc g (.slice a N c')) 33) = W at *
  have lA := hA.lt
  have hgw := hgw W (hv.below hbel) (hu.below hbel)
  go_upto_region 2 with (first | (refine wpList_load_blk rfl rfl rfl row76 hA (ofc_size _ _) ?_) | (go_at_call 10; refine hgw.mono ?_; rintro e w3 ⟨rfl, hb3⟩) | (refine wpList_alloc_as rfl rfl zero66z ?_) | (refine wpList_store_last rfl rfl rfl rfl rfl (by rw [Gr.size]; kernel_rfl) (by rw [Gr.size, Gr.size]) (List.all_eq_true.2 (Gr.one _)) ?_))
  have hbel := hbel.trans (hb3.mono hbel.size)
  have hbel := hbel.alloc hbel.size (.cells T1.cells 30)
  have hA := (hA.below hb3 lA).alloc (.cells T1.cells 30)
  have hN := Blk.new w3 T1.cells 30
  generalize w3.alloc (.cells T1.cells 30) = W2 at *
  generalize w3.heap.size = x at *
  clear hb3 lA
  have lA := hA.lt
  by_cases h0 : T2 = 0
  · subst h0
    have hP := hwa rfl
    have cS := (hA.cell 195).trans (ofc_last _ _)
    have hbl := below_any T1 w.heap.size x _ N P hP W2 lA cS (hv.below hbel) hN.gat
    have HR := Lib.hid (firstI_to (lowW T1) P N)
    have hrl := firstI_lt (lowW T1) P N
    generalize firstI (lowW T1) P N = r at *
    by_cases hr : r < 0
    · have HZ : Hid (R = 0 ∧ F = 0 ∧ V = 6) := Lib.hid (by
        have := HF.out
        simp only [if_true] at this
        rw [if_pos hr] at this
        injection this with e1 e2
        injection e2 with e2 e3
        exact ⟨e1, e2, e3⟩)
      go_wp2_with (go_at_call 55; refine hbl.mono ?_; rintro e w5 ⟨rfl, hb5⟩)
      go_ret3
      exact ⟨_, by rw [HZ.out.1, HZ.out.2.2]; rfl, by rw [HZ.out.2.1], hbel.trans (hb5.mono hbel.size)⟩
    · obtain ⟨k, rfl⟩ : ∃ k : Nat, r = k := ⟨r.toNat, by omega⟩
      have hkn : k < N := by omega
      have HZ : Hid (R = k ∧ F = lackW T1 (P k) ∧ V = 0) := Lib.hid (by
        have := HF.out
        simp only [if_true] at this
        rw [if_neg hr] at this
        injection this with e1 e2
        injection e2 with e2 e3
        exact ⟨e1, e2, e3⟩)
      obtain ⟨b', o, rfl, hb', hcell⟩ := HC.out.resolve_left (by omega)
      obtain ⟨c, hc, hc64⟩ := hP k hkn
      have bj : (0 : Int) ≤ k := by omega
      have bm : (k : Int) < N := by omega
      have bk : (0 : Int) ≤ c := by omega
      have bl : (c : Int) < 64 := by omega
      go_upto_region 7 with (go_at_call 55; refine hbl.mono ?_; rintro e w5 ⟨rfl, hb5⟩)
      have hbel3 := hbel.trans (hb5.mono hbel.size)
      have hN3 := hN.below hb5 hN.lt
      have hA3 := hA.below hb5 lA
      obtain ⟨W3, rfl⟩ : ∃ W3, W3 = w5 := ⟨_, rfl⟩
      have mm0 : W3.cell? ⟨b', o + k * 2, none⟩ = some (.int .i8 c) := (hbel3.cell (p := ⟨b', _, none⟩) hb').trans ((hcell k 0 hkn (by omega)).trans ((P k).get0.trans (by rw [hc])))
      have mm1 : W3.cell? ⟨b', o + k * 2 + 1, none⟩ = some (.float .f32 (P k).lim) := (hbel3.cell (p := ⟨b', _, none⟩) hb').trans ((hcell k 1 hkn (by omega)).trans (P k).get1)
      have mm2 : W3.cell? ⟨x, 130 + c, none⟩ = some (.float .f32 (T1.hea c)) := hN3.gat.getH c hc64
      have mmS : W3.cell? ⟨w.heap.size, 195, none⟩ = some (.slice (some ⟨b', o, none⟩) N c') := (hA3.cell 195).trans (ofc_last _ _)
      have HW : Hid (lackW T1 (P k) = fop .sub (P k).lim (T1.hea c)) := Lib.hid (by unfold lackW; rw [hc]; rfl)
      clear hcell hbl HC HR cS hc
      generalize hl : (P k).lim = l at *
      generalize hy : w.heap.size = y at *
      refine wp_loose (C := fun w' => ∃ n, w' = W3.drewN n) (R := fun _ _ => True) (F := fun _ dd vv => match dd, vv with
        | 22, vv => vv = .int .i64 k
        | 23, vv => vv = .pointer (some ⟨y, 195, none⟩)
        | 24, vv => vv = .slice (some ⟨b', o, none⟩) N c'
        | 25, vv => vv = .int .i64 k
        | 26, vv => vv = .pointer (some ⟨b', o + k * 2, none⟩)
        | 27, vv => vv = .pointer (some ⟨b', o + k * 2 + 1, none⟩)
        | 28, vv => vv = .float .f32 l
        | 29, vv => vv = .pointer (some ⟨y, 195, none⟩)
        | 30, vv => vv = .slice (some ⟨b', o, none⟩) N c'
        | 31, vv => vv = .int .i64 k
        | 32, vv => vv = .pointer (some ⟨b', o + k * 2, none⟩)
        | 33, vv => vv = .pointer (some ⟨b', o + k * 2, none⟩)
        | 34, vv => vv = .int .i8 c
        | 35, vv => vv = .pointer (some ⟨x, 130, none⟩)
        | 36, vv => vv = .pointer (some ⟨x, 130 + c, none⟩)
        | 37, vv => vv = .float .f32 (T1.hea c)
        | 38, vv => ∃ fb, vv = .float .f32 fb ∧ cn fb = cn (fop .sub l (T1.hea c))
        | 4, vv => vv = .int .i64 k
        | 5, vv => ∃ fb, vv = .float .f32 fb ∧ cn fb = cn (fop .sub l (T1.hea c))
        | 6, vv => vv = .int .i64 0
        | _, _ => True) (fun _ _ _ _ _ h => h) (by kernel_rfl) (by kernel_rfl) (by kernel_rfl) ⟨1, rfl⟩ ?_ ?_
      · refine steps_cons (step_go rfl fun ev w1 hC kn => ?_) ?_
        · have e1 : ev (.tmp 9) = .int .i64 k := kn.out 9 rfl rfl rfl
          exact good_of (v := .int .i64 k) rfl (by simp [execOp, e1, kn.con, go_sem]) hC trivial rfl
        refine steps_cons (step_go rfl fun ev w1 hC kn => ?_) ?_
        · have e1 : ev (.tmp 2) = .pointer (some ⟨y, 0, none⟩) := kn.out 2 rfl rfl rfl
          exact good_of (v := .pointer (some ⟨y, 195, none⟩)) rfl (by simp only [execOp, e1]; rfl) hC trivial rfl
        refine steps_cons (step_go rfl fun ev w1 hC kn => ?_) ?_
        · have e1 : ev (.tmp 23) = .pointer (some ⟨y, 195, none⟩) := kn.inn 23 rfl rfl
          obtain ⟨nn, rfl⟩ := hC
          exact good_of (v := .slice (some ⟨b', o, none⟩) N c') rfl (by simp [execOp, e1, go_sem, mmS]) ⟨nn, rfl⟩ trivial rfl
        refine steps_cons (step_go rfl fun ev w1 hC kn => ?_) ?_
        · have e1 : ev (.tmp 9) = .int .i64 k := kn.out 9 rfl rfl rfl
          exact good_of (v := .int .i64 k) rfl (by simp [execOp, e1, kn.con, go_sem]) hC trivial rfl
        refine steps_cons (step_go rfl fun ev w1 hC kn => ?_) ?_
        · have e1 : ev (.tmp 24) = .slice (some ⟨b', o, none⟩) N c' := kn.inn 24 rfl rfl
          have e2 : ev (.tmp 25) = .int .i64 k := kn.inn 25 rfl rfl
          exact good_of (v := .pointer (some ⟨b', o + k * 2, none⟩)) rfl (by simp [execOp, e1, e2, kn.con, go_sem, bl, bk, bj, bm]) hC trivial rfl
        refine steps_cons (step_go rfl fun ev w1 hC kn => ?_) ?_
        · have e1 : ev (.tmp 26) = .pointer (some ⟨b', o + k * 2, none⟩) := kn.inn 26 rfl rfl
          exact good_of (v := .pointer (some ⟨b', o + k * 2 + 1, none⟩)) rfl (by simp only [execOp, e1]; rfl) hC trivial rfl
        refine steps_cons (step_go rfl fun ev w1 hC kn => ?_) ?_
        · have e1 : ev (.tmp 27) = .pointer (some ⟨b', o + k * 2 + 1, none⟩) := kn.inn 27 rfl rfl
          obtain ⟨nn, rfl⟩ := hC
          exact good_of (v := .float .f32 l) rfl (by simp [execOp, e1, go_sem, mm1]) ⟨nn, rfl⟩ trivial rfl
        refine steps_cons (step_go rfl fun ev w1 hC kn => ?_) ?_
        · have e1 : ev (.tmp 2) = .pointer (some ⟨y, 0, none⟩) := kn.out 2 rfl rfl rfl
          exact good_of (v := .pointer (some ⟨y, 195, none⟩)) rfl (by simp only [execOp, e1]; rfl) hC trivial rfl
        refine steps_cons (step_go rfl fun ev w1 hC kn => ?_) ?_
        · have e1 : ev (.tmp 29) = .pointer (some ⟨y, 195, none⟩) := kn.inn 29 rfl rfl
          obtain ⟨nn, rfl⟩ := hC
          exact good_of (v := .slice (some ⟨b', o, none⟩) N c') rfl (by simp [execOp, e1, go_sem, mmS]) ⟨nn, rfl⟩ trivial rfl
        refine steps_cons (step_go rfl fun ev w1 hC kn => ?_) ?_
        · have e1 : ev (.tmp 9) = .int .i64 k := kn.out 9 rfl rfl rfl
          exact good_of (v := .int .i64 k) rfl (by simp [execOp, e1, kn.con, go_sem]) hC trivial rfl
        refine steps_cons (step_go rfl fun ev w1 hC kn => ?_) ?_
        · have e1 : ev (.tmp 30) = .slice (some ⟨b', o, none⟩) N c' := kn.inn 30 rfl rfl
          have e2 : ev (.tmp 31) = .int .i64 k := kn.inn 31 rfl rfl
          exact good_of (v := .pointer (some ⟨b', o + k * 2, none⟩)) rfl (by simp [execOp, e1, e2, kn.con, go_sem, bl, bk, bj, bm]) hC trivial rfl
        refine steps_cons (step_go rfl fun ev w1 hC kn => ?_) ?_
        · have e1 : ev (.tmp 32) = .pointer (some ⟨b', o + k * 2, none⟩) := kn.inn 32 rfl rfl
          exact good_of (v := .pointer (some ⟨b', o + k * 2, none⟩)) rfl (by simp only [execOp, e1]; rfl) hC trivial rfl
        refine steps_cons (step_go rfl fun ev w1 hC kn => ?_) ?_
        · have e1 : ev (.tmp 33) = .pointer (some ⟨b', o + k * 2, none⟩) := kn.inn 33 rfl rfl
          obtain ⟨nn, rfl⟩ := hC
          exact good_of (v := .int .i8 c) rfl (by simp [execOp, e1, go_sem, mm0]) ⟨nn, rfl⟩ trivial rfl
        refine steps_cons (step_go rfl fun ev w1 hC kn => ?_) ?_
        · have e1 : ev (.tmp 7) = .pointer (some ⟨x, 0, none⟩) := kn.out 7 rfl rfl rfl
          exact good_of (v := .pointer (some ⟨x, 130, none⟩)) rfl (by simp only [execOp, e1]; rfl) hC trivial rfl
        refine steps_cons (step_go rfl fun ev w1 hC kn => ?_) ?_
        · have e1 : ev (.tmp 35) = .pointer (some ⟨x, 130, none⟩) := kn.inn 35 rfl rfl
          have e2 : ev (.tmp 34) = .int .i8 c := kn.inn 34 rfl rfl
          exact good_of (v := .pointer (some ⟨x, 130 + c, none⟩)) rfl (by simp [execOp, e1, e2, kn.con, go_sem, bl, bk, bj, bm]) hC trivial rfl
        refine steps_cons (step_go rfl fun ev w1 hC kn => ?_) ?_
        · have e1 : ev (.tmp 36) = .pointer (some ⟨x, 130 + c, none⟩) := kn.inn 36 rfl rfl
          obtain ⟨nn, rfl⟩ := hC
          exact good_of (v := .float .f32 (T1.hea c)) rfl (by simp [execOp, e1, go_sem, mm2]) ⟨nn, rfl⟩ trivial rfl
        refine steps_cons (step_go rfl fun ev w1 hC kn => ?_) ?_
        · have e1 : ev (.tmp 28) = .float .f32 l := kn.inn 28 rfl rfl
          have e2 : ev (.tmp 37) = .float .f32 (T1.hea c) := kn.inn 37 rfl rfl
          obtain ⟨nn, rfl⟩ := hC
          exact good_of (v := .float .f32 (fres .sub l (T1.hea c) (W3.drewN nn))) (w' := W3.drewN (nn + fcnt .sub l (T1.hea c))) rfl (by simp [execOp, e1, e2, kn.con, run_fsub, go_sem]) ⟨_, rfl⟩ trivial ⟨_, rfl, by rw [cn_res, fop_eq rfl rfl, cn_fop]⟩
        refine steps_cons (step_go rfl fun ev w1 hC kn => ?_) ?_
        · have e1 : ev (.tmp 22) = .int .i64 k := kn.inn 22 rfl rfl
          exact good_of (v := .int .i64 k) rfl (by simp [execOp, e1, kn.con, go_sem]) hC trivial rfl
        refine steps_cons (step_go rfl fun ev w1 hC kn => ?_) ?_
        · obtain ⟨b1, e1, h1⟩ : ∃ fb, ev (.tmp 38) = .float .f32 fb ∧ cn fb = cn (fop .sub l (T1.hea c)) := kn.inn 38 rfl rfl
          exact good_of (v := .float .f32 b1) rfl (by simp [execOp, e1, kn.con, go_sem]) hC trivial ⟨_, rfl, h1⟩
        refine steps_cons (step_go rfl fun ev w1 hC kn => ?_) ?_
        · exact good_of (v := .int .i64 0) rfl (by simp [execOp, kn.con, go_sem]) hC trivial rfl
        exact steps_nil
      rintro xv w1 hxv hC
      have y4 : xv 4 = .int .i64 k := hxv 4 (by decide)
      obtain ⟨b5, y5, g5⟩ : ∃ fb, xv 5 = .float .f32 fb ∧ cn fb = cn (fop .sub l (T1.hea c)) := hxv 5 (by decide)
      have y6 : xv 6 = .int .i64 0 := hxv 6 (by decide)
      obtain ⟨n, rfl⟩ := hC
      simp only [fill, dstsOf, List.filterMap_cons, List.filterMap_nil, List.foldl_cons, List.foldl_nil, List.set_cons_succ, List.set_cons_zero, y4, y5, y6]
      clear hxv y4 y5 y6
      go_wp2_with fail
      go_ret3
      exact ⟨_, by rw [HZ.out.1, HZ.out.2.2]; rfl, by rw [HZ.out.2.1, HW.out]; exact g5, by rw [hy]; exact below_drewN hbel3 _⟩
  · have h1 : (T2 != 0) = true := by simpa using h0
    have HZ : Hid (R = 0 ∧ F = 0 ∧ V = T2) := Lib.hid (by
      have := HF.out
      rw [if_neg h0] at this
      injection this with e1 e2
      injection e2 with e2 e3
      exact ⟨e1, e2, e3⟩)
    clear h0
    go_wp2_with fail
    go_ret3
    exact ⟨_, by rw [HZ.out.1, HZ.out.2.2]; rfl, by rw [HZ.out.2.1], hbel⟩

set_option maxRecDepth 100000 in
set_option maxHeartbeats 400000 in
theorem specFirstBelow_any (g : Gr) (v u : Value) (N m : Nat) (P : Nat → Wt) (Q : Nat → Pm) (hg : g.ok) (hP : ∀ i, i < N → (P i).ok) (hQ : ∀ i, i < m → (Q i).ok) (w : World) (hv : WSl w v N P) (hu : PSl w u m Q) :
    Calls Tryz.prog 14 #[.agg (ofc g v), u] w fun e w' => ∃ fb, e = .returned (.tuple #[.int .i64 (fbT g N P m Q).1, .float .f32 fb, .int .i64 (fbT g N P m Q).2.2]) ∧ cn fb = cn (fbT g N P m Q).2.1 ∧ Below w.heap.size w w' := by
  have hwa : (gwT g N P m Q).2 = 0 → watchIn N P := fun h => gwT_watch h
  have hgw := fun w' h1 (h2 : PSl w' u m Q) => specGroundWith_any g v u N m P Q hg hP hQ w' h1 h2
  obtain ⟨T, hT⟩ : ∃ T, T = fbT g N P m Q := ⟨_, rfl⟩
  rw [← hT]
  unfold fbT at hT
  generalize gwT g N P m Q = Y at *
  obtain ⟨T1, T2⟩ := Y
  obtain ⟨R, F, V⟩ := T
  have HF := Lib.hid hT
  clear hT
  obtain ⟨a', c1', rfl, hform'⟩ := id hu
  clear hform'
  obtain ⟨a, c', rfl, hc1, hc2, hcell⟩ := id hv
  unfold maxLen at hc2
  have HC := Lib.hid hcell
  clear hcell
  have bn : (N : Int) ≤ 9223372036854775807 := by omega
  go_enter Tryz.func14, Tryz.ntmps14
  go_upto_region 1 with (refine wpList_box_as rfl rfl rfl ?_)
  have hA := Blk.new w (ofc g (.slice a N c')) 33
  have hbel := below1 w (.cells (ofc g (.slice a N c')) 33)
  generalize w.alloc (.cells (ofc g (.slice a N c')) 33) = W at *
  have lA := hA.lt
  have hgw := hgw W (hv.below hbel) (hu.below hbel)
  go_upto_region 2 with (first | (refine wpList_load_blk rfl rfl rfl row76 hA (ofc_size _ _) ?_) | (go_at_call 11; refine hgw.mono ?_; rintro e w3 ⟨rfl, hb3⟩) | (refine wpList_alloc_as rfl rfl zero66z ?_) | (refine wpList_store_last rfl rfl rfl rfl rfl (by rw [Gr.size]; kernel_rfl) (by rw [Gr.size, Gr.size]) (List.all_eq_true.2 (Gr.one _)) ?_))
  have hbel := hbel.trans (hb3.mono hbel.size)
  have hbel := hbel.alloc hbel.size (.cells T1.cells 30)
  have hA := (hA.below hb3 lA).alloc (.cells T1.cells 30)
  have hN := Blk.new w3 T1.cells 30
  generalize w3.alloc (.cells T1.cells 30) = W2 at *
  generalize w3.heap.size = x at *
  clear hb3 lA
  have lA := hA.lt
  by_cases h0 : T2 = 0
  · subst h0
    have hP := hwa rfl
    have cS := (hA.cell 195).trans (ofc_last _ _)
    have hbl := l07Below_any T1 w.heap.size x _ N P hP W2 lA cS (hv.below hbel) hN.gat
    have HR := Lib.hid (firstI_to (lowW T1) P N)
    have hrl := firstI_lt (lowW T1) P N
    generalize firstI (lowW T1) P N = r at *
    by_cases hr : r < 0
    · have HZ : Hid (R = 0 ∧ F = 0 ∧ V = 6) := Lib.hid (by
        have := HF.out
        simp only [if_true] at this
        rw [if_pos hr] at this
        injection this with e1 e2
        injection e2 with e2 e3
        exact ⟨e1, e2, e3⟩)
      go_wp2_with (go_at_call 56; refine hbl.mono ?_; rintro e w5 ⟨rfl, q5, rfl⟩)
      go_ret3
      exact ⟨_, by rw [HZ.out.1, HZ.out.2.2]; rfl, by rw [HZ.out.2.1], below_drewN hbel _⟩
    · obtain ⟨k, rfl⟩ : ∃ k : Nat, r = k := ⟨r.toNat, by omega⟩
      have hkn : k < N := by omega
      have HZ : Hid (R = k ∧ F = lackW T1 (P k) ∧ V = 0) := Lib.hid (by
        have := HF.out
        simp only [if_true] at this
        rw [if_neg hr] at this
        injection this with e1 e2
        injection e2 with e2 e3
        exact ⟨e1, e2, e3⟩)
      obtain ⟨b', o, rfl, hb', hcell⟩ := HC.out.resolve_left (by omega)
      obtain ⟨c, hc, hc64⟩ := hP k hkn
      have bj : (0 : Int) ≤ k := by omega
      have bm : (k : Int) < N := by omega
      have bk : (0 : Int) ≤ c := by omega
      have bl : (c : Int) < 64 := by omega
      go_upto_region 7 with (go_at_call 56; refine hbl.mono ?_; rintro e w5 ⟨rfl, q5, rfl⟩)
      have hbel3 := below_drewN hbel q5
      have hN3 := hN.drewN q5
      have hA3 := hA.drewN q5
      generalize W2.drewN q5 = W3 at *
      have mm0 : W3.cell? ⟨b', o + k * 2, none⟩ = some (.int .i8 c) := (hbel3.cell (p := ⟨b', _, none⟩) hb').trans ((hcell k 0 hkn (by omega)).trans ((P k).get0.trans (by rw [hc])))
      have mm1 : W3.cell? ⟨b', o + k * 2 + 1, none⟩ = some (.float .f32 (P k).lim) := (hbel3.cell (p := ⟨b', _, none⟩) hb').trans ((hcell k 1 hkn (by omega)).trans (P k).get1)
      have mm2 : W3.cell? ⟨x, 130 + c, none⟩ = some (.float .f32 (T1.hea c)) := hN3.gat.getH c hc64
      have mmS : W3.cell? ⟨w.heap.size, 195, none⟩ = some (.slice (some ⟨b', o, none⟩) N c') := (hA3.cell 195).trans (ofc_last _ _)
      have HW : Hid (lackW T1 (P k) = fop .sub (P k).lim (T1.hea c)) := Lib.hid (by unfold lackW; rw [hc]; rfl)
      clear hcell hbl HC HR cS hc
      generalize hl : (P k).lim = l at *
      generalize hy : w.heap.size = y at *
      refine wp_loose (C := fun w' => ∃ n, w' = W3.drewN n) (R := fun _ _ => True) (F := fun _ dd vv => match dd, vv with
        | 22, vv => vv = .int .i64 k
        | 23, vv => vv = .pointer (some ⟨y, 195, none⟩)
        | 24, vv => vv = .slice (some ⟨b', o, none⟩) N c'
        | 25, vv => vv = .int .i64 k
        | 26, vv => vv = .pointer (some ⟨b', o + k * 2, none⟩)
        | 27, vv => vv = .pointer (some ⟨b', o + k * 2 + 1, none⟩)
        | 28, vv => vv = .float .f32 l
        | 29, vv => vv = .pointer (some ⟨y, 195, none⟩)
        | 30, vv => vv = .slice (some ⟨b', o, none⟩) N c'
        | 31, vv => vv = .int .i64 k
        | 32, vv => vv = .pointer (some ⟨b', o + k * 2, none⟩)
        | 33, vv => vv = .pointer (some ⟨b', o + k * 2, none⟩)
        | 34, vv => vv = .int .i8 c
        | 35, vv => vv = .pointer (some ⟨x, 130, none⟩)
        | 36, vv => vv = .pointer (some ⟨x, 130 + c, none⟩)
        | 37, vv => vv = .float .f32 (T1.hea c)
        | 38, vv => ∃ fb, vv = .float .f32 fb ∧ cn fb = cn (fop .sub l (T1.hea c))
        | 4, vv => vv = .int .i64 k
        | 5, vv => ∃ fb, vv = .float .f32 fb ∧ cn fb = cn (fop .sub l (T1.hea c))
        | 6, vv => vv = .int .i64 0
        | _, _ => True) (fun _ _ _ _ _ h => h) (by kernel_rfl) (by kernel_rfl) (by kernel_rfl) ⟨1, rfl⟩ ?_ ?_
      · refine steps_cons (step_go rfl fun ev w1 hC kn => ?_) ?_
        · have e1 : ev (.tmp 9) = .int .i64 k := kn.out 9 rfl rfl rfl
          exact good_of (v := .int .i64 k) rfl (by simp [execOp, e1, kn.con, go_sem]) hC trivial rfl
        refine steps_cons (step_go rfl fun ev w1 hC kn => ?_) ?_
        · have e1 : ev (.tmp 2) = .pointer (some ⟨y, 0, none⟩) := kn.out 2 rfl rfl rfl
          exact good_of (v := .pointer (some ⟨y, 195, none⟩)) rfl (by simp only [execOp, e1]; rfl) hC trivial rfl
        refine steps_cons (step_go rfl fun ev w1 hC kn => ?_) ?_
        · have e1 : ev (.tmp 23) = .pointer (some ⟨y, 195, none⟩) := kn.inn 23 rfl rfl
          obtain ⟨nn, rfl⟩ := hC
          exact good_of (v := .slice (some ⟨b', o, none⟩) N c') rfl (by simp [execOp, e1, go_sem, mmS]) ⟨nn, rfl⟩ trivial rfl
        refine steps_cons (step_go rfl fun ev w1 hC kn => ?_) ?_
        · have e1 : ev (.tmp 9) = .int .i64 k := kn.out 9 rfl rfl rfl
          exact good_of (v := .int .i64 k) rfl (by simp [execOp, e1, kn.con, go_sem]) hC trivial rfl
        refine steps_cons (step_go rfl fun ev w1 hC kn => ?_) ?_
        · have e1 : ev (.tmp 24) = .slice (some ⟨b', o, none⟩) N c' := kn.inn 24 rfl rfl
          have e2 : ev (.tmp 25) = .int .i64 k := kn.inn 25 rfl rfl
          exact good_of (v := .pointer (some ⟨b', o + k * 2, none⟩)) rfl (by simp [execOp, e1, e2, kn.con, go_sem, bl, bk, bj, bm]) hC trivial rfl
        refine steps_cons (step_go rfl fun ev w1 hC kn => ?_) ?_
        · have e1 : ev (.tmp 26) = .pointer (some ⟨b', o + k * 2, none⟩) := kn.inn 26 rfl rfl
          exact good_of (v := .pointer (some ⟨b', o + k * 2 + 1, none⟩)) rfl (by simp only [execOp, e1]; rfl) hC trivial rfl
        refine steps_cons (step_go rfl fun ev w1 hC kn => ?_) ?_
        · have e1 : ev (.tmp 27) = .pointer (some ⟨b', o + k * 2 + 1, none⟩) := kn.inn 27 rfl rfl
          obtain ⟨nn, rfl⟩ := hC
          exact good_of (v := .float .f32 l) rfl (by simp [execOp, e1, go_sem, mm1]) ⟨nn, rfl⟩ trivial rfl
        refine steps_cons (step_go rfl fun ev w1 hC kn => ?_) ?_
        · have e1 : ev (.tmp 2) = .pointer (some ⟨y, 0, none⟩) := kn.out 2 rfl rfl rfl
          exact good_of (v := .pointer (some ⟨y, 195, none⟩)) rfl (by simp only [execOp, e1]; rfl) hC trivial rfl
        refine steps_cons (step_go rfl fun ev w1 hC kn => ?_) ?_
        · have e1 : ev (.tmp 29) = .pointer (some ⟨y, 195, none⟩) := kn.inn 29 rfl rfl
          obtain ⟨nn, rfl⟩ := hC
          exact good_of (v := .slice (some ⟨b', o, none⟩) N c') rfl (by simp [execOp, e1, go_sem, mmS]) ⟨nn, rfl⟩ trivial rfl
        refine steps_cons (step_go rfl fun ev w1 hC kn => ?_) ?_
        · have e1 : ev (.tmp 9) = .int .i64 k := kn.out 9 rfl rfl rfl
          exact good_of (v := .int .i64 k) rfl (by simp [execOp, e1, kn.con, go_sem]) hC trivial rfl
        refine steps_cons (step_go rfl fun ev w1 hC kn => ?_) ?_
        · have e1 : ev (.tmp 30) = .slice (some ⟨b', o, none⟩) N c' := kn.inn 30 rfl rfl
          have e2 : ev (.tmp 31) = .int .i64 k := kn.inn 31 rfl rfl
          exact good_of (v := .pointer (some ⟨b', o + k * 2, none⟩)) rfl (by simp [execOp, e1, e2, kn.con, go_sem, bl, bk, bj, bm]) hC trivial rfl
        refine steps_cons (step_go rfl fun ev w1 hC kn => ?_) ?_
        · have e1 : ev (.tmp 32) = .pointer (some ⟨b', o + k * 2, none⟩) := kn.inn 32 rfl rfl
          exact good_of (v := .pointer (some ⟨b', o + k * 2, none⟩)) rfl (by simp only [execOp, e1]; rfl) hC trivial rfl
        refine steps_cons (step_go rfl fun ev w1 hC kn => ?_) ?_
        · have e1 : ev (.tmp 33) = .pointer (some ⟨b', o + k * 2, none⟩) := kn.inn 33 rfl rfl
          obtain ⟨nn, rfl⟩ := hC
          exact good_of (v := .int .i8 c) rfl (by simp [execOp, e1, go_sem, mm0]) ⟨nn, rfl⟩ trivial rfl
        refine steps_cons (step_go rfl fun ev w1 hC kn => ?_) ?_
        · have e1 : ev (.tmp 7) = .pointer (some ⟨x, 0, none⟩) := kn.out 7 rfl rfl rfl
          exact good_of (v := .pointer (some ⟨x, 130, none⟩)) rfl (by simp only [execOp, e1]; rfl) hC trivial rfl
        refine steps_cons (step_go rfl fun ev w1 hC kn => ?_) ?_
        · have e1 : ev (.tmp 35) = .pointer (some ⟨x, 130, none⟩) := kn.inn 35 rfl rfl
          have e2 : ev (.tmp 34) = .int .i8 c := kn.inn 34 rfl rfl
          exact good_of (v := .pointer (some ⟨x, 130 + c, none⟩)) rfl (by simp [execOp, e1, e2, kn.con, go_sem, bl, bk, bj, bm]) hC trivial rfl
        refine steps_cons (step_go rfl fun ev w1 hC kn => ?_) ?_
        · have e1 : ev (.tmp 36) = .pointer (some ⟨x, 130 + c, none⟩) := kn.inn 36 rfl rfl
          obtain ⟨nn, rfl⟩ := hC
          exact good_of (v := .float .f32 (T1.hea c)) rfl (by simp [execOp, e1, go_sem, mm2]) ⟨nn, rfl⟩ trivial rfl
        refine steps_cons (step_go rfl fun ev w1 hC kn => ?_) ?_
        · have e1 : ev (.tmp 28) = .float .f32 l := kn.inn 28 rfl rfl
          have e2 : ev (.tmp 37) = .float .f32 (T1.hea c) := kn.inn 37 rfl rfl
          obtain ⟨nn, rfl⟩ := hC
          exact good_of (v := .float .f32 (fres .sub l (T1.hea c) (W3.drewN nn))) (w' := W3.drewN (nn + fcnt .sub l (T1.hea c))) rfl (by simp [execOp, e1, e2, kn.con, run_fsub, go_sem]) ⟨_, rfl⟩ trivial ⟨_, rfl, by rw [cn_res, fop_eq rfl rfl, cn_fop]⟩
        refine steps_cons (step_go rfl fun ev w1 hC kn => ?_) ?_
        · have e1 : ev (.tmp 22) = .int .i64 k := kn.inn 22 rfl rfl
          exact good_of (v := .int .i64 k) rfl (by simp [execOp, e1, kn.con, go_sem]) hC trivial rfl
        refine steps_cons (step_go rfl fun ev w1 hC kn => ?_) ?_
        · obtain ⟨b1, e1, h1⟩ : ∃ fb, ev (.tmp 38) = .float .f32 fb ∧ cn fb = cn (fop .sub l (T1.hea c)) := kn.inn 38 rfl rfl
          exact good_of (v := .float .f32 b1) rfl (by simp [execOp, e1, kn.con, go_sem]) hC trivial ⟨_, rfl, h1⟩
        refine steps_cons (step_go rfl fun ev w1 hC kn => ?_) ?_
        · exact good_of (v := .int .i64 0) rfl (by simp [execOp, kn.con, go_sem]) hC trivial rfl
        exact steps_nil
      rintro xv w1 hxv hC
      have y4 : xv 4 = .int .i64 k := hxv 4 (by decide)
      obtain ⟨b5, y5, g5⟩ : ∃ fb, xv 5 = .float .f32 fb ∧ cn fb = cn (fop .sub l (T1.hea c)) := hxv 5 (by decide)
      have y6 : xv 6 = .int .i64 0 := hxv 6 (by decide)
      obtain ⟨n, rfl⟩ := hC
      simp only [fill, dstsOf, List.filterMap_cons, List.filterMap_nil, List.foldl_cons, List.foldl_nil, List.set_cons_succ, List.set_cons_zero, y4, y5, y6]
      clear hxv y4 y5 y6
      go_wp2_with fail
      go_ret3
      exact ⟨_, by rw [HZ.out.1, HZ.out.2.2]; rfl, by rw [HZ.out.2.1, HW.out]; exact g5, by rw [hy]; exact below_drewN hbel3 _⟩
  · have h1 : (T2 != 0) = true := by simpa using h0
    have HZ : Hid (R = 0 ∧ F = 0 ∧ V = T2) := Lib.hid (by
      have := HF.out
      rw [if_neg h0] at this
      injection this with e1 e2
      injection e2 with e2 e3
      exact ⟨e1, e2, e3⟩)
    clear h0
    go_wp2_with fail
    go_ret3
    exact ⟨_, by rw [HZ.out.1, HZ.out.2.2]; rfl, by rw [HZ.out.2.1], hbel⟩
end Go.Proofs.YtdnnjahdcabdmaaGreatDoor
