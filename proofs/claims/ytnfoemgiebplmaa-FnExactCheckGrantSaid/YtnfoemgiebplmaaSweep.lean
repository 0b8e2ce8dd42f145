/- Sweeps over a ground: the walks through the program's functions and the reference's. -/
import Derived.Test.YtnfoemgiebplmaaChange
import Derived.Test.YtnfoemgiebplmaaUntil
namespace Go.Proofs.Ytnfoemgiebplmaa
open Go.ChangeShapes Go.WideShapes Go.ChangeAt Go.RowKit
set_option linter.unusedVariables false
set_option linter.unusedSimpArgs false
attribute [local irreducible] Calls

def tolR (g G : Gr) : Gr := if validG G then G else zeroG
def tolM (g G : Gr) : Nat := if validG G then chg g G else 0
def tolC (g G : Gr) : Int := if validG G then 0 else 4

set_option maxRecDepth 100000 in
set_option maxHeartbeats 400000 in
theorem toldGround_any (g G : Gr) (b r : Nat) (hg : g.ok) (hG : G.ok) (hv : validG g = true) (hw : g.wide = G.wide) (hh : g.high = G.high) (w : World) (hb : GAt w b g) (hO : Blk w r G.cells 30) :
    Calls Try.prog 159 #[.pointer (some ⟨b, 0, none⟩), .pointer (some ⟨r, 0, none⟩)] w fun e w' => e = .returned (.tuple #[.agg (tolR g G).cells, .float .f32 (tolM g G), .int .i64 (tolC g G)]) ∧ Below w.heap.size w w' := by
  have hvg := fun w' => validGround_any G hG w'
  have hch := fun (hv' : validG G = true) w' h h' => change_any g G b r hg hv hv' hw hh w' h h'
  obtain ⟨R, hR⟩ : ∃ R, R = (tolR g G).cells := ⟨_, rfl⟩
  obtain ⟨M, hM⟩ : ∃ M, M = tolM g G := ⟨_, rfl⟩
  obtain ⟨V, hV⟩ : ∃ V, V = tolC g G := ⟨_, rfl⟩
  rw [← hR, ← hM, ← hV]
  unfold tolR at hR
  unfold tolM at hM
  unfold tolC at hV
  have lb := hb.lt
  go_enter Try.func159, Try.ntmps159
  go_upto_region 1 with (refine wpList_alloc_as rfl rfl zero66z ?_)
  have hS := Blk.new w zeroG.cells 30
  have hb := hb.alloc (.cells zeroG.cells 30)
  have hO := hO.alloc (.cells zeroG.cells 30)
  have hbel := below1 w (.cells zeroG.cells 30)
  generalize w.alloc (.cells zeroG.cells 30) = W at *
  have lS := hS.lt
  have lO := hO.lt
  have lb2 := hb.lt
  cases h1 : validG G
  · rw [h1] at hvg hR hM hV
    have HF := Lib.hid (And.intro hR (And.intro hM hV))
    clear hR hM hV h1
    go_wp2_with (first | (refine wpList_load_blk rfl rfl rfl row66 hO (Gr.size _) ?_) | (go_at_call 64; refine (hvg _).mono ?_; rintro e w4 ⟨rfl, hb4⟩; have hS4 := hS.below hb4 lS) | (refine wpList_zero rfl rfl built66 ?_) | (refine wpList_store_blk rfl rfl rfl rfl row66 hS4 zeroG.size zeroG.size zeroG.one ?_))
    refine bodyPost_row3 rfl rfl row66 (hS4.setRow _) zeroG.size rfl ⟨?_, below_setRow (hbel.trans (hb4.mono hbel.size)) (by omega) _⟩
    rw [HF.out.1, HF.out.2.1, HF.out.2.2]; rfl
  · have hch := hch h1
    rw [h1] at hvg hR hM hV
    have HF := Lib.hid (And.intro hR (And.intro hM hV))
    clear hR hM hV h1
    go_upto_region 3 with (first | (refine wpList_load_blk rfl rfl rfl row66 hO (Gr.size _) ?_) | (go_at_call 64; refine (hvg _).mono ?_; rintro e w4 ⟨rfl, hb4⟩))
    have hS := hS.below hb4 lS
    have hO := hO.below hb4 lO
    have hb := hb.below hb4 lb2
    have hbel := hbel.trans (hb4.mono hbel.size)
    clear hb4 lS lO lb2
    have lS := hS.lt
    have lO := hO.lt
    have lb2 := hb.lt
    generalize chg g G = X at *
    refine wp_splitK 6 (C := fun w' => Below w4.heap.size w4 w') (R := fun w w' => Below w.heap.size w w') (F := fun _ dd vv => match dd, vv with
      | 13, vv => vv = .pointer (some ⟨r, 0, none⟩)
      | 14, vv => vv = .pointer (some ⟨r, 0, none⟩)
      | 15, vv => vv = .agg G.cells
      | 16, vv => vv = .pointer (some ⟨b, 0, none⟩)
      | 17, vv => vv = .pointer (some ⟨r, 0, none⟩)
      | 18, vv => vv = .float .f32 X
      | _, _ => True) (fun _ _ _ _ _ h => h) (by kernel_rfl) (by kernel_rfl) (by kernel_rfl) (Below.refl _ _).drew ?_ ?_
    · refine ⟨step_go rfl fun ev w1 hC kn => ?_, ?_⟩
      · have e1 : ev (.tmp 1) = .pointer (some ⟨r, 0, none⟩) := kn.out 1 rfl rfl rfl
        exact good_of (v := .pointer (some ⟨r, 0, none⟩)) rfl (by simp [execOp, e1, kn.con, go_sem]) hC (Below.refl _ _) rfl
      refine ⟨step_go rfl fun ev w1 hC kn => ?_, ?_⟩
      · have e1 : ev (.tmp 13) = .pointer (some ⟨r, 0, none⟩) := kn.inn 13 rfl rfl
        exact good_of (v := .pointer (some ⟨r, 0, none⟩)) rfl (by simp [execOp, e1, kn.con, go_sem]) hC (Below.refl _ _) rfl
      refine ⟨step_go rfl fun ev w1 hC kn => ?_, ?_⟩
      · have e1 : ev (.tmp 14) = .pointer (some ⟨r, 0, none⟩) := kn.inn 14 rfl rfl
        exact good_of (v := .agg G.cells) rfl (load_blk e1 row66 (hO.below hC lO) (Gr.size _)) hC (Below.refl _ _) rfl
      refine ⟨step_go rfl fun ev w1 hC kn => ?_, ?_⟩
      · have e1 : ev (.tmp 0) = .pointer (some ⟨b, 0, none⟩) := kn.out 0 rfl rfl rfl
        exact good_of (v := .pointer (some ⟨b, 0, none⟩)) rfl (by simp [execOp, e1, kn.con, go_sem]) hC (Below.refl _ _) rfl
      refine ⟨step_go rfl fun ev w1 hC kn => ?_, ?_⟩
      · have e1 : ev (.tmp 1) = .pointer (some ⟨r, 0, none⟩) := kn.out 1 rfl rfl rfl
        exact good_of (v := .pointer (some ⟨r, 0, none⟩)) rfl (by simp [execOp, e1, kn.con, go_sem]) hC (Below.refl _ _) rfl
      refine ⟨step_go rfl fun ev w1 hC kn => ?_, ?_⟩
      · have e1 : ev (.tmp 16) = .pointer (some ⟨b, 0, none⟩) := kn.inn 16 rfl rfl
        have e2 : ev (.tmp 17) = .pointer (some ⟨r, 0, none⟩) := kn.inn 17 rfl rfl
        refine good_call (f := 162) (args := #[.pointer (some ⟨b, 0, none⟩), .pointer (some ⟨r, 0, none⟩)]) rfl (by simp [execOp, e1, e2, kn.fn, kn.con, go_sem]) ((hch w1 (hb.below hC lb2) (hO.gat.below hC lO)).mono fun e w2 ⟨he, hb⟩ => ⟨_, he, hC.trans (hb.mono hC.size), hb, rfl⟩)
      exact trivial
    rintro xv w1 hxv hC
    have y15 : xv 15 = .agg G.cells := hxv 15 (by decide)
    have y18 : xv 18 = .float .f32 X := hxv 18 (by decide)
    simp only [fill, dstsOf, List.filterMap_cons, List.filterMap_nil, List.foldl_cons, List.foldl_nil, List.set_cons_succ, List.set_cons_zero, List.take_succ_cons, List.take_zero, List.drop_succ_cons, List.drop_zero, y15, y18]
    clear hxv y15 y18
    go_wp2_with (refine wpList_store_blk rfl rfl rfl rfl row66 (hS.below hC lS) zeroG.size (Gr.size _) (Gr.one _) ?_)
    refine bodyPost_row3 rfl rfl row66 ((hS.below hC lS).setRow _) (Gr.size _) rfl ⟨?_, below_setRow (hbel.trans (hC.mono hbel.size)) (by omega) _⟩
    rw [HF.out.1, HF.out.2.1, HF.out.2.2]; rfl

set_option maxRecDepth 100000 in
set_option maxHeartbeats 400000 in
theorem l02Swept_any (g G : Gr) (b r : Nat) (hg : g.ok) (hG : G.ok) (hv : validG g = true) (hw : g.wide = G.wide) (hh : g.high = G.high) (w : World) (hb : GAt w b g) (hO : Blk w r G.cells 30) :
    Calls Try.prog 157 #[.pointer (some ⟨b, 0, none⟩), .pointer (some ⟨r, 0, none⟩)] w fun e w' => ∃ m, e = .returned (.tuple #[.agg (tolR g G).cells, .float .f32 m, .int .i64 (tolC g G)]) ∧ Ieee.single.read m = Ieee.single.read (tolM g G) ∧ Below w.heap.size w w' := by
  have hvg := fun w' h => l01Ok_any G r hG w' h
  have hch := fun (hv' : validG G = true) w' h h' => l02Change_any g G b r hg hv hv' hw hh w' h h'
  obtain ⟨R, hR⟩ : ∃ R, R = (tolR g G).cells := ⟨_, rfl⟩
  obtain ⟨M, hM⟩ : ∃ M, M = tolM g G := ⟨_, rfl⟩
  obtain ⟨V, hV⟩ : ∃ V, V = tolC g G := ⟨_, rfl⟩
  rw [← hR, ← hM, ← hV]
  unfold tolR at hR
  unfold tolM at hM
  unfold tolC at hV
  have lb := hb.lt
  go_enter Try.func157, Try.ntmps157
  go_upto_region 1 with (refine wpList_alloc_as rfl rfl zero66z ?_)
  have hS := Blk.new w zeroG.cells 30
  have hb := hb.alloc (.cells zeroG.cells 30)
  have hO := hO.alloc (.cells zeroG.cells 30)
  have hbel := below1 w (.cells zeroG.cells 30)
  generalize w.alloc (.cells zeroG.cells 30) = W at *
  cases h1 : validG G
  · rw [h1] at hvg hR hM hV
    have HF := Lib.hid (And.intro hR (And.intro hM hV))
    clear hR hM hV h1
    go_wp2_with (first | (go_at_call 75; refine (hvg _ hO.gat).mono ?_; rintro e w4 ⟨rfl, m4, rfl⟩) | (refine wpList_zero rfl rfl built66 ?_) | (refine wpList_store_blk rfl rfl rfl rfl row66 (hS.drewN _) zeroG.size zeroG.size zeroG.one ?_))
    refine bodyPost_row3 rfl rfl row66 ((hS.drewN _).setRow _) zeroG.size rfl ⟨_, ?_, by rw [HF.out.2.1], below_setRow (below_drewN hbel _) (by omega) _⟩
    rw [HF.out.1, HF.out.2.2]; rfl
  · have hch := hch h1
    rw [h1] at hvg hR hM hV
    have HF := Lib.hid (And.intro hR (And.intro hM hV))
    clear hR hM hV h1
    go_upto_region 3 with (go_at_call 75; refine (hvg _ hO.gat).mono ?_; rintro e w4 ⟨rfl, m4, rfl⟩)
    have hS := hS.drewN m4
    have hO := hO.drewN m4
    have hb := hb.drewN m4
    have hbel := below_drewN hbel m4
    generalize W.drewN m4 = w4 at *
    have lS := hS.lt
    have lO := hO.lt
    have lb2 := hb.lt
    generalize chg g G = X at *
    refine wp_splitK 6 (C := fun w' => Below w4.heap.size w4 w') (R := fun w w' => Below w.heap.size w w') (F := fun _ dd vv => match dd, vv with
      | 11, vv => vv = .pointer (some ⟨r, 0, none⟩)
      | 12, vv => vv = .pointer (some ⟨r, 0, none⟩)
      | 13, vv => vv = .agg G.cells
      | 14, vv => vv = .pointer (some ⟨b, 0, none⟩)
      | 15, vv => vv = .pointer (some ⟨r, 0, none⟩)
      | 16, vv => ∃ fb, vv = .float .f32 fb ∧ Ieee.single.read fb = Ieee.single.read (X)
      | _, _ => True) (fun _ _ _ _ _ h => h) (by kernel_rfl) (by kernel_rfl) (by kernel_rfl) (Below.refl _ _).drew ?_ ?_
    · refine ⟨step_go rfl fun ev w1 hC kn => ?_, ?_⟩
      · have e1 : ev (.tmp 1) = .pointer (some ⟨r, 0, none⟩) := kn.out 1 rfl rfl rfl
        exact good_of (v := .pointer (some ⟨r, 0, none⟩)) rfl (by simp [execOp, e1, kn.con, go_sem]) hC (Below.refl _ _) rfl
      refine ⟨step_go rfl fun ev w1 hC kn => ?_, ?_⟩
      · have e1 : ev (.tmp 11) = .pointer (some ⟨r, 0, none⟩) := kn.inn 11 rfl rfl
        exact good_of (v := .pointer (some ⟨r, 0, none⟩)) rfl (by simp [execOp, e1, kn.con, go_sem]) hC (Below.refl _ _) rfl
      refine ⟨step_go rfl fun ev w1 hC kn => ?_, ?_⟩
      · have e1 : ev (.tmp 12) = .pointer (some ⟨r, 0, none⟩) := kn.inn 12 rfl rfl
        exact good_of (v := .agg G.cells) rfl (load_blk e1 row66 (hO.below hC lO) (Gr.size _)) hC (Below.refl _ _) rfl
      refine ⟨step_go rfl fun ev w1 hC kn => ?_, ?_⟩
      · have e1 : ev (.tmp 0) = .pointer (some ⟨b, 0, none⟩) := kn.out 0 rfl rfl rfl
        exact good_of (v := .pointer (some ⟨b, 0, none⟩)) rfl (by simp [execOp, e1, kn.con, go_sem]) hC (Below.refl _ _) rfl
      refine ⟨step_go rfl fun ev w1 hC kn => ?_, ?_⟩
      · have e1 : ev (.tmp 1) = .pointer (some ⟨r, 0, none⟩) := kn.out 1 rfl rfl rfl
        exact good_of (v := .pointer (some ⟨r, 0, none⟩)) rfl (by simp [execOp, e1, kn.con, go_sem]) hC (Below.refl _ _) rfl
      refine ⟨step_go rfl fun ev w1 hC kn => ?_, ?_⟩
      · have e1 : ev (.tmp 14) = .pointer (some ⟨b, 0, none⟩) := kn.inn 14 rfl rfl
        have e2 : ev (.tmp 15) = .pointer (some ⟨r, 0, none⟩) := kn.inn 15 rfl rfl
        refine good_call (f := 161) (args := #[.pointer (some ⟨b, 0, none⟩), .pointer (some ⟨r, 0, none⟩)]) rfl (by simp [execOp, e1, e2, kn.fn, kn.con, go_sem]) ((hch w1 (hb.below hC lb2) (hO.gat.below hC lO)).mono fun e w2 ⟨r, he, hr, q, hw⟩ => ⟨_, he, by rw [hw]; exact below_drewN hC _, by rw [hw]; exact below_drewN (Below.refl _ _) _, r, rfl, hr⟩)
      exact trivial
    rintro xv w1 hxv hC
    have y13 : xv 13 = .agg G.cells := hxv 13 (by decide)
    obtain ⟨b16, y16, g16⟩ : ∃ fb, xv 16 = .float .f32 fb ∧ Ieee.single.read fb = Ieee.single.read (X) := hxv 16 (by decide)
    simp only [fill, dstsOf, List.filterMap_cons, List.filterMap_nil, List.foldl_cons, List.foldl_nil, List.set_cons_succ, List.set_cons_zero, List.take_succ_cons, List.take_zero, List.drop_succ_cons, List.drop_zero, y13, y16]
    clear hxv y13 y16
    have HG := Lib.hid g16
    clear g16
    go_wp2_with (refine wpList_store_blk rfl rfl rfl rfl row66 (hS.below hC lS) zeroG.size (Gr.size _) (Gr.one _) ?_)
    refine bodyPost_row3 rfl rfl row66 ((hS.below hC lS).setRow _) (Gr.size _) rfl ⟨b16, ?_, by rw [HF.out.2.1]; exact HG.out, below_setRow (hbel.trans (hC.mono hbel.size)) (by omega) _⟩
    rw [HF.out.1, HF.out.2.2]; rfl
end Go.Proofs.Ytnfoemgiebplmaa
