import Derived.Test.YtdnnjahdcabdmaaGreatDoorMD19
import Derived.Test.YtdnnjahdcabdmaaGreatDoorMD12
/- Sweeps over a ground: the walks through the program's functions and the reference's. -/
namespace Go.Proofs.YtdnnjahdcabdmaaGreatDoor
open Go.ChangeShapes Go.WideShapes Go.ChangeAt Go.RowKit
set_option linter.unusedVariables false
set_option linter.unusedSimpArgs false
attribute [local irreducible] Calls

def tolR (g G : Gr) : Gr := if validG G then G else zeroG
def tolM (g G : Gr) : Nat := if validG G then chg g G else 0
def tolC (g G : Gr) : Int := if validG G then 0 else 4

set_option maxRecDepth 100000 in
set_option maxHeartbeats 400000 in
theorem toldGround_any (g G : Gr) (b r : Nat) (hg : g.ok) (hG : G.ok) (hv : validG g = true) (hw : g.wide = G.wide) (hh : g.high = G.high) (w : World) (hb : GAt w b g) (hO : Blk w r G.cells 30) :
    Calls Tryz.prog 172 #[.pointer (some ⟨b, 0, none⟩), .pointer (some ⟨r, 0, none⟩)] w fun e w' => e = .returned (.tuple #[.agg (tolR g G).cells, .float .f32 (tolM g G), .int .i64 (tolC g G)]) ∧ Below w.heap.size w w' := by
  have hvg := fun w' => validGround_any G hG w'
  have hch := fun (hv' : validG G = true) w' h h' => change_any g G b r hg hv hv' hw hh w' h h'
  obtain ⟨R, hR⟩ : ∃ R, R = (tolR g G).cells := ⟨_, rfl⟩
  obtain ⟨M, hM⟩ : ∃ M, M = tolM g G := ⟨_, rfl⟩
  obtain ⟨V, hV⟩ : ∃ V, V = tolC g G := ⟨_, rfl⟩
  rw [← hR, ← hM, ← hV]
  unfold tolR at hR
  unfold tolM at hM
  unfold tolC at hV
  have lb := hb.lt
  go_enter Tryz.func172, Tryz.ntmps172
  go_upto_region 1 with (refine wpList_alloc_as rfl rfl zero66z ?_)
  have hS := Blk.new w zeroG.cells 30
  have hb := hb.alloc (.cells zeroG.cells 30)
  have hO := hO.alloc (.cells zeroG.cells 30)
  have hbel := below1 w (.cells zeroG.cells 30)
  generalize w.alloc (.cells zeroG.cells 30) = W at *
  have lS := hS.lt
  have lO := hO.lt
  have lb2 := hb.lt
  cases h1 : validG G
  · rw [h1] at hvg hR hM hV
    have HF := Lib.hid (And.intro hR (And.intro hM hV))
    clear hR hM hV h1
    go_wp2_with (first | (refine wpList_load_blk rfl rfl rfl row66 hO (Gr.size _) ?_) | (go_at_call 32; refine (hvg _).mono ?_; rintro e w4 ⟨rfl, hb4⟩; have hS4 := hS.below hb4 lS) | (refine wpList_zero rfl rfl built66 ?_) | (refine wpList_store_blk rfl rfl rfl rfl row66 hS4 zeroG.size zeroG.size zeroG.one ?_))
    refine bodyPost_row3 rfl rfl row66 (hS4.setRow _) zeroG.size rfl ⟨?_, below_setRow (hbel.trans (hb4.mono hbel.size)) (by omega) _⟩
    rw [HF.out.1, HF.out.2.1, HF.out.2.2]; rfl
  · have hch := hch h1
    rw [h1] at hvg hR hM hV
    have HF := Lib.hid (And.intro hR (And.intro hM hV))
    clear hR hM hV h1
    go_upto_region 3 with (first | (refine wpList_load_blk rfl rfl rfl row66 hO (Gr.size _) ?_) | (go_at_call 32; refine (hvg _).mono ?_; rintro e w4 ⟨rfl, hb4⟩))
    have hS := hS.below hb4 lS
    have hO := hO.below hb4 lO
    have hb := hb.below hb4 lb2
    have hbel := hbel.trans (hb4.mono hbel.size)
    clear hb4 lS lO lb2
    have lS := hS.lt
    have lO := hO.lt
    have lb2 := hb.lt
    generalize chg g G = X at *
    refine wp_splitK 6 (C := fun w' => Below w4.heap.size w4 w') (R := fun w w' => Below w.heap.size w w') (F := fun _ dd vv => match dd, vv with
      | 13, vv => vv = .pointer (some ⟨r, 0, none⟩)
      | 14, vv => vv = .pointer (some ⟨r, 0, none⟩)
      | 15, vv => vv = .agg G.cells
      | 16, vv => vv = .pointer (some ⟨b, 0, none⟩)
      | 17, vv => vv = .pointer (some ⟨r, 0, none⟩)
      | 18, vv => vv = .float .f32 X
      | _, _ => True) (fun _ _ _ _ _ h => h) (by kernel_rfl) (by kernel_rfl) (by kernel_rfl) (Below.refl _ _).drew ?_ ?_
    · refine ⟨step_go rfl fun ev w1 hC kn => ?_, ?_⟩
      · have e1 : ev (.tmp 1) = .pointer (some ⟨r, 0, none⟩) := kn.out 1 rfl rfl rfl
        exact good_of (v := .pointer (some ⟨r, 0, none⟩)) rfl (by simp [execOp, e1, kn.con, go_sem]) hC (Below.refl _ _) rfl
      refine ⟨step_go rfl fun ev w1 hC kn => ?_, ?_⟩
      · have e1 : ev (.tmp 13) = .pointer (some ⟨r, 0, none⟩) := kn.inn 13 rfl rfl
        exact good_of (v := .pointer (some ⟨r, 0, none⟩)) rfl (by simp [execOp, e1, kn.con, go_sem]) hC (Below.refl _ _) rfl
      refine ⟨step_go rfl fun ev w1 hC kn => ?_, ?_⟩
      · have e1 : ev (.tmp 14) = .pointer (some ⟨r, 0, none⟩) := kn.inn 14 rfl rfl
        exact good_of (v := .agg G.cells) rfl (load_blk e1 row66 (hO.below hC lO) (Gr.size _)) hC (Below.refl _ _) rfl
      refine ⟨step_go rfl fun ev w1 hC kn => ?_, ?_⟩
      · have e1 : ev (.tmp 0) = .pointer (some ⟨b, 0, none⟩) := kn.out 0 rfl rfl rfl
        exact good_of (v := .pointer (some ⟨b, 0, none⟩)) rfl (by simp [execOp, e1, kn.con, go_sem]) hC (Below.refl _ _) rfl
      refine ⟨step_go rfl fun ev w1 hC kn => ?_, ?_⟩
      · have e1 : ev (.tmp 1) = .pointer (some ⟨r, 0, none⟩) := kn.out 1 rfl rfl rfl
        exact good_of (v := .pointer (some ⟨r, 0, none⟩)) rfl (by simp [execOp, e1, kn.con, go_sem]) hC (Below.refl _ _) rfl
      refine ⟨step_go rfl fun ev w1 hC kn => ?_, ?_⟩
      · have e1 : ev (.tmp 16) = .pointer (some ⟨b, 0, none⟩) := kn.inn 16 rfl rfl
        have e2 : ev (.tmp 17) = .pointer (some ⟨r, 0, none⟩) := kn.inn 17 rfl rfl
        refine good_call (f := 191) (args := #[.pointer (some ⟨b, 0, none⟩), .pointer (some ⟨r, 0, none⟩)]) rfl (by simp [execOp, e1, e2, kn.fn, kn.con, go_sem]) ((hch w1 (hb.below hC lb2) (hO.gat.below hC lO)).mono fun e w2 ⟨he, hb⟩ => ⟨_, he, hC.trans (hb.mono hC.size), hb, rfl⟩)
      exact trivial
    rintro xv w1 hxv hC
    have y15 : xv 15 = .agg G.cells := hxv 15 (by decide)
    have y18 : xv 18 = .float .f32 X := hxv 18 (by decide)
    simp only [fill, dstsOf, List.filterMap_cons, List.filterMap_nil, List.foldl_cons, List.foldl_nil, List.set_cons_succ, List.set_cons_zero, List.take_succ_cons, List.take_zero, List.drop_succ_cons, List.drop_zero, y15, y18]
    clear hxv y15 y18
    go_wp2_with (refine wpList_store_blk rfl rfl rfl rfl row66 (hS.below hC lS) zeroG.size (Gr.size _) (Gr.one _) ?_)
    refine bodyPost_row3 rfl rfl row66 ((hS.below hC lS).setRow _) (Gr.size _) rfl ⟨?_, below_setRow (hbel.trans (hC.mono hbel.size)) (by omega) _⟩
    rw [HF.out.1, HF.out.2.1, HF.out.2.2]; rfl

set_option maxRecDepth 100000 in
set_option maxHeartbeats 400000 in
theorem l02Swept_any (g G : Gr) (b r : Nat) (hg : g.ok) (hG : G.ok) (hv : validG g = true) (hw : g.wide = G.wide) (hh : g.high = G.high) (w : World) (hb : GAt w b g) (hO : Blk w r G.cells 30) :
    Calls Tryz.prog 174 #[.pointer (some ⟨b, 0, none⟩), .pointer (some ⟨r, 0, none⟩)] w fun e w' => ∃ m, e = .returned (.tuple #[.agg (tolR g G).cells, .float .f32 m, .int .i64 (tolC g G)]) ∧ Ieee.single.read m = Ieee.single.read (tolM g G) ∧ Below w.heap.size w w' := by
  have hvg := fun w' h => l01Ok_any G r hG w' h
  have hch := fun (hv' : validG G = true) w' h h' => l02Change_any g G b r hg hv hv' hw hh w' h h'
  obtain ⟨R, hR⟩ : ∃ R, R = (tolR g G).cells := ⟨_, rfl⟩
  obtain ⟨M, hM⟩ : ∃ M, M = tolM g G := ⟨_, rfl⟩
  obtain ⟨V, hV⟩ : ∃ V, V = tolC g G := ⟨_, rfl⟩
  rw [← hR, ← hM, ← hV]
  unfold tolR at hR
  unfold tolM at hM
  unfold tolC at hV
  have lb := hb.lt
  go_enter Tryz.func174, Tryz.ntmps174
  go_upto_region 1 with (refine wpList_alloc_as rfl rfl zero66z ?_)
  have hS := Blk.new w zeroG.cells 30
  have hb := hb.alloc (.cells zeroG.cells 30)
  have hO := hO.alloc (.cells zeroG.cells 30)
  have hbel := below1 w (.cells zeroG.cells 30)
  generalize w.alloc (.cells zeroG.cells 30) = W at *
  cases h1 : validG G
  · rw [h1] at hvg hR hM hV
    have HF := Lib.hid (And.intro hR (And.intro hM hV))
    clear hR hM hV h1
    go_wp2_with (first | (go_at_call 78; refine (hvg _ hO.gat).mono ?_; rintro e w4 ⟨rfl, m4, rfl⟩) | (refine wpList_zero rfl rfl built66 ?_) | (refine wpList_store_blk rfl rfl rfl rfl row66 (hS.drewN _) zeroG.size zeroG.size zeroG.one ?_))
    refine bodyPost_row3 rfl rfl row66 ((hS.drewN _).setRow _) zeroG.size rfl ⟨_, ?_, by rw [HF.out.2.1], below_setRow (below_drewN hbel _) (by omega) _⟩
    rw [HF.out.1, HF.out.2.2]; rfl
  · have hch := hch h1
    rw [h1] at hvg hR hM hV
    have HF := Lib.hid (And.intro hR (And.intro hM hV))
    clear hR hM hV h1
    go_upto_region 3 with (go_at_call 78; refine (hvg _ hO.gat).mono ?_; rintro e w4 ⟨rfl, m4, rfl⟩)
    have hS := hS.drewN m4
    have hO := hO.drewN m4
    have hb := hb.drewN m4
    have hbel := below_drewN hbel m4
    generalize W.drewN m4 = w4 at *
    have lS := hS.lt
    have lO := hO.lt
    have lb2 := hb.lt
    generalize chg g G = X at *
    refine wp_splitK 6 (C := fun w' => Below w4.heap.size w4 w') (R := fun w w' => Below w.heap.size w w') (F := fun _ dd vv => match dd, vv with
      | 11, vv => vv = .pointer (some ⟨r, 0, none⟩)
      | 12, vv => vv = .pointer (some ⟨r, 0, none⟩)
      | 13, vv => vv = .agg G.cells
      | 14, vv => vv = .pointer (some ⟨b, 0, none⟩)
      | 15, vv => vv = .pointer (some ⟨r, 0, none⟩)
      | 16, vv => ∃ fb, vv = .float .f32 fb ∧ Ieee.single.read fb = Ieee.single.read (X)
      | _, _ => True) (fun _ _ _ _ _ h => h) (by kernel_rfl) (by kernel_rfl) (by kernel_rfl) (Below.refl _ _).drew ?_ ?_
    · refine ⟨step_go rfl fun ev w1 hC kn => ?_, ?_⟩
      · have e1 : ev (.tmp 1) = .pointer (some ⟨r, 0, none⟩) := kn.out 1 rfl rfl rfl
        exact good_of (v := .pointer (some ⟨r, 0, none⟩)) rfl (by simp [execOp, e1, kn.con, go_sem]) hC (Below.refl _ _) rfl
      refine ⟨step_go rfl fun ev w1 hC kn => ?_, ?_⟩
      · have e1 : ev (.tmp 11) = .pointer (some ⟨r, 0, none⟩) := kn.inn 11 rfl rfl
        exact good_of (v := .pointer (some ⟨r, 0, none⟩)) rfl (by simp [execOp, e1, kn.con, go_sem]) hC (Below.refl _ _) rfl
      refine ⟨step_go rfl fun ev w1 hC kn => ?_, ?_⟩
      · have e1 : ev (.tmp 12) = .pointer (some ⟨r, 0, none⟩) := kn.inn 12 rfl rfl
        exact good_of (v := .agg G.cells) rfl (load_blk e1 row66 (hO.below hC lO) (Gr.size _)) hC (Below.refl _ _) rfl
      refine ⟨step_go rfl fun ev w1 hC kn => ?_, ?_⟩
      · have e1 : ev (.tmp 0) = .pointer (some ⟨b, 0, none⟩) := kn.out 0 rfl rfl rfl
        exact good_of (v := .pointer (some ⟨b, 0, none⟩)) rfl (by simp [execOp, e1, kn.con, go_sem]) hC (Below.refl _ _) rfl
      refine ⟨step_go rfl fun ev w1 hC kn => ?_, ?_⟩
      · have e1 : ev (.tmp 1) = .pointer (some ⟨r, 0, none⟩) := kn.out 1 rfl rfl rfl
        exact good_of (v := .pointer (some ⟨r, 0, none⟩)) rfl (by simp [execOp, e1, kn.con, go_sem]) hC (Below.refl _ _) rfl
      refine ⟨step_go rfl fun ev w1 hC kn => ?_, ?_⟩
      · have e1 : ev (.tmp 14) = .pointer (some ⟨b, 0, none⟩) := kn.inn 14 rfl rfl
        have e2 : ev (.tmp 15) = .pointer (some ⟨r, 0, none⟩) := kn.inn 15 rfl rfl
        refine good_call (f := 193) (args := #[.pointer (some ⟨b, 0, none⟩), .pointer (some ⟨r, 0, none⟩)]) rfl (by simp [execOp, e1, e2, kn.fn, kn.con, go_sem]) ((hch w1 (hb.below hC lb2) (hO.gat.below hC lO)).mono fun e w2 ⟨r, he, hr, q, hw⟩ => ⟨_, he, by rw [hw]; exact below_drewN hC _, by rw [hw]; exact below_drewN (Below.refl _ _) _, r, rfl, hr⟩)
      exact trivial
    rintro xv w1 hxv hC
    have y13 : xv 13 = .agg G.cells := hxv 13 (by decide)
    obtain ⟨b16, y16, g16⟩ : ∃ fb, xv 16 = .float .f32 fb ∧ Ieee.single.read fb = Ieee.single.read (X) := hxv 16 (by decide)
    simp only [fill, dstsOf, List.filterMap_cons, List.filterMap_nil, List.foldl_cons, List.foldl_nil, List.set_cons_succ, List.set_cons_zero, List.take_succ_cons, List.take_zero, List.drop_succ_cons, List.drop_zero, y13, y16]
    clear hxv y13 y16
    have HG := Lib.hid g16
    clear g16
    go_wp2_with (refine wpList_store_blk rfl rfl rfl rfl row66 (hS.below hC lS) zeroG.size (Gr.size _) (Gr.one _) ?_)
    refine bodyPost_row3 rfl rfl row66 ((hS.below hC lS).setRow _) (Gr.size _) rfl ⟨b16, ?_, by rw [HF.out.2.1]; exact HG.out, below_setRow (hbel.trans (hC.mono hbel.size)) (by omega) _⟩
    rw [HF.out.1, HF.out.2.2]; rfl
end Go.Proofs.YtdnnjahdcabdmaaGreatDoor
/- A sweep over a ground: the walks through the program's sweep and the reference's. -/
namespace Go.Proofs.YtdnnjahdcabdmaaGreatDoor
open Go.ChangeShapes Go.WideShapes Go.ChangeAt Go.RowKit
set_option linter.unusedVariables false
set_option linter.unusedSimpArgs false
attribute [local irreducible] Calls

def swp (G : Gr) (k : Nat) : Gr := { G with hea := upd G.hea k (sett G k) }
def sweepL (g : Gr) (l : List Nat) : Gr := l.foldl swp g
def sweepG (g : Gr) : Gr := sweepL g (cellsTo g 64)
theorem sweepL_snoc (g : Gr) (l : List Nat) (k : Nat) : sweepL g (l ++ [k]) = swp (sweepL g l) k := by unfold sweepL; rw [List.foldl_append]; rfl
theorem swp_al {g g' : Gr} (hs : g.small) (h : GrEq g g') {k b : Nat} (hk : k < 64) (hb : cn b = cn (sett g k)) : GrEq { g with hea := upd g.hea k b } (swp g' k) := by
  unfold swp
  exact h.upd (by rw [hb, sett_al hs h k hk])
theorem dsz_al {g G G' : Gr} (h : GrEq G G') (k : Nat) (hk : k < 64) : dsz g G k = dsz g G' k := by
  unfold dsz dif; rw [fop_eq (h.hea k hk) rfl]
theorem mxFold_congr {v v' : Nat → Nat} : ∀ (l : List Nat) (m : Nat), (∀ k, k ∈ l → v k = v' k) → l.foldl (mxStep v) m = l.foldl (mxStep v') m
  | [], _, _ => rfl
  | a :: l, m, h => by
    rw [List.foldl_cons, List.foldl_cons, show mxStep v m a = mxStep v' m a by unfold mxStep; rw [h a (List.mem_cons_self ..)]]
    exact mxFold_congr l _ fun k hk => h k (List.mem_cons_of_mem _ hk)
theorem mx_congr {v v' : Nat → Nat} {l : List Nat} (h : ∀ k, k ∈ l → v k = v' k) : mx v l = mx v' l := by
  cases l with
  | nil => rfl
  | cons c r => show r.foldl (mxStep v) (v c) = r.foldl (mxStep v') (v' c); rw [h c (List.mem_cons_self ..)]; exact mxFold_congr r _ fun k hk => h k (List.mem_cons_of_mem _ hk)
theorem chg_al {g G G' : Gr} (h : GrEq G G') : chg g G = chg g G' := mx_congr fun k hk => dsz_al h k (cellsTo_mem.1 hk).1
theorem tol_al {g G G' : Gr} (h : GrEq G G') : (tolR g G).cells = (tolR g G').cells ∧ tolM g G = tolM g G' ∧ tolC g G = tolC g G' := by
  unfold tolR tolM tolC
  rw [validG_al h, chg_al h]
  cases hv : validG G'
  · exact ⟨rfl, rfl, rfl⟩
  · exact ⟨h.cells hv, rfl, rfl⟩
theorem tolR_ok {g G : Gr} (h : G.ok) : (tolR g G).ok := by
  unfold tolR; split
  · exact h
  · exact zeroG_ok
theorem swp_same (G : Gr) (k : Nat) : (swp G k).wide = G.wide ∧ (swp G k).high = G.high ∧ (swp G k).fix = G.fix := ⟨rfl, rfl, rfl⟩
theorem sweepL_same (g : Gr) : ∀ (l : List Nat), (sweepL g l).wide = g.wide ∧ (sweepL g l).high = g.high ∧ (sweepL g l).fix = g.fix := fun l => by
  unfold sweepL
  induction l generalizing g with
  | nil => exact ⟨rfl, rfl, rfl⟩
  | cons a l ih => rw [List.foldl_cons]; exact ih (swp g a)
theorem sweepG_ok {g : Gr} (h : g.ok) : (sweepG g).ok := by
  obtain ⟨h1, h2, h3⟩ := sweepL_same g (cellsTo g 64)
  exact ⟨by unfold sweepG; rw [h1]; exact h.wide, by unfold sweepG; rw [h2]; exact h.high, by unfold sweepG; rw [h3]; exact h.fix⟩
theorem cellsTo_next (g : Gr) (k : Nat) : cellsTo g (k + 1) = if isC g k then cellsTo g k ++ [k] else cellsTo g k := by
  unfold cellsTo; rw [List.range_succ, List.filter_append]
  cases h : isC g k <;> simp [h]

set_option maxRecDepth 100000 in
set_option maxHeartbeats 400000 in
theorem sweep_any (g : Gr) (b p c : Nat) (hg : g.ok) (hv : validG g = true) (w : World) (hb : GAt w b g) (hown : Own w p 3 1 (.slice (some ⟨p, 0, none⟩) (cellsTo g 64).length c) (cellsTo g 64).length (ils (cellsTo g 64))) :
    Calls Tryz.prog 145 #[.pointer (some ⟨b, 0, none⟩), .slice (some ⟨p, 0, none⟩) (cellsTo g 64).length c] w fun e w' => e = .returned (.tuple #[.agg (tolR g (sweepG g)).cells, .float .f32 (tolM g (sweepG g)), .int .i64 (tolC g (sweepG g))]) ∧ Below w.heap.size w w' := by
  obtain ⟨R, hR⟩ : ∃ R, R = (tolR g (sweepG g)).cells := ⟨_, rfl⟩
  obtain ⟨M, hM⟩ : ∃ M, M = tolM g (sweepG g) := ⟨_, rfl⟩
  obtain ⟨V, hV⟩ : ∃ V, V = tolC g (sweepG g) := ⟨_, rfl⟩
  rw [← hR, ← hM, ← hV]
  have hsm := validG_small hv
  have HK : Hid (∀ k, k ∈ cellsTo g 64 → k < 64) := Lib.hid fun k h => (cellsTo_mem.1 h).1
  have HF : Hid (∀ G, GrEq G (sweepL g (cellsTo g 64)) → R = (tolR g G).cells ∧ M = tolM g G ∧ V = tolC g G) := Lib.hid fun G h => by
    have := tol_al (g := g) h
    rw [this.1, this.2.1, this.2.2]; exact ⟨hR, hM, hV⟩
  have hlen := cellsTo_length g 64
  clear hR hM hV
  generalize cellsTo g 64 = L at *
  have lb := hb.lt
  have lp := hown.lt
  obtain ⟨_, hcap, hc1, hc2⟩ := hown.form
  injection hcap with _ _ hcap
  subst hcap
  go_enter Tryz.func145, Tryz.ntmps145
  go_upto_region 1 with (refine wpList_alloc_as rfl rfl zero66z ?_)
  have hS := Blk.new w zeroG.cells 30
  have hb := hb.alloc (.cells zeroG.cells 30)
  have hown := hown.alloc (.cells zeroG.cells 30)
  have hbel := below1 w (.cells zeroG.cells 30)
  generalize w.alloc (.cells zeroG.cells 30) = W at *
  have lS := hS.lt
  go_upto_region 2 with (first | (refine wpList_load_gat rfl rfl rfl row66 hb ?_) | (refine wpList_alloc_as rfl rfl zero66z ?_) | (refine wpList_store_last rfl rfl rfl rfl rfl (by rw [g.size]; kernel_rfl) (by rw [g.size, zeroG.size]) (List.all_eq_true.2 g.one) ?_))
  have hO := Blk.new W g.cells 30
  have hS := hS.alloc (.cells g.cells 30)
  have hb := hb.alloc (.cells g.cells 30)
  have hown := hown.alloc (.cells g.cells 30)
  have hbel := hbel.alloc hbel.size (.cells g.cells 30)
  have r1 : p < W.heap.size := by omega
  have r2 : b < W.heap.size := by omega
  generalize W.alloc (.cells g.cells 30) = W2 at *
  generalize W.heap.size = r at *
  go_upto_region 3 with fail
  go_loopw [15] (fun i wr => ∃ (j : Nat) (hh : Nat → Nat), j ≤ L.length ∧ i = .int .i64 j ∧ Hid (GrEq ({ g with hea := hh } : Gr) (sweepL g (L.take j))) ∧ Blk wr w.heap.size zeroG.cells 30 ∧ Blk wr r ({ g with hea := hh } : Gr).cells 30 ∧ GAt wr b g ∧ Own wr p 3 1 (.slice (some ⟨p, 0, none⟩) L.length c) L.length (ils L) ∧ Below w.heap.size w wr) (fun i _ => L.length - (intOf i).toNat)
  case atStart => exact ⟨0, g.hea, by omega, rfl, Lib.hid (GrEq.refl g), hS, hO, hb, hown, hbel⟩
  case round =>
    clear hS hO hb hown hbel
    obtain ⟨j, hh, hj, rfl, hhh, hS, hO, hb, hown, hbel⟩ := hrel
    by_cases hlt : j < L.length
    · obtain ⟨k, hk⟩ : ∃ k, L[j]? = some k := ⟨_, List.getElem?_eq_getElem hlt⟩
      have hk64 := HK.out k (List.mem_of_getElem? hk)
      have HT : Hid (L.take (j + 1) = L.take j ++ [k]) := Lib.hid (by rw [List.take_add_one, hk]; rfl)
      have c0 : wr.cell? ⟨p, j, none⟩ = some (.int .i64 k) := (hown.cell _ (by omega)).trans (ils_get _ _ _ hk)
      clear hk
      have bk : (0 : Int) ≤ k := by omega
      have bl : (k : Int) < 64 := by omega
      have bj : (0 : Int) ≤ j := by omega
      have hst := settled_any ({ g with hea := hh } : Gr) r k ⟨hg.wide, hg.high, hg.fix⟩ hsm hk64 wr hO.gat
      have c1 := fun n => ((hO.drewN n).gat.getH k hk64)
      have f1 := fun n => (hO.drewN n).free (130 + k)
      go_wp2_with (go_at_call 171; refine hst.mono ?_; rintro e w' ⟨b1, rfl, hb1, n, rfl⟩; have HB := Lib.hid hb1; clear hb1; have c1 := c1 n; have f1 := f1 n)
      go_roundw
      case rel =>
        refine ⟨j + 1, upd hh k b1, by omega, by go_num, Lib.hid ?_, (hS.drewN n).setOther (a := ⟨r, 130 + k, none⟩) _ (by show w.heap.size ≠ r; omega), ?_, (hb.drewN n).move (heap_setCell_other _ ⟨r, 130 + k, none⟩ b _ (by show b ≠ r; omega)), (hown.drewN n).setOther (a := ⟨r, 130 + k, none⟩) _ (by show p ≠ r; omega), (below_drewN hbel n).setCell (p := ⟨r, 130 + k, none⟩) (by show w.heap.size ≤ r; omega) _⟩
        · rw [HT.out, sweepL_snoc]
          exact swp_al (g := { g with hea := hh }) hsm hhh.out hk64 HB.out
        · have := (hO.drewN n).setCell (130 + k) (.float .f32 b1)
          rw [Gr.setH _ _ _ hk64] at this
          exact this
      case measure => simp [intOf]; omega
    · obtain rfl : j = L.length := by omega
      have HE := HF.out { g with hea := hh } (by have := hhh.out; rwa [List.take_length] at this)
      have HE := Lib.hid HE
      have hto := toldGround_any g ({ g with hea := hh } : Gr) b r hg ⟨hg.wide, hg.high, hg.fix⟩ hv rfl rfl wr hb hO
      have lS := hS.lt
      go_wp2_with (first | (go_at_call 172; refine hto.mono ?_; rintro e w4 ⟨rfl, hb4⟩; have hS := hS.below hb4 lS) | (refine wpList_store_blk rfl rfl rfl rfl row66 hS zeroG.size (Gr.size _) (Gr.one _) ?_))
      refine bodyPost_row3 rfl rfl row66 (hS.setRow _) (Gr.size _) rfl ⟨?_, below_setRow (hbel.trans (hb4.mono hbel.size)) (by omega) _⟩
      rw [HE.out.1, HE.out.2.1, HE.out.2.2]; rfl

set_option maxRecDepth 100000 in
set_option maxHeartbeats 400000 in
theorem l02Sweep_any (g : Gr) (b : Nat) (hg : g.ok) (hv : validG g = true) (w : World) (hb : GAt w b g) :
    Calls Tryz.prog 146 #[.pointer (some ⟨b, 0, none⟩), .int .i64 (-1)] w fun e w' => ∃ m, e = .returned (.tuple #[.agg (tolR g (sweepG g)).cells, .float .f32 m, .int .i64 (tolC g (sweepG g))]) ∧ Ieee.single.read m = Ieee.single.read (tolM g (sweepG g)) ∧ Below w.heap.size w w' := by
  obtain ⟨R, hR⟩ : ∃ R, R = (tolR g (sweepG g)).cells := ⟨_, rfl⟩
  obtain ⟨M, hM⟩ : ∃ M, M = tolM g (sweepG g) := ⟨_, rfl⟩
  obtain ⟨V, hV⟩ : ∃ V, V = tolC g (sweepG g) := ⟨_, rfl⟩
  rw [← hR, ← hM, ← hV]
  have hsm := validG_small hv
  have HF : Hid (∀ G, GrEq G (sweepL g (cellsTo g 64)) → R = (tolR g G).cells ∧ M = tolM g G ∧ V = tolC g G) := Lib.hid fun G h => by
    have := tol_al (g := g) h
    rw [this.1, this.2.1, this.2.2]; exact ⟨hR, hM, hV⟩
  clear hR hM hV
  have lb := hb.lt
  go_enter Tryz.func146, Tryz.ntmps146
  go_upto_region 1 with (refine wpList_alloc_as rfl rfl zero66z ?_)
  have hS := Blk.new w zeroG.cells 30
  have hb := hb.alloc (.cells zeroG.cells 30)
  have hbel := below1 w (.cells zeroG.cells 30)
  generalize w.alloc (.cells zeroG.cells 30) = W at *
  have lS := hS.lt
  go_upto_region 2 with (first | (refine wpList_load_gat rfl rfl rfl row66 hb ?_) | (refine wpList_alloc_as rfl rfl zero66z ?_) | (refine wpList_store_last rfl rfl rfl rfl rfl (by rw [g.size]; kernel_rfl) (by rw [g.size, zeroG.size]) (List.all_eq_true.2 g.one) ?_))
  have hO := Blk.new W g.cells 30
  have hS := hS.alloc (.cells g.cells 30)
  have hb := hb.alloc (.cells g.cells 30)
  have hbel := hbel.alloc hbel.size (.cells g.cells 30)
  have r2 : b < W.heap.size := by omega
  generalize W.alloc (.cells g.cells 30) = W2 at *
  generalize W.heap.size = r at *
  go_upto_region 3 with fail
  go_loopw [8] (fun i wr => ∃ (j : Nat) (hh : Nat → Nat), j ≤ 64 ∧ i = .int .i64 j ∧ Hid (GrEq ({ g with hea := hh } : Gr) (sweepL g (cellsTo g j))) ∧ Blk wr w.heap.size zeroG.cells 30 ∧ Blk wr r ({ g with hea := hh } : Gr).cells 30 ∧ GAt wr b g ∧ Below w.heap.size w wr) (fun i _ => 64 - (intOf i).toNat)
  case atStart => exact ⟨0, g.hea, by omega, rfl, Lib.hid (GrEq.refl g), hS, hO, hb, hbel⟩
  case round =>
    clear hS hO hb hbel
    obtain ⟨k, hh, hj, rfl, hhh, hS, hO, hb, hbel⟩ := hrel
    by_cases hk64 : k < 64
    · have bk : (0 : Int) ≤ k := by omega
      have bl : (k : Int) < 64 := by omega
      have his := l01Is_any g b k hg hk64 wr hb
      have HT := Lib.hid (cellsTo_next g k)
      have hst := fun n => l02Head_any ({ g with hea := hh } : Gr) r k ⟨hg.wide, hg.high, hg.fix⟩ hsm hk64 (wr.drewN n) (hO.drewN n).gat
      have hst0 := l02Head_any ({ g with hea := hh } : Gr) r k ⟨hg.wide, hg.high, hg.fix⟩ hsm hk64 wr hO.gat
      have c1 := fun n => ((hO.drewN n).gat.getH k hk64)
      have f1 := fun n => (hO.drewN n).free (130 + k)
      cases hc : isC g k <;> rw [hc] at his
      · have HC := Lib.hid hc
        clear hc
        go_wp2_with (go_at_call 79; refine his.mono ?_; rintro e w' ⟨rfl, hw⟩; rw [hw]; clear hw w')
        go_roundw
        case rel => exact ⟨k + 1, hh, by omega, by go_num, Lib.hid (by rw [HT.out, HC.out]; exact hhh.out), hS, hO, hb, hbel⟩
        case measure => simp [intOf]; omega
      · have HC := Lib.hid hc
        clear hc
        go_wp2_with (first | (go_at_call 79; refine his.mono ?_; rintro e w' ⟨rfl, hw⟩; rw [hw]; clear hw w') | (go_at_call 173; refine hst0.mono ?_; rintro e w' ⟨b1, rfl, hb1, n, rfl⟩; have HB := Lib.hid hb1; clear hb1; have c1 := c1 n; have f1 := f1 n))
        go_roundw
        case rel =>
          refine ⟨k + 1, upd hh k b1, by omega, by go_num, Lib.hid ?_, (hS.drewN n).setOther (a := ⟨r, 130 + k, none⟩) _ (by show w.heap.size ≠ r; omega), ?_, (hb.drewN n).move (heap_setCell_other _ ⟨r, 130 + k, none⟩ b _ (by show b ≠ r; omega)), (below_drewN hbel n).setCell (p := ⟨r, 130 + k, none⟩) (by show w.heap.size ≤ r; omega) _⟩
          · rw [HT.out, HC.out, if_pos rfl, sweepL_snoc]
            exact swp_al (g := { g with hea := hh }) hsm hhh.out hk64 HB.out
          · have := (hO.drewN n).setCell (130 + k) (.float .f32 b1)
            rw [Gr.setH _ _ _ hk64] at this
            exact this
        case measure => simp [intOf]; omega
    · obtain rfl : k = 64 := by omega
      have HE := Lib.hid (HF.out { g with hea := hh } hhh.out)
      have hto := l02Swept_any g ({ g with hea := hh } : Gr) b r hg ⟨hg.wide, hg.high, hg.fix⟩ hv rfl rfl wr hb hO
      have lS := hS.lt
      go_wp2_with (first | (go_at_call 174; refine hto.mono ?_; rintro e w4 ⟨m, rfl, hm, hb4⟩; have hS := hS.below hb4 lS) | (refine wpList_store_blk rfl rfl rfl rfl row66 hS zeroG.size (Gr.size _) (Gr.one _) ?_))
      refine bodyPost_row3 rfl rfl row66 (hS.setRow _) (Gr.size _) rfl ⟨m, ?_, by rw [HE.out.2.1]; exact hm, below_setRow (hbel.trans (hb4.mono hbel.size)) (by omega) _⟩
      rw [HE.out.1, HE.out.2.2]; rfl
end Go.Proofs.YtdnnjahdcabdmaaGreatDoor
