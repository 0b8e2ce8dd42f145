import Derived.Test.YtglimhkpndfjgaaMT31
/- The law over fits (FnFits): the walk through the law's own function. -/
namespace Go.Proofs.Ytglimhkpndfjgaa
open Go.ChangeShapes Go.WideShapes Go.ChangeAt Go.RowKit
set_option linter.unusedVariables false
set_option linter.unusedSimpArgs false
attribute [local irreducible] Calls
/-- What lies in memory all along: the aquifer, the site, the aquifer to start from, the readings. -/
structure StF (w0 : World) (b5 b6 b10 : Nat) (T1 S1 : Nat) (s : Si) (T2 S2 : Nat) (v : Value) (n : Nat) (R : Nat → Rg) (w : World) : Prop where
  a : Blk w b5 #[.float .f32 T1, .float .f32 S1] 26
  s : Blk w b6 #[.int .i8 s.px, .int .i8 s.py, .float .f32 s.rt, .int .i8 s.x, .int .i8 s.y] 32
  st : Blk w b10 #[.float .f32 T2, .float .f32 S2] 26
  v : RSl w v n R
  bel : Below w0.heap.size w0 w
theorem StF.below {w0 : World} {b5 b6 b10 T1 S1 : Nat} {s : Si} {T2 S2 : Nat} {v : Value} {n : Nat} {R : Nat → Rg} {w w' : World} (h : StF w0 b5 b6 b10 T1 S1 s T2 S2 v n R w) (hb : Below w.heap.size w w') : StF w0 b5 b6 b10 T1 S1 s T2 S2 v n R w' :=
  ⟨h.a.below hb h.a.lt, h.s.below hb h.s.lt, h.st.below hb h.st.lt, h.v.below hb, h.bel.trans (hb.mono h.bel.size)⟩
/-- Drawn times in memory, the readings that come of such. -/
def TmP (W ww : World) (vv : Value) : Prop := ∃ (g m : Nat) (f : Nat → Int), TmD m f ∧ W.heap.size ≤ g ∧ Own ww g 2 1 vv m (mts m f)
theorem TmP.below {W w w' : World} {v : Value} (h : TmP W w v) (hb : Below w.heap.size w w') : TmP W w' v := by
  obtain ⟨g, m, f, h1, h2, h3⟩ := h
  exact ⟨g, m, f, h1, h2, h3.below hb h3.lt⟩
def RdP (T S : Nat) (s : Si) (W ww : World) (vv : Value) : Prop := ∃ (g m : Nat) (f : Nat → Int), TmD m f ∧ W.heap.size ≤ g ∧ Own ww g 67 2 vv m (rgs m (rdF T S s f))
theorem RdP.below {T S : Nat} {s : Si} {W w w' : World} {v : Value} (h : RdP T S s W w v) (hb : Below w.heap.size w w') : RdP T S s W w' v := by
  obtain ⟨g, m, f, h1, h2, h3⟩ := h
  exact ⟨g, m, f, h1, h2, h3.below hb h3.lt⟩
theorem zeroAqF : ZeroTy Try.prog 26 #[.float .f32 0, .float .f32 0] := by unfold ZeroTy; kernel_rfl
theorem fgt_finF {a b : Nat} (ha : a < 2139095040) (hb : b < 2139095040) : fgt a b = decide (b < a) := fgt_fin ha hb
set_option maxRecDepth 100000 in
set_option maxHeartbeats 40000000 in
theorem lawFits (v1 : Value) (n1 : Nat) (v2 : Value) (n2 : Nat) (w : World) (h1 : BSl w v1 n1) (h2 : BSl w v2 n2) :
    Calls Try.prog 3 #[v1, v2] w fun e w' => e = .returned (.bool true) ∧ Below w.heap.size w w' := by
  have h1' := h1
  have h2' := h2
  obtain ⟨a1, c1, rfl, m1, _⟩ := h1'
  obtain ⟨a2, c2, rfl, m2, _⟩ := h2'
  have hbig1 := fun w' => f6big_any a1 n1 c1 m1 w'
  have hbig2 := fun w' => f6big_any a2 n2 c2 m2 w'
  by_cases l1 : 4096 < n1
  · rw [decide_eq_true l1] at hbig1
    clear h1 h2 m1 m2
    go_enter Try.func3, Try.ntmps3
    go_wp2_with (go_at_call 4; refine (hbig1 _).mono ?_; rintro e w' ⟨rfl, hw⟩; rw [hw]; clear hw w')
    go_ret
    exact ⟨rfl, Below.refl _ _⟩
  by_cases l2 : 4096 < n2
  · rw [decide_eq_false l1] at hbig1
    rw [decide_eq_true l2] at hbig2
    clear h1 h2 m1 m2
    go_enter Try.func3, Try.ntmps3
    go_wp2_with (go_at_call 4; first | (refine (hbig1 _).mono ?_; rintro e w' ⟨rfl, hw⟩; rw [hw]; clear hw w') | (refine (hbig2 _).mono ?_; rintro e w' ⟨rfl, hw⟩; rw [hw]; clear hw w'))
    go_ret
    exact ⟨rfl, Below.refl _ _⟩
  rw [decide_eq_false l1] at hbig1
  rw [decide_eq_false l2] at hbig2
  have q1 : n1 ≤ 4096 := by omega
  have q2 : n2 ≤ 4096 := by omega
  have haq := p6Aquifer_any _ _ w (h1.bytes q1)
  have hsi := fun w' (hb : Below w.heap.size w w') => p6Site_any _ _ w' ((h2.below hb).bytes q2)
  have htm := fun w' (hb : Below w.heap.size w w') => p6Times_any _ _ w' ((h1.below hb).bytes q1)
  have hbt := fun u gu n R hn hR w' (hb : Below w.heap.size w w') hu => p6Bent_any _ _ u gu n R hn hR w' ((h2.below hb).bytes q2) hu
  have haq2 := fun w' (hb : Below w.heap.size w w') => p6Aquifer_any _ _ w' ((h2.below hb).bytes q2)
  have hpk := fun w' (hb : Below w.heap.size w w') => p6Pick_any _ _ 400 (by decide) (by decide) w' ((h1.below hb).bytes q1)
  have HTM := Lib.hid htm
  have HBT := Lib.hid hbt
  have HAQ2 := Lib.hid haq2
  have HPK := Lib.hid hpk
  have HSI := Lib.hid hsi
  clear l1 l2 h1 m1 m2 h2 htm hbt haq2 hpk hsi
  go_enter Try.func3, Try.ntmps3
  go_upto_region 4 with (first | (go_at_call 4; first | (refine (hbig1 _).mono ?_; rintro e w' ⟨rfl, hw⟩; rw [hw]; clear hw w') | (refine (hbig2 _).mono ?_; rintro e w' ⟨rfl, hw⟩; rw [hw]; clear hw w')) | (go_at_call 5; refine haq.mono ?_; rintro e w1 ⟨T1, S1, hD1, rfl, hb1⟩) | (refine wpList_alloc_as rfl rfl zeroAqF ?_) | (refine wpList_store_last rfl rfl rfl rfl rfl (by kernel_rfl) rfl rfl ?_))
  clear hbig1 hbig2 haq
  have hA := Blk.new w1 #[.float .f32 T1, .float .f32 S1] 26
  have hbel := hb1.alloc hb1.size (.cells #[.float .f32 T1, .float .f32 S1] 26)
  clear hb1
  generalize w1.alloc (.cells #[.float .f32 T1, .float .f32 S1] 26) = W1 at *
  obtain ⟨p5, hp5⟩ : ∃ p, w1.heap.size = p := ⟨_, rfl⟩
  rw [hp5] at hA ⊢
  clear hp5
  have hsi := HSI.out _ hbel
  go_upto_region 5 with (first | (go_at_call 6; refine hsi.mono ?_; rintro e w2 ⟨s, hsD, rfl, hb2⟩; rw [s.cells_eq]) | (refine wpList_alloc_as rfl rfl zeroSi ?_) | (refine wpList_store_last rfl rfl rfl rfl rfl (by kernel_rfl) rfl rfl ?_))
  have hA2 := (hA.below hb2 hA.lt).alloc (.cells #[.int .i8 s.px, .int .i8 s.py, .float .f32 s.rt, .int .i8 s.x, .int .i8 s.y] 32)
  have hS2 := Blk.new w2 #[.int .i8 s.px, .int .i8 s.py, .float .f32 s.rt, .int .i8 s.x, .int .i8 s.y] 32
  have hbel2 := (hbel.trans (hb2.mono hbel.size)).alloc (by have := hbel.size; have := hb2.size; omega) (.cells #[.int .i8 s.px, .int .i8 s.py, .float .f32 s.rt, .int .i8 s.x, .int .i8 s.y] 32)
  generalize w2.alloc (.cells #[.int .i8 s.px, .int .i8 s.py, .float .f32 s.rt, .int .i8 s.x, .int .i8 s.y] 32) = W2 at *
  obtain ⟨p6, hp6⟩ : ∃ p, w2.heap.size = p := ⟨_, rfl⟩
  rw [hp6] at hS2 ⊢
  clear hp6 hA hbel hb2 hsi
  have hrf := fun m f hT vt w' hv => specReadingsFrom_any T1 S1 hD1 s hsD m f hT vt w' hv
  rw [s.cells_eq] at hrf
  refine wp_loose (C := fun w' => Below W2.heap.size W2 w') (R := fun w w' => Below w.heap.size w w') (F := fun ww dd vv => match dd, vv with
    | 61, vv => vv = .agg #[.float .f32 T1, .float .f32 S1]
    | 62, vv => vv = .agg #[.int .i8 s.px, .int .i8 s.py, .float .f32 s.rt, .int .i8 s.x, .int .i8 s.y]
    | 63, vv => vv = .slice a1 n1 c1
    | 64, vv => TmP W2 ww vv
    | 65, vv => ∃ x, vv = .tuple #[x, .int .i64 0] ∧ RdP T1 S1 s W2 ww x
    | 60, vv => ∃ x, vv = .tuple #[x, .int .i64 0] ∧ RdP T1 S1 s W2 ww x
    | 66, vv => RdP T1 S1 s W2 ww vv
    | 67, vv => vv = .int .i64 0
    | 7, vv => RdP T1 S1 s W2 ww vv
    | 8, vv => vv = .int .i64 0
    | _, _ => True) (fun wa wb d v hRR => by split <;> intro hFF <;> first | exact hFF | exact hFF.below hRR | (obtain ⟨x, h1, h2⟩ := hFF; exact ⟨x, h1, h2.below hRR⟩)) (by kernel_rfl) (by kernel_rfl) (by kernel_rfl) (Below.refl _ _).drew ?_ ?_
  · refine steps_cons (step_go rfl fun ev w1 hC kn => ?_) ?_
    · have e1 : ev (.tmp 5) = .pointer (some ⟨p5, 0, none⟩) := kn.out 5 rfl rfl rfl
      exact good_of (v := .agg #[.float .f32 T1, .float .f32 S1]) rfl (load_blk e1 rowAq (hA2.below hC hA2.lt) rfl) hC (Below.refl _ _) rfl
    refine steps_cons (step_go rfl fun ev w1 hC kn => ?_) ?_
    · have e1 : ev (.tmp 6) = .pointer (some ⟨p6, 0, none⟩) := kn.out 6 rfl rfl rfl
      exact good_of (v := .agg #[.int .i8 s.px, .int .i8 s.py, .float .f32 s.rt, .int .i8 s.x, .int .i8 s.y]) rfl (load_blk e1 rowSi (hS2.below hC hS2.lt) rfl) hC (Below.refl _ _) rfl
    refine steps_cons (step_go rfl fun ev w1 hC kn => ?_) ?_
    · have e1 : ev (.tmp 0) = .slice a1 n1 c1 := kn.out 0 rfl rfl rfl
      exact good_of (v := .slice a1 n1 c1) rfl (by simp [execOp, e1, go_sem]) hC (Below.refl _ _) rfl
    refine steps_cons (step_go rfl fun ev w1 hC kn => ?_) ?_
    · have e1 : ev (.tmp 63) = .slice a1 n1 c1 := kn.inn 63 rfl rfl
      exact good_call (f := 8) (args := #[.slice a1 n1 c1]) rfl (by simp [execOp, e1, kn.fn, kn.con, go_sem]) ((HTM.out w1 (hbel2.trans (hC.mono hbel2.size))).mono fun e w2 ⟨x, g, m, f, hT, he, hg, hO, hb⟩ => ⟨x, he, hC.trans (hb.mono hC.size), hb, g, m, f, hT, Nat.le_trans hC.size hg, hO⟩)
    refine steps_cons (step_go rfl fun ev w1 hC kn => ?_) ?_
    · have e1 : ev (.tmp 61) = .agg #[.float .f32 T1, .float .f32 S1] := kn.inn 61 rfl rfl
      have e2 : ev (.tmp 62) = .agg #[.int .i8 s.px, .int .i8 s.py, .float .f32 s.rt, .int .i8 s.x, .int .i8 s.y] := kn.inn 62 rfl rfl
      obtain ⟨g, m, f, hT, hg, hO⟩ : TmP W2 w1 (ev (.tmp 64)) := kn.inn 64 rfl rfl
      exact good_call (f := 7) (args := #[.agg #[.float .f32 T1, .float .f32 S1], .agg #[.int .i8 s.px, .int .i8 s.py, .float .f32 s.rt, .int .i8 s.x, .int .i8 s.y], ev (.tmp 64)]) rfl (by simp [execOp, e1, e2, kn.fn, kn.con, go_sem]) ((hrf m f hT _ w1 hO.tsl).mono fun e w2 ⟨x, g', he, hg', hO', hb⟩ => ⟨_, he, hC.trans (hb.mono hC.size), hb, x, rfl, g', m, f, hT, Nat.le_trans hC.size hg', hO'⟩)
    refine steps_cons (step_go rfl fun ev w1 hC kn => ?_) ?_
    · obtain ⟨x, e1, hx⟩ : ∃ x, ev (.tmp 65) = .tuple #[x, .int .i64 0] ∧ RdP T1 S1 s W2 w1 x := kn.inn 65 rfl rfl
      exact good_of (v := .tuple #[x, .int .i64 0]) rfl (by simp [execOp, e1, go_sem]) hC (Below.refl _ _) ⟨x, rfl, hx⟩
    refine steps_cons (step_go rfl fun ev w1 hC kn => ?_) ?_
    · obtain ⟨x, e1, hx⟩ : ∃ x, ev (.tmp 60) = .tuple #[x, .int .i64 0] ∧ RdP T1 S1 s W2 w1 x := kn.inn 60 rfl rfl
      exact good_of (v := x) rfl (by simp [execOp, e1, go_sem]) hC (Below.refl _ _) hx
    refine steps_cons (step_go rfl fun ev w1 hC kn => ?_) ?_
    · obtain ⟨x, e1, hx⟩ : ∃ x, ev (.tmp 60) = .tuple #[x, .int .i64 0] ∧ RdP T1 S1 s W2 w1 x := kn.inn 60 rfl rfl
      exact good_of (v := .int .i64 0) rfl (by simp [execOp, e1, go_sem]) hC (Below.refl _ _) rfl
    refine steps_cons (step_go rfl fun ev w1 hC kn => ?_) ?_
    · have hx : RdP T1 S1 s W2 w1 (ev (.tmp 66)) := kn.inn 66 rfl rfl
      exact good_of (v := ev (.tmp 66)) rfl (by simp [execOp, go_sem]) hC (Below.refl _ _) hx
    refine steps_cons (step_go rfl fun ev w1 hC kn => ?_) ?_
    · have e1 : ev (.tmp 67) = .int .i64 0 := kn.inn 67 rfl rfl
      exact good_of (v := .int .i64 0) rfl (by simp [execOp, e1, go_sem]) hC (Below.refl _ _) rfl
    exact steps_nil
  rintro xv W4 hxv hb4
  have y7 : RdP T1 S1 s W2 W4 (xv 7) := hxv 7 (by decide)
  have y8 : xv 8 = .int .i64 0 := hxv 8 (by decide)
  obtain ⟨g7, n, ft, hTD, hg7, hO7⟩ := y7
  simp only [fill, dstsOf, List.filterMap_cons, List.filterMap_nil, List.foldl_cons, List.foldl_nil, List.set_cons_succ, List.set_cons_zero, y8]
  generalize xv 7 = v7 at *
  clear hxv y8 hrf HTM
  have hA3 := hA2
  have hS3 := hS2
  have hbel3 := hbel2
  clear hA2 hS2
  have hA4 := hA3.below hb4 hA3.lt
  have hS4 := hS3.below hb4 hS3.lt
  have hbel4 := hbel3.trans (hb4.mono hbel3.size)
  have hRl : ∀ i, i < n → -32768 ≤ (rdF T1 S1 s ft i).lev ∧ (rdF T1 S1 s ft i).lev ≤ 32767 := fun i hi => lgR_in ((sdX_mg hD1.aq hsD (t := (ft i).toNat) (by have := hTD.2.1 i hi; omega) (by have := hTD.2.1 i hi; omega)).mono (by omega))
  have hbn := HBT.out v7 g7 n (rdF T1 S1 s ft) hTD.1 hRl W4 hbel4 hO7
  clear hA3 hS3 hbel3 HBT
  go_upto_region 7 with (go_at_call 9; refine hbn.mono ?_; rintro e W5 ⟨v9, g9, R, hRR, rfl, hg9, hO9, hb5⟩)
  have hA5 := hA4.below hb5 hA4.lt
  have hS5 := hS4.below hb5 hS4.lt
  have hbel5 := hbel4.trans (hb5.mono hbel4.size)
  have hRD : RdD n R := by
    refine ⟨hTD.1, fun i hi => ?_, okT_of n (fun i hi => ?_) (fun i j hij hj => ?_)⟩
    · have h1 := hRR i hi
      have h2 : (rdF T1 S1 s ft i).tim = ft i := rfl
      have h3 := hTD.2.1 i hi
      exact ⟨by omega, h1.2⟩
    · have h1 := hRR i hi
      have h2 : (rdF T1 S1 s ft i).tim = ft i := rfl
      have h3 := hTD.2.1 i hi
      omega
    · have h1 := hRR i (by omega)
      have h2 := hRR j hj
      have h3 := hTD.2.2 i j hij hj
      have h4 : (rdF T1 S1 s ft i).tim = ft i := rfl
      have h5 : (rdF T1 S1 s ft j).tim = ft j := rfl
      omega
  clear hA4 hS4 hbel4 hbn hRR hRl hO7 hTD hb4
  have haq2 := HAQ2.out W5 hbel5
  go_upto_region 8 with (first | (go_at_call 5; refine haq2.mono ?_; rintro e w6 ⟨T2, S2, hD2, rfl, hb6⟩) | (refine wpList_alloc_as rfl rfl zeroAqF ?_) | (refine wpList_store_last rfl rfl rfl rfl rfl (by kernel_rfl) rfl rfl ?_))
  have hbel6 := hbel5.trans (hb6.mono hbel5.size)
  have hst : ∃ b10, w6.heap.size = b10 ∧ StF w p5 p6 b10 T1 S1 s T2 S2 v9 n R (w6.alloc (.cells #[.float .f32 T2, .float .f32 S2] 26)) := ⟨_, rfl, (hA5.below hb6 hA5.lt).alloc _, (hS5.below hb6 hS5.lt).alloc _, Blk.new _ _ _, (hO9.rsl.below hb6).below (below1 _ _), hbel6.alloc hbel6.size _⟩
  obtain ⟨p10, hp10, hS⟩ := hst
  rw [hp10]
  clear hp10 hA5 hS5 hbel5 hbel6 hb5 hb6 hO9 haq2 HAQ2 HSI hbel2
  generalize w6.alloc (.cells #[.float .f32 T2, .float .f32 S2] 26) = W7 at *
  have hmi := fun T S (h : AqD T S) w' (hv : RSl w' v9 n R) => misfitOf_any T S h s hsD n R hRD v9 w' hv
  have hms := fun T S (h : AqD T S) w' (hv : RSl w' v9 n R) => specMisfitOf_any T S h s hsD n R hRD v9 w' hv
  have hfi := fun w' (hv : RSl w' v9 n R) => fitFrom_any T2 S2 hD2 s hsD n R hRD 12 (by decide) v9 w' hv
  have hfs := fun w' (hv : RSl w' v9 n R) => specFitFrom_any T2 S2 hD2 s hsD n R hRD 12 (by decide) v9 w' hv
  have hwi := fun T S (h : AqD T S) w' (hv : RSl w' v9 n R) => worstReading_any T S h s hsD n R hRD v9 w' hv
  have hws := fun T S (h : AqD T S) w' (hv : RSl w' v9 n R) => specWorstReading_any T S h s hsD n R hRD v9 w' hv
  have hinv := ft_inv (mfX s R n) 12 ⟨T2, S2, mfX s R n T2 S2, 0⟩ hD2 rfl
  rw [s.cells_eq] at hmi hms hfi hfs hwi hws
  generalize ftR (mfX s R n) 12 ⟨T2, S2, mfX s R n T2 S2, 0⟩ = FR at *
  obtain ⟨T3, S3, m3, c3⟩ := FR
  obtain ⟨kD, km, _, kc, ke, kl⟩ := hinv
  have hD3 : AqD T3 S3 := kD
  have hm3 : m3 = mfX s R n T3 S3 := km
  have hc12 : c3 ≤ 12 := by simpa using kc
  have hceq : c3 = 0 → m3 = mfX s R n T2 S2 := ke
  have hclt : 0 < c3 → m3 < mfX s R n T2 S2 := kl
  clear kD km kc ke kl
  have hi1 := hmi T2 S2 hD2
  have hs1 := hms T2 S2 hD2
  have hi3 := hmi T3 S3 hD3
  have hfin2 := (mfX_in hD2.aq hsD hRD.each hRD.le).1
  have hfin3 := (mfX_in hD3.aq hsD hRD.each hRD.le).1
  have HMI := Lib.hid hmi
  have HWI := Lib.hid (hwi T3 S3 hD3)
  have HWS := Lib.hid (hws T3 S3 hD3)
  clear hmi hms hwi hws
  rw [← hm3] at hi3 hfin3
  obtain ⟨m2, hm2⟩ : ∃ m, mfX s R n T2 S2 = m := ⟨_, rfl⟩
  rw [hm2] at hi1 hs1 hfin2 hceq hclt
  have HM3 := Lib.hid hm3
  have HM2 := Lib.hid hm2
  clear hm3 hm2
  simp only at hfi hfs
  go_upto_region 10 with (first | (refine wpList_load_blk rfl rfl rfl rowAq hS.st rfl ?_) | (refine wpList_load_blk rfl rfl rfl rowSi hS.s rfl ?_) | (go_at_call 10; refine (hi1 _ hS.v).mono ?_; rintro e W8 ⟨rfl, hbp⟩; replace hS := hS.below hbp; clear hbp) | (go_at_call 11; refine (hs1 _ hS.v).mono ?_; rintro e W9 ⟨rfl, hbp⟩; replace hS := hS.below hbp; clear hbp))
  clear hi1 hs1
  go_upto_region 11 with (first | (refine wpList_load_blk rfl rfl rfl rowAq hS.st rfl ?_) | (refine wpList_load_blk rfl rfl rfl rowSi hS.s rfl ?_) | (go_at_call 12; refine (hfi _ hS.v).mono ?_; rintro e W10 ⟨rfl, hbp⟩; replace hS := hS.below hbp; clear hbp) | (refine wpList_alloc_as rfl rfl zeroAqF ?_) | (refine wpList_store_last rfl rfl rfl rfl rfl (by kernel_rfl) rfl rfl ?_))
  have hE := Blk.new W10 #[.float .f32 T3, .float .f32 S3] 26
  replace hS := hS.below (below1 W10 (.cells #[.float .f32 T3, .float .f32 S3] 26))
  generalize W10.alloc (.cells #[.float .f32 T3, .float .f32 S3] 26) = W11 at *
  obtain ⟨p15, hp15⟩ : ∃ p, W10.heap.size = p := ⟨_, rfl⟩
  rw [hp15] at hE ⊢
  clear hp15 hfi
  go_upto_region 12 with (first | (refine wpList_load_blk rfl rfl rfl rowAq hS.st rfl ?_) | (refine wpList_load_blk rfl rfl rfl rowSi hS.s rfl ?_) | (go_at_call 13; refine (hfs _ hS.v).mono ?_; rintro e W12 ⟨rfl, hbp⟩; replace hS := hS.below hbp; replace hE := hE.below hbp hE.lt; clear hbp) | (refine wpList_alloc_as rfl rfl zeroAqF ?_) | (refine wpList_store_last rfl rfl rfl rfl rfl (by kernel_rfl) rfl rfl ?_))
  have hU := Blk.new W12 #[.float .f32 T3, .float .f32 S3] 26
  replace hS := hS.below (below1 W12 (.cells #[.float .f32 T3, .float .f32 S3] 26))
  replace hE := hE.alloc (.cells #[.float .f32 T3, .float .f32 S3] 26)
  generalize W12.alloc (.cells #[.float .f32 T3, .float .f32 S3] 26) = W13 at *
  obtain ⟨p19, hp19⟩ : ∃ p, W12.heap.size = p := ⟨_, rfl⟩
  rw [hp19] at hU ⊢
  clear hp19 hfs
  have x0 : W13.cell? ⟨p15, 0, none⟩ = some (.float .f32 T3) := hE.cell 0
  have x1 : W13.cell? ⟨p15, 1, none⟩ = some (.float .f32 S3) := hE.cell 1
  have u0 : W13.cell? ⟨p19, 0, none⟩ = some (.float .f32 T3) := hU.cell 0
  have u1 : W13.cell? ⟨p19, 1, none⟩ = some (.float .f32 S3) := hU.cell 1
  have hn2 := fun w' => sameNumberS_cn (x := m2) (y := m2) rfl w'
  have hnT := fun w' => sameNumberS_cn (x := T3) (y := T3) rfl w'
  have hnS := fun w' => sameNumberS_cn (x := S3) (y := S3) rfl w'
  have hn3 := fun w' => sameNumberS_cn (x := m3) (y := m3) rfl w'
  have hva := fun w' => validAquifer_any T3 S3 hD3.ok w'
  have ht1 := fgt_eq m3 m2
  rw [fgt_finF hfin3 hfin2] at ht1
  have ht2 := feq_eq m3 m2
  rw [feq_fin hfin3 hfin2] at ht2
  have hle : ¬ m2 < m3 := by
    by_cases h : c3 = 0
    · have := hceq h; omega
    · have := hclt (by omega); omega
  rw [decide_eq_false hle] at ht1
  have hcc : decide (m3 = m2) = ((c3 : Int) == 0) := by
    by_cases h : c3 = 0
    · rw [decide_eq_true (hceq h), h]; rfl
    · have := hclt (by omega)
      rw [decide_eq_false (by omega)]
      symm
      rw [beq_eq_false_iff_ne]; omega
  rw [hcc] at ht2
  obtain ⟨cb, hcb⟩ : ∃ b, ((c3 : Int) == 0) = b := ⟨_, rfl⟩
  rw [hcb] at ht2
  have hcbb : (cb != cb) = false := by simp
  have b0 : (0 : Int) ≤ c3 := by omega
  have b12 : (c3 : Int) ≤ 12 := by omega
  clear hcc hle hceq hclt
  go_cut [183] from 105 to 183 (fun c wx => c = .bool false ∧ Below W13.heap.size W13 wx)
  case first =>
    go_wp2_with (first | (refine wpList_load_wantT rfl rfl rfl rowAq hU rfl ?_) | (go_at_call 14; first | (refine (hn2 _).mono ?_; rintro e w' ⟨rfl, hw⟩; rw [hw]; clear hw w') | (refine (hn3 _).mono ?_; rintro e w' ⟨rfl, hw⟩; rw [hw]; clear hw w') | (refine (hnT _).mono ?_; rintro e w' ⟨rfl, hw⟩; rw [hw]; clear hw w') | (refine (hnS _).mono ?_; rintro e w' ⟨rfl, hw⟩; rw [hw]; clear hw w')) | (go_at_call 15; refine (hva _).mono ?_; rintro e w' ⟨rfl, hbp⟩))
    go_meet
    exact ⟨by first | rfl | (simp; omega), hbp⟩
  case rest =>
    obtain ⟨rfl, hbp⟩ := hcut
    replace hS := hS.below hbp
    replace hE := hE.below hbp hE.lt
    replace hU := hU.below hbp hU.lt
    clear hbp x0 x1 u0 u1 ht1 ht2 hcb hcbb hva hnT hnS hn2
    have hGs := gsP_aq hD2 hD1 hD3
    have hbgi := fun u w' hu (hv : RSl w' v9 n R) => bestGuess_any 3 ⟨by omega, by omega⟩ (gsP T2 S2 T1 S1 T3 S3) hGs s hsD n R hRD u v9 w' hu hv
    have hbgs := fun u w' hu (hv : RSl w' v9 n R) => specBestGuess_any 3 ⟨by omega, by omega⟩ (gsP T2 S2 T1 S1 T3 S3) hGs s hsD n R hRD u v9 w' hu hv
    have hfwi := fun bd u w' hu (hv : RSl w' v9 n R) => fitsWithin_any 3 ⟨by omega, by omega⟩ (gsP T2 S2 T1 S1 T3 S3) hGs s hsD n R hRD bd u v9 w' hu hv
    have hfws := fun bd u w' hu (hv : RSl w' v9 n R) => specFitsWithin_any 3 ⟨by omega, by omega⟩ (gsP T2 S2 T1 S1 T3 S3) hGs s hsD n R hRD bd u v9 w' hu hv
    have htsi := fun bd u w' hu (hv : RSl w' v9 n R) => transmitSpan_any 3 ⟨by omega, by omega⟩ (gsP T2 S2 T1 S1 T3 S3) hGs s hsD n R hRD bd u v9 w' hu hv
    have hEf := mfL_fin hGs hsD hRD
    have hE2 : mfL s R n (gsP T2 S2 T1 S1 T3 S3) 2 = m3 := HM3.out.symm
    have hmis := fun i (hi : i < 3) w' (hv : RSl w' v9 n R) => misfitOf_any _ _ (hGs i hi) s hsD n R hRD v9 w' hv
    change ∀ i, i < 3 → ∀ w', RSl w' v9 n R → Calls _ _ _ w' (fun e w'' => e = .returned (.tuple #[.float .f32 (mfL s R n (gsP T2 S2 T1 S1 T3 S3) i), .int .i64 0]) ∧ _) at hmis
    rw [s.cells_eq] at hbgi hbgs hfwi hfws htsi hmis
    have hTf : ∀ i, i < 3 → (gsP T2 S2 T1 S1 T3 S3 i).T < 2139095040 := fun i hi => (hGs i hi).aq.t.hi (by omega)
    have hZ := gsP_list T2 S2 T1 S1 T3 S3
    generalize mfL s R n (gsP T2 S2 T1 S1 T3 S3) = E at *
    generalize gsP T2 S2 T1 S1 T3 S3 = G at *
    have hjl := lsTo_lt E 3 (by omega)
    have hmin := lsTo_min E 3
    generalize lsTo E 3 = j at *
    have HBGI := Lib.hid hbgi
    have HBGS := Lib.hid hbgs
    have HFWI := Lib.hid hfwi
    have HFWS := Lib.hid hfws
    have HTSI := Lib.hid htsi
    have HMIS := Lib.hid hmis
    have HEF := Lib.hid hEf
    have HE2 := Lib.hid hE2
    have HTF := Lib.hid hTf
    have HMIN := Lib.hid hmin
    clear hbgi hbgs hfwi hfws htsi hmis hEf hE2 hTf hmin hGs HMI
    go_upto_region 15 with (first | (refine wpList_load_blk rfl rfl rfl rowAq hU rfl ?_) | (refine wpList_load_blk rfl rfl rfl rowSi hS.s rfl ?_) | (go_at_call 10; refine (hi3 _ hS.v).mono ?_; rintro e W14 ⟨rfl, hbp⟩; replace hS := hS.below hbp; replace hU := hU.below hbp hU.lt; clear hbp))
    clear hi3 hE
    go_upto_region 16 with (first | (refine wpList_load_blk rfl rfl rfl rowAq hS.st rfl ?_) | (refine wpList_load_blk rfl rfl rfl rowAq hS.a rfl ?_) | (refine wpList_load_blk rfl rfl rfl rowAq hU rfl ?_))
    have hO : Own (W14.alloc (.cells #[.float .f32 T2, .float .f32 S2, .float .f32 T1, .float .f32 S1, .float .f32 T3, .float .f32 S3] 26)) W14.heap.size 26 2 (.slice (some ⟨W14.heap.size, 0, none⟩) 3 3) 3 (lqs 3 G) := own_blk (Blk.new W14 #[.float .f32 T2, .float .f32 S2, .float .f32 T1, .float .f32 S1, .float .f32 T3, .float .f32 S3] 26) rfl (by decide) hZ.symm
    replace hS := hS.below (below1 W14 (.cells #[.float .f32 T2, .float .f32 S2, .float .f32 T1, .float .f32 S1, .float .f32 T3, .float .f32 S3] 26))
    replace hU := hU.alloc (.cells #[.float .f32 T2, .float .f32 S2, .float .f32 T1, .float .f32 S1, .float .f32 T3, .float .f32 S3] 26)
    generalize W14.alloc (.cells #[.float .f32 T2, .float .f32 S2, .float .f32 T1, .float .f32 S1, .float .f32 T3, .float .f32 S3] 26) = W15 at *
    obtain ⟨p25, hp25⟩ : ∃ p, W14.heap.size = p := ⟨_, rfl⟩
    rw [hp25] at hO ⊢
    clear hp25 hZ
    have h1 := HBGI.out _ W15 hO.qsl hS.v
    go_upto_region 17 with (first | (refine wpList_load_blk rfl rfl rfl rowSi hS.s rfl ?_) | (go_at_call 16; refine h1.mono ?_; rintro e W16 ⟨rfl, hbp⟩; replace hS := hS.below hbp; replace hU := hU.below hbp hU.lt; replace hO := hO.below hbp hO.lt; clear hbp))
    clear h1
    have h1 := HBGS.out _ W16 hO.qsl hS.v
    go_upto_region 18 with (first | (refine wpList_load_blk rfl rfl rfl rowSi hS.s rfl ?_) | (go_at_call 17; refine h1.mono ?_; rintro e W17 ⟨rfl, hbp⟩; replace hS := hS.below hbp; replace hU := hU.below hbp hU.lt; replace hO := hO.below hbp hO.lt; clear hbp))
    clear h1 HBGI HBGS
    have hfj := HEF.out j hjl
    have hnj := fun w' => sameNumberS_cn (x := E j) (y := E j) rfl w'
    have hlej : E j ≤ m3 := by have := HMIN.out 2 (by omega); rw [HE2.out] at this; exact this
    have ht1 := fgt_eq (E j) m3
    rw [fgt_finF hfj hfin3, decide_eq_false (by omega)] at ht1
    have hjj : ((j : Int) != j) = false := by simp
    clear hlej
    obtain ⟨Ej, hEj⟩ : ∃ x, E j = x := ⟨_, rfl⟩
    rw [hEj] at ht1 hnj hfj ⊢
    have HEJ := Lib.hid hEj
    clear hEj
    go_upto_region 20 with (go_at_call 14; first | (refine (hn3 _).mono ?_; rintro e w' ⟨rfl, hw⟩; rw [hw]; clear hw w') | (refine (hnj _).mono ?_; rintro e w' ⟨rfl, hw⟩; rw [hw]; clear hw w'))
    clear ht1 hn3 hnj hjj
    have hpk := HPK.out W17 hS.bel
    go_upto_region 21 with (go_at_call 18; refine hpk.mono ?_; rintro e W18 ⟨z, z0, z1, rfl, hbp⟩; replace hS := hS.below hbp; replace hU := hU.below hbp hU.lt; replace hO := hO.below hbp hO.lt; clear hbp; obtain ⟨cz, rz⟩ := levX_op (l := z) (by omega) (by omega); unfold fI at cz rz)
    have e18 : W18.drewN 0 = W18 := rfl
    try rw [e18]
    clear e18 cz rz hpk HPK
    generalize levX z = bd at *
    clear z0 z1
    obtain ⟨lo, hi, cd, hsp, hs0, hs1⟩ := span_form E bd 3 G
    have hin := fun k (hk : k < 3) h => span_in E bd (n := 3) G hk h
    have hwat := fun k (hk : k < 3) h => wtTo_at E bd (n := 3) hk h
    have hwl1 := wtTo_len1 E bd
    have hwl3 := wtTo_len E bd 3
    have hw0 : (wtTo E bd 0).length = 0 := rfl
    have hsT := fun v u w' hv hu => sameTicks_any (wtTo E bd 3).length (wtI E bd 3) v u w' hv hu
    have h1 := HFWI.out bd _ W18 hO.qsl hS.v
    go_upto_region 22 with (first | (refine wpList_load_blk rfl rfl rfl rowSi hS.s rfl ?_) | (go_at_call 19; refine h1.mono ?_; rintro e W19 ⟨v33, g33, rfl, hg33, hO33, hbp⟩; replace hS := hS.below hbp; replace hU := hU.below hbp hU.lt; replace hO := hO.below hbp hO.lt; clear hbp hg33))
    clear h1
    have h1 := HFWS.out bd _ W19 hO.qsl hS.v
    go_upto_region 23 with (first | (refine wpList_load_blk rfl rfl rfl rowSi hS.s rfl ?_) | (go_at_call 20; refine h1.mono ?_; rintro e W20 ⟨v35, g35, rfl, hg35, hO35, hbp⟩; replace hS := hS.below hbp; replace hU := hU.below hbp hU.lt; replace hO := hO.below hbp hO.lt; replace hO33 := hO33.below hbp hO33.lt; clear hbp hg35))
    clear h1
    have h1 := HTSI.out bd _ W20 hO.qsl hS.v
    rw [hsp] at h1
    clear hsp
    go_upto_region 24 with (first | (refine wpList_load_blk rfl rfl rfl rowSi hS.s rfl ?_) | (go_at_call 21; refine h1.mono ?_; rintro e W21 ⟨rfl, hbp⟩; replace hS := hS.below hbp; replace hU := hU.below hbp hU.lt; replace hO := hO.below hbp hO.lt; replace hO33 := hO33.below hbp hO33.lt; replace hO35 := hO35.below hbp hO35.lt; clear hbp))
    clear h1 HFWI HFWS HTSI
    obtain ⟨c35, rfl, hc35, hcm35⟩ := hO35.form
    unfold maxLen at hcm35
    have hst2 := hsT _ _ W21 hO33.tsl hO35.tsl
    have HS0 := Lib.hid hs0
    have HS1 := Lib.hid hs1
    have HIN := Lib.hid hin
    have HWAT := Lib.hid hwat
    have HWL1 := Lib.hid hwl1
    have HW0 := Lib.hid hw0
    clear hs0 hs1 hin hwat hwl1 hw0 hsT
    obtain ⟨l, hl⟩ : ∃ l, (wtTo E bd 3).length = l := ⟨_, rfl⟩
    have HL := Lib.hid hl
    rw [hl] at hst2 hc35 hwl3 ⊢
    clear hl
    go_cut [301] from 273 to 301 (fun c wx => c = .bool false ∧ ∃ q, wx = W21.drewN q)
    case first =>
      by_cases h0 : l = 0
      · have hcd := HS0.out (by rw [HL.out]; exact h0)
        have e1 : (cd == 0) = false := by rw [hcd]; rfl
        have e2 : (cd != 0) = true := by rw [hcd]; rfl
        have e3 : (cd != 6) = false := by rw [hcd]; rfl
        have hpos2 : ¬ (0 : Int) < l := by omega
        have hpos3 : ¬ 0 < l := by omega
        have hpos4 : decide (0 < l) = false := decide_eq_false hpos3
        clear hcd h0
        go_wp2_with (go_at_call 22; refine hst2.mono ?_; rintro e w' ⟨rfl, q, rfl⟩)
        go_meet
        exact ⟨by first | rfl | simp | (simp; omega), q, rfl⟩
      · have hcd := (HS1.out (by rw [HL.out]; exact h0)).1
        have e1 : (cd == 0) = true := by rw [hcd]; rfl
        have e2 : (cd != 0) = false := by rw [hcd]; rfl
        have hpos2 : (0 : Int) < l := by omega
        have hpos3 : 0 < l := by omega
        have hpos4 : decide (0 < l) = true := decide_eq_true hpos3
        clear hcd h0
        go_wp2_with (go_at_call 22; refine hst2.mono ?_; rintro e w' ⟨rfl, q, rfl⟩)
        go_meet
        exact ⟨by first | rfl | simp | (simp; omega), q, rfl⟩
    case rest =>
      obtain ⟨rfl, q, hwx⟩ := hcut
      rw [hwx]
      have hbp : Below W21.heap.size W21 (W21.drewN q) := below_drewN (Below.refl _ _) q
      replace hS := hS.below hbp
      replace hO := hO.below hbp hO.lt
      replace hU := hU.below hbp hU.lt
      replace hO35 := hO35.below hbp hO35.lt
      clear hbp hwx hO33 hst2
      generalize W21.drewN q = W22 at *
      have hl0 : (0 : Nat) ≤ l := by omega
      go_wp2_with fail
      go_loopw [40, 41] (fun x i wr => ∃ k : Nat, k ≤ 3 ∧ i = .int .i64 k ∧ x = .int .i64 ((wtTo E bd k).length : Nat) ∧ StF w p5 p6 p10 T1 S1 s T2 S2 v9 n R wr ∧ Own wr p25 26 2 (.slice (some ⟨p25, 0, none⟩) 3 3) 3 (lqs 3 G) ∧ Own wr g35 2 1 (.slice (some ⟨g35, 0, none⟩) l c35) l (mts l (wtI E bd 3)) ∧ Blk wr p19 #[.float .f32 T3, .float .f32 S3] 26) (fun _ i _ => 3 - (intOf i).toNat)
      case atStart => exact ⟨0, by omega, rfl, by rw [HW0.out]; rfl, hS, hO, by rw [HL.out] at hO35; exact hO35, hU⟩
      case round =>
        clear hS hO hO35 hU
        obtain ⟨k, hk, rfl, rfl, hS, hO, hO35, hU⟩ := hrel
        have bk : (0 : Int) ≤ k := by omega
        by_cases hlt : k < 3
        · have bl : (k : Int) < 3 := by omega
          have y0 : wr.cell? ⟨p25, k * 2, none⟩ = some (.float .f32 (G k).T) := by
            rw [hO.cell (k * 2) (by omega), show k * 2 = k * 2 + 0 by omega, lqs_get 3 _ k 0 hlt (by omega), Aqf.get0]
          have y1 : wr.cell? ⟨p25, k * 2 + 1, none⟩ = some (.float .f32 (G k).S) := by
            rw [hO.cell (k * 2 + 1) (by omega), lqs_get 3 _ k 1 hlt (by omega), Aqf.get1]
          have hmk := HMIS.out k hlt
          have hmW : ∀ w', Below wr.heap.size wr w' → Calls Try.prog 10 #[.agg #[.float .f32 (G k).T, .float .f32 (G k).S], .agg #[.int .i8 s.px, .int .i8 s.py, .float .f32 s.rt, .int .i8 s.x, .int .i8 s.y], v9] w' fun e w'' => e = .returned (.tuple #[.float .f32 (E k), .int .i64 0]) ∧ Below w'.heap.size w' w'' := fun w' h => hmk w' (hS.v.below h)
          have lO := hO.lt
          have lS6 := hS.s.lt
          go_upto_region 30 with fail
          refine wp_loose (C := fun w' => Below wr.heap.size wr w') (R := fun w w' => Below w.heap.size w w') (F := fun _ dd vv => match dd, vv with
            | 307, vv => vv = .slice (some ⟨p25, 0, none⟩) 3 3
            | 308, vv => vv = .int .i64 k
            | 309, vv => vv = .pointer (some ⟨p25, k * 2, none⟩)
            | 310, vv => vv = .agg (#[.float .f32 (G k).T, .float .f32 (G k).S])
            | 311, vv => vv = .agg (#[.int .i8 s.px, .int .i8 s.py, .float .f32 s.rt, .int .i8 s.x, .int .i8 s.y])
            | 312, vv => vv = v9
            | 313, vv => vv = .tuple #[.float .f32 (E k), .int .i64 0]
            | 306, vv => vv = .tuple #[.float .f32 (E k), .int .i64 0]
            | 314, vv => vv = .float .f32 (E k)
            | 315, vv => vv = .int .i64 0
            | 42, vv => vv = .float .f32 (E k)
            | 43, vv => vv = .int .i64 0
            | _, _ => True) (fun _ _ _ _ _ h => h) (by kernel_rfl) (by kernel_rfl) (by kernel_rfl) (Below.refl _ _).drew ?_ ?_
          · refine steps_cons (step_go rfl fun ev w1 hC kn => ?_) ?_
            · have e1 : ev (.tmp 25) = .slice (some ⟨p25, 0, none⟩) 3 3 := kn.out 25 rfl rfl rfl
              exact good_of (v := .slice (some ⟨p25, 0, none⟩) 3 3) rfl (by simp [execOp, e1, kn.con, go_sem]) hC (Below.refl _ _) rfl
            refine steps_cons (step_go rfl fun ev w1 hC kn => ?_) ?_
            · have e1 : ev (.tmp 41) = .int .i64 k := kn.out 41 rfl rfl rfl
              exact good_of (v := .int .i64 k) rfl (by simp [execOp, e1, kn.con, go_sem]) hC (Below.refl _ _) rfl
            refine steps_cons (step_go rfl fun ev w1 hC kn => ?_) ?_
            · have e1 : ev (.tmp 307) = .slice (some ⟨p25, 0, none⟩) 3 3 := kn.inn 307 rfl rfl
              have e2 : ev (.tmp 308) = .int .i64 k := kn.inn 308 rfl rfl
              exact good_of (v := .pointer (some ⟨p25, k * 2, none⟩)) rfl (by simp [execOp, e1, e2, kn.con, go_sem, bk, bl]) hC (Below.refl _ _) rfl
            refine steps_cons (step_go rfl fun ev w1 hC kn => ?_) ?_
            · have e1 : ev (.tmp 309) = .pointer (some ⟨p25, k * 2, none⟩) := kn.inn 309 rfl rfl
              exact good_of (v := .agg (#[.float .f32 (G k).T, .float .f32 (G k).S])) rfl (load_aq2 e1 (below_cell hC lO y0) (below_cell hC lO y1)) hC (Below.refl _ _) rfl
            refine steps_cons (step_go rfl fun ev w1 hC kn => ?_) ?_
            · have e1 : ev (.tmp 6) = .pointer (some ⟨p6, 0, none⟩) := kn.out 6 rfl rfl rfl
              exact good_of (v := .agg (#[.int .i8 s.px, .int .i8 s.py, .float .f32 s.rt, .int .i8 s.x, .int .i8 s.y])) rfl (load_blk e1 rowSi (hS.s.below hC lS6) rfl) hC (Below.refl _ _) rfl
            refine steps_cons (step_go rfl fun ev w1 hC kn => ?_) ?_
            · have e1 : ev (.tmp 9) = v9 := kn.out 9 rfl rfl rfl
              exact good_of (v := v9) rfl (by simp [execOp, e1, kn.con, go_sem]) hC (Below.refl _ _) rfl
            refine steps_cons (step_go rfl fun ev w1 hC kn => ?_) ?_
            · have e1 : ev (.tmp 310) = .agg (#[.float .f32 (G k).T, .float .f32 (G k).S]) := kn.inn 310 rfl rfl
              have e2 : ev (.tmp 311) = .agg (#[.int .i8 s.px, .int .i8 s.py, .float .f32 s.rt, .int .i8 s.x, .int .i8 s.y]) := kn.inn 311 rfl rfl
              have e3 : ev (.tmp 312) = v9 := kn.inn 312 rfl rfl
              refine good_call (f := 10) (args := #[.agg (#[.float .f32 (G k).T, .float .f32 (G k).S]), .agg (#[.int .i8 s.px, .int .i8 s.py, .float .f32 s.rt, .int .i8 s.x, .int .i8 s.y]), v9]) rfl (by simp [execOp, e1, e2, e3, kn.fn, kn.con, go_sem]) ((hmW w1 hC).mono fun e w2 ⟨he, hb⟩ => ⟨_, he, hC.trans (hb.mono hC.size), hb, rfl⟩)
            refine steps_cons (step_go rfl fun ev w1 hC kn => ?_) ?_
            · have e1 : ev (.tmp 313) = .tuple #[.float .f32 (E k), .int .i64 0] := kn.inn 313 rfl rfl
              exact good_of (v := .tuple #[.float .f32 (E k), .int .i64 0]) rfl (by simp [execOp, e1, kn.con, go_sem]) hC (Below.refl _ _) rfl
            refine steps_cons (step_go rfl fun ev w1 hC kn => ?_) ?_
            · have e1 : ev (.tmp 306) = .tuple #[.float .f32 (E k), .int .i64 0] := kn.inn 306 rfl rfl
              exact good_of (v := .float .f32 (E k)) rfl (by simp [execOp, e1, go_sem]) hC (Below.refl _ _) rfl
            refine steps_cons (step_go rfl fun ev w1 hC kn => ?_) ?_
            · have e1 : ev (.tmp 306) = .tuple #[.float .f32 (E k), .int .i64 0] := kn.inn 306 rfl rfl
              exact good_of (v := .int .i64 0) rfl (by simp [execOp, e1, go_sem]) hC (Below.refl _ _) rfl
            refine steps_cons (step_go rfl fun ev w1 hC kn => ?_) ?_
            · have e1 : ev (.tmp 314) = .float .f32 (E k) := kn.inn 314 rfl rfl
              exact good_of (v := .float .f32 (E k)) rfl (by simp [execOp, e1, kn.con, go_sem]) hC (Below.refl _ _) rfl
            refine steps_cons (step_go rfl fun ev w1 hC kn => ?_) ?_
            · have e1 : ev (.tmp 315) = .int .i64 0 := kn.inn 315 rfl rfl
              exact good_of (v := .int .i64 0) rfl (by simp [execOp, e1, kn.con, go_sem]) hC (Below.refl _ _) rfl
            exact steps_nil
          rintro xv w5 hxv hb5
          have y42 : xv 42 = .float .f32 (E k) := hxv 42 (by decide)
          have y43 : xv 43 = .int .i64 0 := hxv 43 (by decide)
          simp only [fill, dstsOf, List.filterMap_cons, List.filterMap_nil, List.foldl_cons, List.foldl_nil, List.set_cons_succ, List.set_cons_zero, y42, y43]
          clear hxv y42 y43
          have x0 := (hb5.cell (p := ⟨p25, k * 2, none⟩) lO).trans y0
          replace hS := hS.below hb5
          replace hO := hO.below hb5 lO
          replace hO35 := hO35.below hb5 hO35.lt
          replace hU := hU.below hb5 hU.lt
          clear hmk hmW y0 y1 hb5 lO lS6
          have hek := HEF.out k hlt
          have hmn : ¬ E k < Ej := by have := HMIN.out k hlt; rw [HEJ.out] at this; omega
          have ht1 := flt_eq (E k) Ej
          rw [flt_fin hek hfj, decide_eq_false hmn] at ht1
          have ht2 := fle_eq (E k) bd
          have hl1 := HWL1.out k
          clear hmn hek
          cases hq : fle (E k) bd
          · rw [hq] at ht2
            have HL1 : Hid ((wtTo E bd (k + 1)).length = (wtTo E bd k).length) := Lib.hid (by rw [hl1, hq, if_neg Bool.false_ne_true])
            clear hl1 hq
            generalize E k = Ek at *
            generalize (wtTo E bd k).length = lk at *
            go_wp2_with fail
            go_roundw
            case rel => exact ⟨k + 1, by omega, by go_num, by rw [HL1.out], hS, hO, hO35, hU⟩
            case measure => simp [intOf]; omega
          · rw [hq] at ht2
            have HL1 : Hid ((wtTo E bd (k + 1)).length = (wtTo E bd k).length + 1) := Lib.hid (by rw [hl1, hq, if_pos rfl])
            obtain ⟨a1', a2'⟩ := HWAT.out k hlt hq
            rw [HL.out] at a1'
            obtain ⟨i1, i2⟩ := HIN.out k hlt hq
            have hlo := (HS1.out (by rw [HL.out]; omega)).2.1
            have hhi := (HS1.out (by rw [HL.out]; omega)).2.2
            rw [← hlo] at i1
            rw [← hhi] at i2
            have hTk := HTF.out k hlt
            have hlof : lo < 2139095040 := by omega
            have hhif : hi < 2139095040 := by
              obtain ⟨i, hi1, hi2⟩ := mxTo_in (wtT E bd 3 G) (wtTo E bd 3).length (by rw [HL.out]; omega)
              rw [hhi, hi2]
              exact HTF.out _ (wt_get E bd 3 i hi1)
            have ht3 := flt_eq (G k).T lo
            rw [flt_fin hTk hlof, decide_eq_false (by omega)] at ht3
            have ht4 := fgt_eq (G k).T hi
            rw [fgt_finF hTk hhif, decide_eq_false (by omega)] at ht4
            have z1 : w5.cell? ⟨g35, (wtTo E bd k).length, none⟩ = some (.int .i64 k) := by
              rw [hO35.cell _ (by omega), mts_get _ _ _ (by omega)]
              show some (Value.int .i64 (wtI E bd 3 (wtTo E bd k).length)) = _
              unfold wtI
              rw [a2']
            clear hl1 hq i1 i2 hlo hhi hTk hlof hhif a2'
            generalize E k = Ek at *
            generalize (wtTo E bd k).length = lk at *
            generalize (G k).T = Tk at *
            have bl1 : (0 : Int) ≤ lk := by omega
            have bl2 : (lk : Int) < l := by omega
            have bl3 : ¬ l ≤ lk := by omega
            have hkk : ((k : Int) != k) = false := by simp
            go_wp2_with fail
            go_roundw
            case rel => exact ⟨k + 1, by omega, by go_num, by rw [HL1.out]; go_num, hS, hO, hO35, hU⟩
            case measure => simp [intOf]; omega
        · obtain rfl : k = 3 := by omega
          rw [HL.out]
          have hll : ((l : Int) != l) = false := by simp
          have hwi := HWI.out
          have hws := HWS.out
          obtain ⟨av, cv, hv9, hcv1, hcv2, _⟩ := id hS.v
          unfold maxLen at hcv2
          subst hv9
          by_cases h0 : n = 0
          · subst h0
            have hR0 : bestR 0 (fun i => dfX T3 S3 s (R i)) = .tuple #[.int .i64 0, .float .f32 0, .int .i64 6] := rfl
            rw [hR0] at hwi hws
            have hnz := fun w' => sameNumberS_cn (x := 0) (y := 0) rfl w'
            clear hR0 hO hO35
            go_wp2_with (first | (refine wpList_load_blk rfl rfl rfl rowAq hU rfl ?_) | (refine wpList_load_blk rfl rfl rfl rowSi hS.s rfl ?_) | (go_at_call 23; refine (hwi _ hS.v).mono ?_; rintro e Wa ⟨rfl, hbp⟩; replace hS := hS.below hbp; replace hU := hU.below hbp hU.lt; clear hbp) | (go_at_call 24; refine (hws _ hS.v).mono ?_; rintro e Wb ⟨rfl, hbp⟩; replace hS := hS.below hbp; clear hbp) | (go_at_call 14; refine (hnz _).mono ?_; rintro e w' ⟨rfl, hw⟩; rw [hw]; clear hw w'))
            go_ret
            exact ⟨rfl, hS.bel⟩
          · have hR0 : bestR n (fun i => dfX T3 S3 s (R i)) = .tuple #[.int .i64 (bestTo (fun i => dfX T3 S3 s (R i)) n : Nat), .float .f32 (dfX T3 S3 s (R (bestTo (fun i => dfX T3 S3 s (R i)) n))), .int .i64 0] := by unfold bestR; rw [if_neg h0]
            rw [hR0] at hwi hws
            have hbl := bestTo_lt (fun i => dfX T3 S3 s (R i)) n (by omega)
            have hsz : szS (dfX T3 S3 s (R (bestTo (fun i => dfX T3 S3 s (R i)) n))) ≤ m3 := by
              rw [dfX_size hD3.aq hsD (hRD.each _ hbl), HM3.out]
              exact (mfX_in hD3.aq hsD hRD.each hRD.le).2 _ hbl
            clear hR0
            generalize bestTo (fun i => dfX T3 S3 s (R i)) n = b at *
            generalize dfX T3 S3 s (R b) = D at *
            have hnz := fun w' => sameNumberS_cn (x := D) (y := D) rfl w'
            have hzz := fun w' => sizeOf_is D w'
            have ht5 := fle_eq (szS D) m3
            rw [fle_fin (by omega) hfin3, decide_eq_true hsz] at ht5
            generalize szS D = Dz at *
            have hbb : ((b : Int) != b) = false := by simp
            have hnb : ((n : Int) == 0) = false := by rw [beq_eq_false_iff_ne]; omega
            clear hO hO35 hbl hsz h0
            go_wp2_with (first | (refine wpList_load_blk rfl rfl rfl rowAq hU rfl ?_) | (refine wpList_load_blk rfl rfl rfl rowSi hS.s rfl ?_) | (go_at_call 23; refine (hwi _ hS.v).mono ?_; rintro e Wa ⟨rfl, hbp⟩; replace hS := hS.below hbp; replace hU := hU.below hbp hU.lt; clear hbp) | (go_at_call 24; refine (hws _ hS.v).mono ?_; rintro e Wb ⟨rfl, hbp⟩; replace hS := hS.below hbp; clear hbp) | (go_at_call 14; refine (hnz _).mono ?_; rintro e w' ⟨rfl, hw⟩; rw [hw]; clear hw w') | (go_at_call 25; refine (hzz _).mono ?_; rintro e w' ⟨rfl, hw⟩; rw [hw]; clear hw w'))
            go_ret
            exact ⟨rfl, hS.bel⟩
end Go.Proofs.Ytglimhkpndfjgaa
