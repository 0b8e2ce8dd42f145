import Derived.Test.YtglimhkpndfjgaaMT24
import Derived.Test.YtglimhkpndfjgaaMT25
import Derived.Test.YtglimhkpndfjgaaMT19
/- Fits: the program's sites, differences, misfits. -/
namespace Go.Proofs.Ytglimhkpndfjgaa
open Go.ChangeShapes Go.WideShapes Go.ChangeAt Go.RowKit
set_option linter.unusedVariables false
set_option linter.unusedSimpArgs false
attribute [local irreducible] Calls
set_option maxRecDepth 100000 in
set_option maxHeartbeats 400000 in
theorem levelOf_any (p : Rg) (hp : RgD p) (w : World) :
    Calls Try.prog 68 #[.agg p.cells] w fun e w' => e = .returned (.float .f32 (levX p.lev)) ∧ Below w.heap.size w w' := by
  obtain ⟨c1, r1⟩ := levX_op hp.2.1 hp.2.2
  rw [p.cells_eq]
  unfold fI at c1 r1
  generalize levX p.lev = L at *
  go_enter Try.func68, Try.ntmps68
  go_wp2_with fail
  go_ret
  exact ⟨rfl, below_drewN (below1 _ _) _⟩
set_option maxRecDepth 100000 in
set_option maxHeartbeats 8000000 in
theorem siteDrawdown_any (T S : Nat) (hA : Aq T S) (s : Si) (hs : SiD s) (t : Int) (h1 : 1 ≤ t ∧ t ≤ 100000) (b : Nat) (w : World) (hB : Blk w b #[.int .i8 s.px, .int .i8 s.py, .float .f32 s.rt, .int .i8 s.x, .int .i8 s.y] 32) :
    Calls Try.prog 69 #[.pointer (some ⟨b, 0, none⟩), .agg #[.float .f32 T, .float .f32 S], .int .i64 t] w fun e w' => e = .returned (.float .f32 (sdX T S s t.toNat)) ∧ Below w.heap.size w w' := by
  obtain ⟨m, rfl⟩ : ∃ m : Nat, t = m := ⟨t.toNat, by omega⟩
  have hd := fun w' => drawdown_any T S s.wl s.x s.y m hA ⟨by have := hs.px; show -100 ≤ s.px ∧ s.px ≤ 100; omega, by have := hs.py; show -100 ≤ s.py ∧ s.py ≤ 100; omega⟩ (hs.rate.2.1.mono (by omega)) (by have := hs.px; have := hs.x; show -15 ≤ s.x - s.px ∧ s.x - s.px ≤ 15; omega) (by have := hs.py; have := hs.y; show -15 ≤ s.y - s.py ∧ s.y - s.py ≤ 15; omega) (by omega) (by omega) w'
  rw [s.wl.cells_eq] at hd
  have hD : ddX T S s.wl.rt (s.x - s.wl.px) (s.y - s.wl.py) m = sdX T S s (m : Int).toNat := rfl
  rw [hD] at hd
  generalize sdX T S s (m : Int).toNat = D at *
  change ∀ w', Calls _ _ #[_, .agg #[.int .i8 s.px, .int .i8 s.py, .float .f32 s.rt], _, _, _] w' _ at hd
  have a1 := hs.x
  have a2 := hs.y
  have wx : IntKind.i64.wrap s.x = s.x := by rw [IntKind.wrap_i64]; omega
  have wy : IntKind.i64.wrap s.y = s.y := by rw [IntKind.wrap_i64]; omega
  clear a1 a2 hs hA hD
  have hA0 := Blk.new w #[.float .f32 T, .float .f32 S] 26
  have hbel := below1 w (.cells #[.float .f32 T, .float .f32 S] 26)
  have hB0 := hB.alloc (.cells #[.float .f32 T, .float .f32 S] 26)
  go_enter Try.func69, Try.ntmps69
  go_upto_region 1 with fail
  generalize w.alloc (.cells #[.float .f32 T, .float .f32 S] 26) = W at *
  obtain ⟨p0, hp0⟩ : ∃ p, w.heap.size = p := ⟨_, rfl⟩
  rw [hp0] at hA0 ⊢
  have lA := hA0.lt
  have l_b := hB0.lt
  have z0 : W.cell? ⟨b, 0, none⟩ = some (.int .i8 s.px) := hB0.cell 0
  have z1 : W.cell? ⟨b, 0 + 1, none⟩ = some (.int .i8 s.py) := hB0.cell 1
  have z2 : W.cell? ⟨b, 0 + 2, none⟩ = some (.float .f32 s.rt) := hB0.cell 2
  have z3 : W.cell? ⟨b, 3, none⟩ = some (.int .i8 s.x) := hB0.cell 3
  have z4 : W.cell? ⟨b, 4, none⟩ = some (.int .i8 s.y) := hB0.cell 4
  refine wp_loose (C := fun w' => Below W.heap.size W w') (R := fun w w' => Below w.heap.size w w') (F := fun _ dd vv => match dd, vv with
    | 7, vv => vv = .agg (#[.float .f32 T, .float .f32 S])
    | 8, vv => vv = .pointer (some ⟨b, 0, none⟩)
    | 9, vv => vv = .pointer (some ⟨b, 0, none⟩)
    | 10, vv => vv = .pointer (some ⟨b, 0, none⟩)
    | 11, vv => vv = .agg (#[.int .i8 s.px, .int .i8 s.py, .float .f32 s.rt])
    | 12, vv => vv = .pointer (some ⟨b, 0, none⟩)
    | 13, vv => vv = .pointer (some ⟨b, 0, none⟩)
    | 14, vv => vv = .pointer (some ⟨b, 3, none⟩)
    | 15, vv => vv = .int .i8 s.x
    | 16, vv => vv = .int .i64 s.x
    | 17, vv => vv = .pointer (some ⟨b, 0, none⟩)
    | 18, vv => vv = .pointer (some ⟨b, 0, none⟩)
    | 19, vv => vv = .pointer (some ⟨b, 4, none⟩)
    | 20, vv => vv = .int .i8 s.y
    | 21, vv => vv = .int .i64 s.y
    | 22, vv => vv = .int .i64 m
    | 23, vv => vv = .float .f32 D
    | 6, vv => vv = .float .f32 D
    | _, _ => True) (fun _ _ _ _ _ h => h) (by kernel_rfl) (by kernel_rfl) (by kernel_rfl) (Below.refl _ _).drew ?_ ?_
  · refine steps_cons (step_go rfl fun ev w1 hC kn => ?_) ?_
    · have e1 : ev (.tmp 4) = .pointer (some ⟨p0, 0, none⟩) := kn.out 4 rfl rfl rfl
      exact good_of (v := .agg (#[.float .f32 T, .float .f32 S])) rfl (load_blk e1 rowAq (hA0.below hC lA) rfl) hC (Below.refl _ _) rfl
    refine steps_cons (step_go rfl fun ev w1 hC kn => ?_) ?_
    · have e1 : ev (.tmp 0) = .pointer (some ⟨b, 0, none⟩) := kn.out 0 rfl rfl rfl
      exact good_of (v := .pointer (some ⟨b, 0, none⟩)) rfl (by simp [execOp, e1, kn.con, go_sem]) hC (Below.refl _ _) rfl
    refine steps_cons (step_go rfl fun ev w1 hC kn => ?_) ?_
    · have e1 : ev (.tmp 8) = .pointer (some ⟨b, 0, none⟩) := kn.inn 8 rfl rfl
      exact good_of (v := .pointer (some ⟨b, 0, none⟩)) rfl (by simp [execOp, e1, kn.con, go_sem]) hC (Below.refl _ _) rfl
    refine steps_cons (step_go rfl fun ev w1 hC kn => ?_) ?_
    · have e1 : ev (.tmp 9) = .pointer (some ⟨b, 0, none⟩) := kn.inn 9 rfl rfl
      exact good_of (v := .pointer (some ⟨b, 0, none⟩)) rfl (by simp only [execOp, e1]; rfl) hC (Below.refl _ _) rfl
    refine steps_cons (step_go rfl fun ev w1 hC kn => ?_) ?_
    · have e1 : ev (.tmp 10) = .pointer (some ⟨b, 0, none⟩) := kn.inn 10 rfl rfl
      exact good_of (v := .agg (#[.int .i8 s.px, .int .i8 s.py, .float .f32 s.rt])) rfl (load_well3 e1 (below_cell hC l_b z0) (below_cell hC l_b z1) (below_cell hC l_b z2)) hC (Below.refl _ _) rfl
    refine steps_cons (step_go rfl fun ev w1 hC kn => ?_) ?_
    · have e1 : ev (.tmp 0) = .pointer (some ⟨b, 0, none⟩) := kn.out 0 rfl rfl rfl
      exact good_of (v := .pointer (some ⟨b, 0, none⟩)) rfl (by simp [execOp, e1, kn.con, go_sem]) hC (Below.refl _ _) rfl
    refine steps_cons (step_go rfl fun ev w1 hC kn => ?_) ?_
    · have e1 : ev (.tmp 12) = .pointer (some ⟨b, 0, none⟩) := kn.inn 12 rfl rfl
      exact good_of (v := .pointer (some ⟨b, 0, none⟩)) rfl (by simp [execOp, e1, kn.con, go_sem]) hC (Below.refl _ _) rfl
    refine steps_cons (step_go rfl fun ev w1 hC kn => ?_) ?_
    · have e1 : ev (.tmp 13) = .pointer (some ⟨b, 0, none⟩) := kn.inn 13 rfl rfl
      exact good_of (v := .pointer (some ⟨b, 3, none⟩)) rfl (by simp only [execOp, e1]; rfl) hC (Below.refl _ _) rfl
    refine steps_cons (step_go rfl fun ev w1 hC kn => ?_) ?_
    · have e1 : ev (.tmp 14) = .pointer (some ⟨b, 3, none⟩) := kn.inn 14 rfl rfl
      have c1 := (hC.cell (p := ⟨b, 3, none⟩) l_b).trans z3
      exact good_of (v := .int .i8 s.x) rfl (by simp [execOp, e1, go_sem, c1]) hC (Below.refl _ _) rfl
    refine steps_cons (step_go rfl fun ev w1 hC kn => ?_) ?_
    · have e1 : ev (.tmp 15) = .int .i8 s.x := kn.inn 15 rfl rfl
      exact good_of (v := .int .i64 s.x) rfl (by simp [execOp, e1, go_sem, wx]) hC (Below.refl _ _) rfl
    refine steps_cons (step_go rfl fun ev w1 hC kn => ?_) ?_
    · have e1 : ev (.tmp 0) = .pointer (some ⟨b, 0, none⟩) := kn.out 0 rfl rfl rfl
      exact good_of (v := .pointer (some ⟨b, 0, none⟩)) rfl (by simp [execOp, e1, kn.con, go_sem]) hC (Below.refl _ _) rfl
    refine steps_cons (step_go rfl fun ev w1 hC kn => ?_) ?_
    · have e1 : ev (.tmp 17) = .pointer (some ⟨b, 0, none⟩) := kn.inn 17 rfl rfl
      exact good_of (v := .pointer (some ⟨b, 0, none⟩)) rfl (by simp [execOp, e1, kn.con, go_sem]) hC (Below.refl _ _) rfl
    refine steps_cons (step_go rfl fun ev w1 hC kn => ?_) ?_
    · have e1 : ev (.tmp 18) = .pointer (some ⟨b, 0, none⟩) := kn.inn 18 rfl rfl
      exact good_of (v := .pointer (some ⟨b, 4, none⟩)) rfl (by simp only [execOp, e1]; rfl) hC (Below.refl _ _) rfl
    refine steps_cons (step_go rfl fun ev w1 hC kn => ?_) ?_
    · have e1 : ev (.tmp 19) = .pointer (some ⟨b, 4, none⟩) := kn.inn 19 rfl rfl
      have c1 := (hC.cell (p := ⟨b, 4, none⟩) l_b).trans z4
      exact good_of (v := .int .i8 s.y) rfl (by simp [execOp, e1, go_sem, c1]) hC (Below.refl _ _) rfl
    refine steps_cons (step_go rfl fun ev w1 hC kn => ?_) ?_
    · have e1 : ev (.tmp 20) = .int .i8 s.y := kn.inn 20 rfl rfl
      exact good_of (v := .int .i64 s.y) rfl (by simp [execOp, e1, go_sem, wy]) hC (Below.refl _ _) rfl
    refine steps_cons (step_go rfl fun ev w1 hC kn => ?_) ?_
    · have e1 : ev (.tmp 2) = .int .i64 m := kn.out 2 rfl rfl rfl
      exact good_of (v := .int .i64 m) rfl (by simp [execOp, e1, kn.con, go_sem]) hC (Below.refl _ _) rfl
    refine steps_cons (step_go rfl fun ev w1 hC kn => ?_) ?_
    · have e1 : ev (.tmp 7) = .agg (#[.float .f32 T, .float .f32 S]) := kn.inn 7 rfl rfl
      have e2 : ev (.tmp 11) = .agg (#[.int .i8 s.px, .int .i8 s.py, .float .f32 s.rt]) := kn.inn 11 rfl rfl
      have e3 : ev (.tmp 16) = .int .i64 s.x := kn.inn 16 rfl rfl
      have e4 : ev (.tmp 21) = .int .i64 s.y := kn.inn 21 rfl rfl
      have e5 : ev (.tmp 22) = .int .i64 m := kn.inn 22 rfl rfl
      refine good_call (f := 79) (args := #[.agg (#[.float .f32 T, .float .f32 S]), .agg (#[.int .i8 s.px, .int .i8 s.py, .float .f32 s.rt]), .int .i64 s.x, .int .i64 s.y, .int .i64 m]) rfl (by simp [execOp, e1, e2, e3, e4, e5, kn.fn, kn.con, go_sem]) ((hd w1).mono fun e w2 ⟨he, hb⟩ => ⟨_, he, hC.trans (hb.mono hC.size), hb, rfl⟩)
    refine steps_cons (step_go rfl fun ev w1 hC kn => ?_) ?_
    · have e1 : ev (.tmp 23) = .float .f32 D := kn.inn 23 rfl rfl
      exact good_of (v := .float .f32 D) rfl (by simp [execOp, e1, kn.con, go_sem]) hC (Below.refl _ _) rfl
    exact steps_nil
  rintro xv w3 hxv hb3
  have y6 : xv 6 = .float .f32 D := hxv 6 (by decide)
  simp only [fill, dstsOf, List.filterMap_cons, List.filterMap_nil, List.foldl_cons, List.foldl_nil, List.set_cons_succ, List.set_cons_zero, y6]
  clear hxv y6
  go_wp2_with fail
  go_ret
  exact ⟨rfl, hbel.trans (hb3.mono hbel.size)⟩
set_option maxRecDepth 100000 in
set_option maxHeartbeats 8000000 in
theorem differences_any (T S : Nat) (hA : Aq T S) (s : Si) (hs : SiD s) (n : Nat) (hn : n ≤ 8) (R : Nat → Rg) (hR : ∀ i, i < n → RgD (R i)) (bs : Nat) (v : Value) (w : World) (hB : Blk w bs #[.int .i8 s.px, .int .i8 s.py, .float .f32 s.rt, .int .i8 s.x, .int .i8 s.y] 32) (hv : RSl w v n R) :
    Calls Try.prog 50 #[.pointer (some ⟨bs, 0, none⟩), .agg #[.float .f32 T, .float .f32 S], v] w (GotDd w n (fun i => dfX T S s (R i))) := by
  have hb := below1 w (.cells #[.float .f32 T, .float .f32 S] 26)
  have hv := hv.below hb
  have hB0 := hB.alloc (.cells #[.float .f32 T, .float .f32 S] 26)
  have lB0 := hB.lt
  obtain ⟨a, c, rfl, hc1, hc2, hcell⟩ := hv
  unfold maxLen at hc2
  have hop := fun i (hi : i < n) => dfX_op hA hs (hR i hi)
  have hlv := fun i (hi : i < n) w' => levelOf_any (R i) (hR i hi) w'
  have hdd := fun i (hi : i < n) w' (hB : Blk w' bs #[.int .i8 s.px, .int .i8 s.py, .float .f32 s.rt, .int .i8 s.x, .int .i8 s.y] 32) => siteDrawdown_any T S hA s hs (R i).tim (hR i hi).1 bs w' hB
  have hA0 := Blk.new w #[.float .f32 T, .float .f32 S] 26
  obtain ⟨E, hE⟩ : ∃ E : Nat → Nat, (fun i => dfX T S s (R i)) = E := ⟨_, rfl⟩
  have hE2 : ∀ i, dfX T S s (R i) = E i := fun i => congrFun hE i
  rw [hE]
  simp only [hE2] at hop
  have HC := Lib.hid hcell
  have HO := Lib.hid hop
  have HD := Lib.hid hdd
  have HL := Lib.hid hlv
  clear hcell hop hdd hlv hE hE2 hA hs hR hB
  go_enter Try.func50, Try.ntmps50
  go_upto_region 1 with fail
  generalize w.alloc (.cells #[.float .f32 T, .float .f32 S] 26) = W at *
  have lA := hA0.lt
  go_upto_region 2 with fail
  have hG : Own (W.alloc (.cells #[] 24)) W.heap.size 24 1 (.slice (some ⟨W.heap.size, 0, none⟩) 0 0) 0 (fls 0 E) := own_blk (Blk.new _ _ _) rfl (by decide) (by rw [fls_zero])
  have hA1 := hA0.alloc (.cells #[] 24)
  have hB1 := hB0.alloc (.cells #[] 24)
  have hb1 := hb.alloc hb.size (.cells #[] 24)
  have hbW := below1 W (.cells #[] 24)
  generalize W.alloc (.cells #[] 24) = W2 at *
  obtain ⟨g0, hg0⟩ : ∃ g, W.heap.size = g := ⟨_, rfl⟩
  rw [hg0] at hG lA ⊢
  obtain ⟨b0, e0⟩ : ∃ b, w.heap.size = b := ⟨_, rfl⟩
  rw [e0] at hA1 lA lB0 ⊢
  go_wp2_with fail
  go_loopw [7, 13] (fun y i wr => ∃ (k gb : Nat), k ≤ n ∧ i = .int .i64 k ∧ Own wr gb 24 1 y k (fls k E) ∧ g0 ≤ gb ∧ Below b0 w wr ∧ Below W.heap.size W wr ∧ Blk wr b0 #[.float .f32 T, .float .f32 S] 26 ∧ Blk wr bs #[.int .i8 s.px, .int .i8 s.py, .float .f32 s.rt, .int .i8 s.x, .int .i8 s.y] 32) (fun _ i _ => n - (intOf i).toNat)
  case atStart => exact ⟨0, g0, by omega, rfl, hG, Nat.le_refl _, by rw [← e0]; exact hb1, hbW, hA1, hB1⟩
  case round =>
    clear hG hb1 hbW hA1 hB1
    obtain ⟨k, gb, hk, rfl, hG, hgb, hbs, hbW, hA1, hB1⟩ := hrel
    have bk : (0 : Int) ≤ k := by omega
    by_cases hlt : k < n
    · have bl : (k : Int) < n := by omega
      obtain ⟨b, o, rfl, hb, hcell⟩ := HC.out.resolve_left (by omega)
      have z0 : wr.cell? ⟨b, o + k * 2, none⟩ = some (.int .i64 (R k).tim) := (hbW.cell (p := ⟨b, _, none⟩) hb).trans ((hcell k 0 hlt (by omega)).trans (R k).get0)
      have z1 : wr.cell? ⟨b, o + k * 2 + 1, none⟩ = some (.int .i16 (R k).lev) := (hbW.cell (p := ⟨b, _, none⟩) hb).trans ((hcell k 1 hlt (by omega)).trans (R k).get1)
      have hd := HD.out k hlt
      have hl := HL.out k hlt
      obtain ⟨cf, rf⟩ := HO.out k hlt
      rw [(R k).cells_eq] at hl
      generalize levX (R k).lev = L at *
      generalize sdX T S s (R k).tim.toNat = X at *
      clear hcell
      obtain ⟨cap, rfl, hcap, hcapm⟩ := hG.form
      have sr := hbs.size
      have sW := hbW.size
      have lA1 := hA1.lt
      have lB1 := hB1.lt
      have lG1 := hG.lt
      unfold maxLen at hcapm
      go_upto_region 5 with fail
      have hR9 := Blk.new wr #[.int .i64 (R k).tim, .int .i16 (R k).lev] 67
      have hA2 := hA1.alloc (.cells #[.int .i64 (R k).tim, .int .i16 (R k).lev] 67)
      have hB2 := hB1.alloc (.cells #[.int .i64 (R k).tim, .int .i16 (R k).lev] 67)
      have hG2 := hG.alloc (.cells #[.int .i64 (R k).tim, .int .i16 (R k).lev] 67)
      have hbs2 := hbs.alloc (by omega) (.cells #[.int .i64 (R k).tim, .int .i16 (R k).lev] 67)
      have hbW2 := hbW.alloc sW (.cells #[.int .i64 (R k).tim, .int .i16 (R k).lev] 67)
      generalize wr.alloc (.cells #[.int .i64 (R k).tim, .int .i16 (R k).lev] 67) = W3 at *
      obtain ⟨r9, hr9⟩ : ∃ r, wr.heap.size = r := ⟨_, rfl⟩
      rw [hr9] at hR9 lA1 lB1 lG1 ⊢
      have l_r9 := hR9.lt
      have y0 : W3.cell? ⟨r9, 0, none⟩ = some (.int .i64 (R k).tim) := hR9.cell 0
      have lA2 := hA2.lt
      have lB2 := hB2.lt
      clear z0 z1 hG hA1 hB1 hbs hbW
      refine wp_splitK 10 (C := fun w' => Below W3.heap.size W3 w') (R := fun w w' => Below w.heap.size w w') (F := fun ww dd vv => match dd, vv with
        | 17, vv => vv = .slice (some ⟨gb, 0, none⟩) k cap
        | 18, vv => vv = .agg (#[.int .i64 (R k).tim, .int .i16 (R k).lev])
        | 19, vv => vv = .float .f32 L
        | 20, vv => vv = .pointer (some ⟨bs, 0, none⟩)
        | 21, vv => vv = .agg (#[.float .f32 T, .float .f32 S])
        | 22, vv => vv = .pointer (some ⟨r9, 0, none⟩)
        | 23, vv => vv = .int .i64 ((R k).tim)
        | 24, vv => vv = .float .f32 X
        | 25, vv => vv = .float .f32 (E k)
        | 26, vv => ∃ q, W3.heap.size ≤ q ∧ vv = .slice (some ⟨q, 0, none⟩) 1 1 ∧ Blk ww q #[.float .f32 (E k)] 24
        | _, _ => True) (fun wa wb d v hRR => by split <;> intro hFF <;> first | exact hFF | (obtain ⟨q, h1, h2, h3⟩ := hFF; exact ⟨q, h1, h2, h3.below hRR h3.lt⟩)) (by kernel_rfl) (by kernel_rfl) (by kernel_rfl) (Below.refl _ _).drew ?_ ?_
      · refine ⟨step_go rfl fun ev w1 hC kn => ?_, ?_⟩
        · have e1 : ev (.tmp 7) = .slice (some ⟨gb, 0, none⟩) k cap := kn.out 7 rfl rfl rfl
          exact good_of (v := .slice (some ⟨gb, 0, none⟩) k cap) rfl (by simp [execOp, e1, kn.con, go_sem]) hC (Below.refl _ _) rfl
        refine ⟨step_go rfl fun ev w1 hC kn => ?_, ?_⟩
        · have e1 : ev (.tmp 9) = .pointer (some ⟨r9, 0, none⟩) := kn.out 9 rfl rfl rfl
          exact good_of (v := .agg (#[.int .i64 (R k).tim, .int .i16 (R k).lev])) rfl (load_blk e1 rowRg (hR9.below hC l_r9) rfl) hC (Below.refl _ _) rfl
        refine ⟨step_go rfl fun ev w1 hC kn => ?_, ?_⟩
        · have e1 : ev (.tmp 18) = .agg (#[.int .i64 (R k).tim, .int .i16 (R k).lev]) := kn.inn 18 rfl rfl
          refine good_call (f := 68) (args := #[.agg (#[.int .i64 (R k).tim, .int .i16 (R k).lev])]) rfl (by simp [execOp, e1, kn.fn, kn.con, go_sem]) ((hl w1).mono fun e w2 ⟨he, hb⟩ => ⟨_, he, hC.trans (hb.mono hC.size), hb, rfl⟩)
        refine ⟨step_go rfl fun ev w1 hC kn => ?_, ?_⟩
        · have e1 : ev (.tmp 0) = .pointer (some ⟨bs, 0, none⟩) := kn.out 0 rfl rfl rfl
          exact good_of (v := .pointer (some ⟨bs, 0, none⟩)) rfl (by simp [execOp, e1, kn.con, go_sem]) hC (Below.refl _ _) rfl
        refine ⟨step_go rfl fun ev w1 hC kn => ?_, ?_⟩
        · have e1 : ev (.tmp 4) = .pointer (some ⟨b0, 0, none⟩) := kn.out 4 rfl rfl rfl
          exact good_of (v := .agg (#[.float .f32 T, .float .f32 S])) rfl (load_blk e1 rowAq (hA2.below hC lA2) rfl) hC (Below.refl _ _) rfl
        refine ⟨step_go rfl fun ev w1 hC kn => ?_, ?_⟩
        · have e1 : ev (.tmp 9) = .pointer (some ⟨r9, 0, none⟩) := kn.out 9 rfl rfl rfl
          exact good_of (v := .pointer (some ⟨r9, 0, none⟩)) rfl (by simp only [execOp, e1]; rfl) hC (Below.refl _ _) rfl
        refine ⟨step_go rfl fun ev w1 hC kn => ?_, ?_⟩
        · have e1 : ev (.tmp 22) = .pointer (some ⟨r9, 0, none⟩) := kn.inn 22 rfl rfl
          have c1 := (hC.cell (p := ⟨r9, 0, none⟩) l_r9).trans y0
          exact good_of (v := .int .i64 ((R k).tim)) rfl (by simp [execOp, e1, go_sem, c1]) hC (Below.refl _ _) rfl
        refine ⟨step_go rfl fun ev w1 hC kn => ?_, ?_⟩
        · have e1 : ev (.tmp 20) = .pointer (some ⟨bs, 0, none⟩) := kn.inn 20 rfl rfl
          have e2 : ev (.tmp 21) = .agg (#[.float .f32 T, .float .f32 S]) := kn.inn 21 rfl rfl
          have e3 : ev (.tmp 23) = .int .i64 ((R k).tim) := kn.inn 23 rfl rfl
          refine good_call (f := 69) (args := #[.pointer (some ⟨bs, 0, none⟩), .agg (#[.float .f32 T, .float .f32 S]), .int .i64 ((R k).tim)]) rfl (by simp [execOp, e1, e2, e3, kn.fn, kn.con, go_sem]) ((hd w1 (hB2.below hC lB2)).mono fun e w2 ⟨he, hb⟩ => ⟨_, he, hC.trans (hb.mono hC.size), hb, rfl⟩)
        refine ⟨step_go rfl fun ev w1 hC kn => ?_, ?_⟩
        · have e1 : ev (.tmp 19) = .float .f32 L := kn.inn 19 rfl rfl
          have e2 : ev (.tmp 24) = .float .f32 X := kn.inn 24 rfl rfl
          exact good_of (v := .float .f32 (E k)) rfl (by simp [execOp, e1, e2, kn.con, run_fsub, go_sem, cf, rf, World.drewN_zero]) hC (Below.refl _ _) rfl
        refine ⟨step_go rfl fun ev w1 hC kn => ?_, ?_⟩
        · have e1 : ev (.tmp 25) = .float .f32 (E k) := kn.inn 25 rfl rfl
          exact good_of (v := .slice (some ⟨w1.heap.size, 0, none⟩) 1 1) (w' := w1.alloc (.cells #[.float .f32 (E k)] 24)) rfl (by simp [execOp, e1, go_sem]) (hC.alloc hC.size _) (below1 _ _) ⟨_, hC.size, rfl, Blk.new _ _ _⟩
        exact trivial
      rintro xv w5 hxv hb5
      have y17 : xv 17 = .slice (some ⟨gb, 0, none⟩) k cap := hxv 17 (by decide)
      obtain ⟨q26, lq26, y26, bq26⟩ : ∃ q, W3.heap.size ≤ q ∧ xv 26 = .slice (some ⟨q, 0, none⟩) 1 1 ∧ Blk w5 q #[.float .f32 (E k)] 24 := hxv 26 (by decide)
      simp only [fill, dstsOf, List.filterMap_cons, List.filterMap_nil, List.foldl_cons, List.foldl_nil, List.set_cons_succ, List.set_cons_zero, List.take_succ_cons, List.take_zero, List.drop_succ_cons, List.drop_zero, y17, y26]
      clear hxv y17 y26
      have hG5 := hG2.below hb5 hG2.lt
      have hA5 := hA2.below hb5 lA2
      have hB5 := hB2.below hb5 lB2
      have hbs5 := hbs2.trans (hb5.mono (by have := hbs2.size; omega))
      have hbW5 := hbW2.trans (hb5.mono (by have := hbW2.size; omega))
      have e5 := hb5.size
      clear hG2 hA2 hB2 hbs2 hbW2 hR9 y0 hd hl
      go_wp2_with (at_builtin; refine wpList_app elFW rfl rfl rfl rfl (by decide) hG5 bq26 rfl ?_ ?_ ?_ ?_; (· intro u hu; simp at hu; subst hu; rfl); (· unfold maxLen; omega); (· omega); intro v1 w7 g2 hown1 hgr1 hg1)
      have s5 := hbs5.size
      have t5 := hbW5.size
      go_roundw
      case rel =>
        refine ⟨k + 1, g2, by omega, by go_num, ?_, ?_, ?_, ?_, ?_, ?_⟩
        · rw [fls_succ]; exact hown1
        · rcases hg1 with h | h
          · omega
          · rw [h]; omega
        · exact hbs5.grown hgr1 (by omega) (fun k e => by injection e; omega)
        · exact hbW5.grown hgr1 (by omega) (fun k e => by injection e; omega)
        · exact hA5.grown hgr1 (fun e => by injection e; omega)
        · exact hB5.grown hgr1 (fun e => by injection e; omega)
      case measure => simp [intOf]; omega
    · obtain rfl : k = n := by omega
      go_wp2_with fail
      go_ret
      exact ⟨_, gb, rfl, by omega, hG, by rw [e0]; exact hbs⟩
end Go.Proofs.Ytglimhkpndfjgaa
