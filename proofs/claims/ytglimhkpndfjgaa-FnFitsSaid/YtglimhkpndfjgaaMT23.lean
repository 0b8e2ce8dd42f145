import Derived.Test.YtglimhkpndfjgaaMT21
import Derived.Test.YtglimhkpndfjgaaMT22
import Derived.Test.YtglimhkpndfjgaaMT19
import Derived.Test.YtglimhkpndfjgaaMT16
import Derived.Test.YtglimhkpndfjgaaMT20
import Derived.Test.YtglimhkpndfjgaaMT11
import Derived.Test.YtglimhkpndfjgaaMT18
/- Fits: the reference's sites, differences, misfits. -/
namespace Go.Proofs.Ytglimhkpndfjgaa
open Go.ChangeShapes Go.WideShapes Go.ChangeAt Go.RowKit
set_option linter.unusedVariables false
set_option linter.unusedSimpArgs false
attribute [local irreducible] Calls
theorem rowWlF : RowTy Try.prog 30 3 := ⟨_, Try.underlying30, rfl, by kernel_rfl⟩
theorem wpList_load_partF {P : Program} {ops : Array Oper} {rest : List Oper} {o : Oper} {a : Act} {Q : Exit → Act → World → Prop} {w : World} {ty t : TypeId} {x : Operand} {b f n : Nat} {C E : Array Value} (hgd : o.guard = none) (ho : o.op = .load ty x) (hx : a.eval x = .pointer (some ⟨b, f, none⟩)) (hr : RowTy P ty n) (hb : Blk w b C t) (hs : f + n ≤ C.size) (hE : C.extract f (f + n) = E)
    (h : wpList P ops Q rest (a.put o.dst (.agg E)) w) : wpList P ops Q (o :: rest) a w :=
  wpList_load_part hgd ho hx hr hb hs (by rw [hE]; exact h)
theorem siE (s : Si) : (#[.int .i8 s.px, .int .i8 s.py, .float .f32 s.rt, .int .i8 s.x, .int .i8 s.y] : Array Value).extract 0 (0 + 3) = #[.int .i8 s.px, .int .i8 s.py, .float .f32 s.rt] := rfl
theorem siZ (s : Si) : 0 + 3 ≤ (#[.int .i8 s.px, .int .i8 s.py, .float .f32 s.rt, .int .i8 s.x, .int .i8 s.y] : Array Value).size := by simp
theorem load_rg2 {ev : Operand → Value} {w : World} {x : Operand} {b o : Nat} {u v : Int} {pos : String} {dst : Option Tmp} {tt : TypeId} {af : Array Edge} {gd : Option (Nat × Bool)} (hx : ev x = .pointer (some ⟨b, o, none⟩)) (c0 : w.cell? ⟨b, o, none⟩ = some (.int .i64 u)) (c1 : w.cell? ⟨b, o + 1, none⟩ = some (.int .i16 v)) : (execOp ev { dst := dst, op := .load 67 x, type := tt, pos := pos, after := af, guard := gd }).run Try.prog w = .ok (.value (.agg #[.int .i64 u, .int .i16 v])) w := by
  simp [execOp, hx, go_sem, c0, c1]
/-- A sum whose parts are finite, told by its word. -/
theorem sum_word {F : Nat → Nat} {j n : Nat} (hj : 1 ≤ j) (hn : j + 2 * n ≤ 252) (hF : ∀ i, i < n → Mg (F i) j) {r : Nat} (hr : cn r = fsumTo (fun i => cn (F i)) n) : r = fsumTo F n := by
  have hm := (fsum_mgN (f := F) hj n hn hF).num (by omega)
  have hc : fsumTo (fun i => cn (F i)) n = fsumTo F n := fsumTo_congr n fun i hi => cnk_of_not ((hF i hi).num (by omega))
  rw [hc] at hr
  cases hr0 : isN .f32 r
  · have e : cn r = r := cnk_of_not hr0
    rw [← hr, e]
  · have e : cn r = qn .f32 := cnk_of_nan hr0
    rw [← hr, e, isN_qn] at hm
    cases hm
theorem l03SumN_is {F : Nat → Nat} {j n : Nat} (hj : 1 ≤ j) (hn : j + 2 * n ≤ 252) (hF : ∀ i, i < n → Mg (F i) j) (g : Nat) (v : Value) (w : World) (hO : Own w g 24 1 v n (fls n F)) :
    Calls Try.prog 66 #[v] w fun e w' => e = .returned (.float .f32 (fsumTo F n)) ∧ ∃ k, w' = w.drewN k := by
  refine (l03Sum_any g v n F (by unfold maxLen; omega) w hO).mono ?_
  rintro e w' ⟨r, rfl, hr, hw⟩
  rw [sum_word hj hn hF hr]
  exact ⟨rfl, hw⟩
theorem SiD.at100 {s : Si} (h : SiD s) : in100 s.x = true ∧ in100 s.y = true := by
  have := h.x
  have := h.y
  unfold in100
  simp; omega
set_option maxRecDepth 100000 in
set_option maxHeartbeats 400000 in
theorem l04Site_any (s : Si) (hs : SiD s) (w : World) :
    Calls Try.prog 29 #[.agg s.cells] w fun e w' => e = .returned (.bool true) ∧ Below w.heap.size w w' := by
  have h1 := fun w' => l03Ok_any s.px s.py s.rt (by have := hs.px; omega) (by have := hs.py; omega) w'
  have h2 := fun w' => l03Place_any s.x w'
  have h3 := fun w' => l03Place_any s.y w'
  rw [hs.rate.1] at h1
  rw [hs.at100.1] at h2
  rw [hs.at100.2] at h3
  have a1 := hs.x
  have a2 := hs.y
  have wx : IntKind.i64.wrap s.x = s.x := by rw [IntKind.wrap_i64]; omega
  have wy : IntKind.i64.wrap s.y = s.y := by rw [IntKind.wrap_i64]; omega
  clear a1 a2
  rw [s.cells_eq]
  have hB := Blk.new w #[.int .i8 s.px, .int .i8 s.py, .float .f32 s.rt, .int .i8 s.x, .int .i8 s.y] 32
  have hb := below1 w (.cells #[.int .i8 s.px, .int .i8 s.py, .float .f32 s.rt, .int .i8 s.x, .int .i8 s.y] 32)
  have z3 : (w.alloc (.cells #[.int .i8 s.px, .int .i8 s.py, .float .f32 s.rt, .int .i8 s.x, .int .i8 s.y] 32)).cell? ⟨w.heap.size, 3, none⟩ = some (.int .i8 s.x) := hB.cell 3
  have z4 : (w.alloc (.cells #[.int .i8 s.px, .int .i8 s.py, .float .f32 s.rt, .int .i8 s.x, .int .i8 s.y] 32)).cell? ⟨w.heap.size, 4, none⟩ = some (.int .i8 s.y) := hB.cell 4
  clear hs
  go_enter Try.func29, Try.ntmps29
  go_upto_region 1 with fail
  generalize w.alloc (.cells #[.int .i8 s.px, .int .i8 s.py, .float .f32 s.rt, .int .i8 s.x, .int .i8 s.y] 32) = W at *
  go_wp2_with (first | (refine wpList_load_partF rfl rfl rfl rowWlF hB (siZ s) (siE s) ?_) | (go_at_call 56; refine (h1 _).mono ?_; rintro e w1 ⟨rfl, hb1⟩; have q3 := (hb1.cell (p := ⟨w.heap.size, 3, none⟩) hB.lt).trans z3; have q4 := (hb1.cell (p := ⟨w.heap.size, 4, none⟩) hB.lt).trans z4) | (go_at_call 57; first | (refine (h2 _).mono ?_; rintro e w' ⟨rfl, hw⟩; rw [hw]; clear hw w') | (refine (h3 _).mono ?_; rintro e w' ⟨rfl, hw⟩; rw [hw]; clear hw w')))
  go_ret
  exact ⟨rfl, hb.trans (hb1.mono hb.size)⟩
set_option maxRecDepth 100000 in
set_option maxHeartbeats 400000 in
theorem l04Drawdown_any (T S : Nat) (hA : Aq T S) (s : Si) (hs : SiD s) (t : Int) (h1 : 1 ≤ t ∧ t ≤ 100000) (w : World) :
    Calls Try.prog 32 #[.agg #[.float .f32 T, .float .f32 S], .agg s.cells, .int .i64 t] w fun e w' => e = .returned (.float .f32 (sdX T S s t.toNat)) ∧ Below w.heap.size w w' := by
  obtain ⟨m, rfl⟩ : ∃ m : Nat, t = m := ⟨t.toNat, by omega⟩
  have hd := fun w' => l03Drawdown_any T S s.wl s.x s.y m hA ⟨by have := hs.px; show -100 ≤ s.px ∧ s.px ≤ 100; omega, by have := hs.py; show -100 ≤ s.py ∧ s.py ≤ 100; omega⟩ (hs.rate.2.1.mono (by omega)) (by have := hs.px; have := hs.x; show -15 ≤ s.x - s.px ∧ s.x - s.px ≤ 15; omega) (by have := hs.py; have := hs.y; show -15 ≤ s.y - s.py ∧ s.y - s.py ≤ 15; omega) (by omega) (by omega) w'
  rw [s.wl.cells_eq] at hd
  have hD : ddX T S s.wl.rt (s.x - s.wl.px) (s.y - s.wl.py) m = sdX T S s (m : Int).toNat := rfl
  rw [hD] at hd
  generalize sdX T S s (m : Int).toNat = D at *
  change ∀ w', Calls _ _ #[_, .agg #[.int .i8 s.px, .int .i8 s.py, .float .f32 s.rt], _, _, _] w' _ at hd
  have a1 := hs.x
  have a2 := hs.y
  have wx : IntKind.i64.wrap s.x = s.x := by rw [IntKind.wrap_i64]; omega
  have wy : IntKind.i64.wrap s.y = s.y := by rw [IntKind.wrap_i64]; omega
  clear a1 a2
  rw [s.cells_eq]
  have hA0 : Blk ((w.alloc (.cells #[.float .f32 T, .float .f32 S] 26)).alloc (.cells #[.int .i8 s.px, .int .i8 s.py, .float .f32 s.rt, .int .i8 s.x, .int .i8 s.y] 32)) w.heap.size #[.float .f32 T, .float .f32 S] 26 := (Blk.new _ _ _).alloc _
  have hB : Blk ((w.alloc (.cells #[.float .f32 T, .float .f32 S] 26)).alloc (.cells #[.int .i8 s.px, .int .i8 s.py, .float .f32 s.rt, .int .i8 s.x, .int .i8 s.y] 32)) (w.heap.size + 1) #[.int .i8 s.px, .int .i8 s.py, .float .f32 s.rt, .int .i8 s.x, .int .i8 s.y] 32 := Blk.new1 _ _ _ _
  have hb : Below w.heap.size w ((w.alloc (.cells #[.float .f32 T, .float .f32 S] 26)).alloc (.cells #[.int .i8 s.px, .int .i8 s.py, .float .f32 s.rt, .int .i8 s.x, .int .i8 s.y] 32)) := below2 w _ _
  have z3 : ((w.alloc (.cells #[.float .f32 T, .float .f32 S] 26)).alloc (.cells #[.int .i8 s.px, .int .i8 s.py, .float .f32 s.rt, .int .i8 s.x, .int .i8 s.y] 32)).cell? ⟨w.heap.size + 1, 3, none⟩ = some (.int .i8 s.x) := hB.cell 3
  have z4 : ((w.alloc (.cells #[.float .f32 T, .float .f32 S] 26)).alloc (.cells #[.int .i8 s.px, .int .i8 s.py, .float .f32 s.rt, .int .i8 s.x, .int .i8 s.y] 32)).cell? ⟨w.heap.size + 1, 4, none⟩ = some (.int .i8 s.y) := hB.cell 4
  clear hs hA hD
  go_enter Try.func32, Try.ntmps32
  go_upto_region 1 with fail
  generalize (w.alloc (.cells #[.float .f32 T, .float .f32 S] 26)).alloc (.cells #[.int .i8 s.px, .int .i8 s.py, .float .f32 s.rt, .int .i8 s.x, .int .i8 s.y] 32) = W at *
  go_wp2_with (first | (refine wpList_load_blk rfl rfl rfl rowAq hA0 rfl ?_) | (refine wpList_load_partF rfl rfl rfl rowWlF hB (siZ s) (siE s) ?_) | (go_at_call 58; refine (hd _).mono ?_; rintro e w1 ⟨rfl, hb1⟩))
  go_ret
  exact ⟨rfl, hb.trans (hb1.mono hb.size)⟩
set_option maxRecDepth 100000 in
set_option maxHeartbeats 400000 in
theorem l04Level_any (p : Rg) (hp : RgD p) (w : World) :
    Calls Try.prog 70 #[.agg p.cells] w fun e w' => e = .returned (.float .f32 (levX p.lev)) ∧ Below w.heap.size w w' := by
  obtain ⟨c1, r1⟩ := levX_op hp.2.1 hp.2.2
  rw [p.cells_eq]
  unfold fI at c1 r1
  generalize levX p.lev = L at *
  go_enter Try.func70, Try.ntmps70
  go_wp2_with fail
  go_ret
  exact ⟨rfl, below_drewN (below1 _ _) _⟩
set_option maxRecDepth 100000 in
set_option maxHeartbeats 1000000 in
theorem l04Difference_any (T S : Nat) (hA : Aq T S) (s : Si) (hs : SiD s) (p : Rg) (hp : RgD p) (w : World) :
    Calls Try.prog 52 #[.agg #[.float .f32 T, .float .f32 S], .agg s.cells, .agg p.cells] w fun e w' => e = .returned (.float .f32 (dfX T S s p)) ∧ Below w.heap.size w w' := by
  obtain ⟨c1, r1⟩ := dfX_op hA hs hp
  have hl := fun w' => l04Level_any p hp w'
  have hd := fun w' => l04Drawdown_any T S hA s hs p.tim hp.1 w'
  rw [p.cells_eq] at hl ⊢
  rw [s.cells_eq] at hd ⊢
  have hA0 : Blk (((w.alloc (.cells #[.float .f32 T, .float .f32 S] 26)).alloc (.cells #[.int .i8 s.px, .int .i8 s.py, .float .f32 s.rt, .int .i8 s.x, .int .i8 s.y] 32)).alloc (.cells #[.int .i64 p.tim, .int .i16 p.lev] 67)) w.heap.size #[.float .f32 T, .float .f32 S] 26 := ((Blk.new _ _ _).alloc _).alloc _
  have hB0 : Blk (((w.alloc (.cells #[.float .f32 T, .float .f32 S] 26)).alloc (.cells #[.int .i8 s.px, .int .i8 s.py, .float .f32 s.rt, .int .i8 s.x, .int .i8 s.y] 32)).alloc (.cells #[.int .i64 p.tim, .int .i16 p.lev] 67)) (w.heap.size + 1) #[.int .i8 s.px, .int .i8 s.py, .float .f32 s.rt, .int .i8 s.x, .int .i8 s.y] 32 := (Blk.new1 _ _ _ _).alloc _
  have hC0 : Blk (((w.alloc (.cells #[.float .f32 T, .float .f32 S] 26)).alloc (.cells #[.int .i8 s.px, .int .i8 s.py, .float .f32 s.rt, .int .i8 s.x, .int .i8 s.y] 32)).alloc (.cells #[.int .i64 p.tim, .int .i16 p.lev] 67)) (w.heap.size + 1 + 1) #[.int .i64 p.tim, .int .i16 p.lev] 67 := Blk.new2 _ _ _ _ _
  have hb : Below w.heap.size w (((w.alloc (.cells #[.float .f32 T, .float .f32 S] 26)).alloc (.cells #[.int .i8 s.px, .int .i8 s.py, .float .f32 s.rt, .int .i8 s.x, .int .i8 s.y] 32)).alloc (.cells #[.int .i64 p.tim, .int .i16 p.lev] 67)) := below3 w _ _ _
  generalize dfX T S s p = D at *
  generalize levX p.lev = L at *
  generalize sdX T S s p.tim.toNat = X at *
  clear hA hs hp
  go_enter Try.func52, Try.ntmps52
  go_upto_region 1 with fail
  generalize ((w.alloc (.cells #[.float .f32 T, .float .f32 S] 26)).alloc (.cells #[.int .i8 s.px, .int .i8 s.py, .float .f32 s.rt, .int .i8 s.x, .int .i8 s.y] 32)).alloc (.cells #[.int .i64 p.tim, .int .i16 p.lev] 67) = W at *
  obtain ⟨b2, e2⟩ : ∃ b, w.heap.size + 1 + 1 = b := ⟨_, rfl⟩
  rw [e2] at hC0 ⊢
  clear e2
  obtain ⟨b1, e1⟩ : ∃ b, w.heap.size + 1 = b := ⟨_, rfl⟩
  rw [e1] at hB0 ⊢
  clear e1
  obtain ⟨b0, e0⟩ : ∃ b, w.heap.size = b := ⟨_, rfl⟩
  rw [e0] at hA0 ⊢
  have l_b2 := hC0.lt
  have z0 : W.cell? ⟨b2, 0, none⟩ = some (.int .i64 p.tim) := hC0.cell 0
  refine wp_splitK 7 (C := fun w' => Below W.heap.size W w') (R := fun w w' => Below w.heap.size w w') (F := fun _ dd vv => match dd, vv with
    | 7, vv => vv = .agg (#[.int .i64 p.tim, .int .i16 p.lev])
    | 8, vv => vv = .float .f32 L
    | 9, vv => vv = .agg (#[.float .f32 T, .float .f32 S])
    | 10, vv => vv = .agg (#[.int .i8 s.px, .int .i8 s.py, .float .f32 s.rt, .int .i8 s.x, .int .i8 s.y])
    | 11, vv => vv = .pointer (some ⟨b2, 0, none⟩)
    | 12, vv => vv = .int .i64 p.tim
    | 13, vv => vv = .float .f32 X
    | _, _ => True) (fun _ _ _ _ _ h => h) (by kernel_rfl) (by kernel_rfl) (by kernel_rfl) (Below.refl _ _).drew ?_ ?_
  · refine ⟨step_go rfl fun ev w1 hC kn => ?_, ?_⟩
    · have e1 : ev (.tmp 5) = .pointer (some ⟨b2, 0, none⟩) := kn.out 5 rfl rfl rfl
      exact good_of (v := .agg (#[.int .i64 p.tim, .int .i16 p.lev])) rfl (load_blk e1 rowRg (hC0.below hC hC0.lt) rfl) hC (Below.refl _ _) rfl
    refine ⟨step_go rfl fun ev w1 hC kn => ?_, ?_⟩
    · have e1 : ev (.tmp 7) = .agg (#[.int .i64 p.tim, .int .i16 p.lev]) := kn.inn 7 rfl rfl
      refine good_call (f := 70) (args := #[.agg (#[.int .i64 p.tim, .int .i16 p.lev])]) rfl (by simp [execOp, e1, kn.fn, kn.con, go_sem]) ((hl w1).mono fun e w2 ⟨he, hb⟩ => ⟨_, he, hC.trans (hb.mono hC.size), hb, rfl⟩)
    refine ⟨step_go rfl fun ev w1 hC kn => ?_, ?_⟩
    · have e1 : ev (.tmp 3) = .pointer (some ⟨b0, 0, none⟩) := kn.out 3 rfl rfl rfl
      exact good_of (v := .agg (#[.float .f32 T, .float .f32 S])) rfl (load_blk e1 rowAq (hA0.below hC hA0.lt) rfl) hC (Below.refl _ _) rfl
    refine ⟨step_go rfl fun ev w1 hC kn => ?_, ?_⟩
    · have e1 : ev (.tmp 4) = .pointer (some ⟨b1, 0, none⟩) := kn.out 4 rfl rfl rfl
      exact good_of (v := .agg (#[.int .i8 s.px, .int .i8 s.py, .float .f32 s.rt, .int .i8 s.x, .int .i8 s.y])) rfl (load_blk e1 rowSi (hB0.below hC hB0.lt) rfl) hC (Below.refl _ _) rfl
    refine ⟨step_go rfl fun ev w1 hC kn => ?_, ?_⟩
    · have e1 : ev (.tmp 5) = .pointer (some ⟨b2, 0, none⟩) := kn.out 5 rfl rfl rfl
      exact good_of (v := .pointer (some ⟨b2, 0, none⟩)) rfl (by simp only [execOp, e1]; rfl) hC (Below.refl _ _) rfl
    refine ⟨step_go rfl fun ev w1 hC kn => ?_, ?_⟩
    · have e1 : ev (.tmp 11) = .pointer (some ⟨b2, 0, none⟩) := kn.inn 11 rfl rfl
      have c1 := (hC.cell (p := ⟨b2, 0, none⟩) l_b2).trans z0
      exact good_of (v := .int .i64 p.tim) rfl (by simp [execOp, e1, go_sem, c1]) hC (Below.refl _ _) rfl
    refine ⟨step_go rfl fun ev w1 hC kn => ?_, ?_⟩
    · have e1 : ev (.tmp 9) = .agg (#[.float .f32 T, .float .f32 S]) := kn.inn 9 rfl rfl
      have e2 : ev (.tmp 10) = .agg (#[.int .i8 s.px, .int .i8 s.py, .float .f32 s.rt, .int .i8 s.x, .int .i8 s.y]) := kn.inn 10 rfl rfl
      have e3 : ev (.tmp 12) = .int .i64 p.tim := kn.inn 12 rfl rfl
      refine good_call (f := 32) (args := #[.agg (#[.float .f32 T, .float .f32 S]), .agg (#[.int .i8 s.px, .int .i8 s.py, .float .f32 s.rt, .int .i8 s.x, .int .i8 s.y]), .int .i64 p.tim]) rfl (by simp [execOp, e1, e2, e3, kn.fn, kn.con, go_sem]) ((hd w1).mono fun e w2 ⟨he, hb⟩ => ⟨_, he, hC.trans (hb.mono hC.size), hb, rfl⟩)
    exact trivial
  rintro xv w1 hxv hC9
  have y8 : xv 8 = .float .f32 L := hxv 8 (by decide)
  have y13 : xv 13 = .float .f32 X := hxv 13 (by decide)
  simp only [fill, dstsOf, List.filterMap_cons, List.filterMap_nil, List.foldl_cons, List.foldl_nil, List.set_cons_succ, List.set_cons_zero, List.take_succ_cons, List.take_zero, List.drop_succ_cons, List.drop_zero, y8, y13]
  clear hxv y8 y13
  go_wp2_with fail
  go_ret
  exact ⟨rfl, below_drewN (hb.trans (hC9.mono hb.size)) _⟩
set_option maxRecDepth 100000 in
set_option maxHeartbeats 1000000 in
theorem l04Misfit_any (T S : Nat) (hA : Aq T S) (s : Si) (hs : SiD s) (n : Nat) (hn : n ≤ 8) (R : Nat → Rg) (hR : ∀ i, i < n → RgD (R i)) (v : Value) (w : World) (hv : RSl w v n R) :
    Calls Try.prog 38 #[.agg #[.float .f32 T, .float .f32 S], .agg s.cells, v] w fun e w' => e = .returned (.float .f32 (mfX s R n T S)) ∧ Below w.heap.size w w' := by
  have hb := below2 w (.cells #[.float .f32 T, .float .f32 S] 26) (.cells #[.int .i8 s.px, .int .i8 s.py, .float .f32 s.rt, .int .i8 s.x, .int .i8 s.y] 32)
  have hv := hv.below hb
  obtain ⟨a, c, rfl, hc1, hc2, hcell⟩ := hv
  unfold maxLen at hc2
  have hdd := fun i (hi : i < n) w' => l04Difference_any T S hA s hs (R i) (hR i hi) w'
  have hsz := fun i (hi : i < n) w' => l03Size_is (dfX T S s (R i)) w'
  have hsm := fun g v w' hO => l03SumN_is (F := fun i => szS (dfX T S s (R i))) (j := 220) (n := n) (by omega) (by omega) (fun i hi => by rw [dfX_size hA hs (hR i hi)]; unfold Mg fab; rw [Nat.mod_mod]; exact dfX_mg hA hs (hR i hi)) g v w' hO
  have hM : fsumTo (fun i => szS (dfX T S s (R i))) n = mfX s R n T S := fsumTo_congr n fun i hi => dfX_size hA hs (hR i hi)
  rw [hM] at hsm
  clear hM
  rw [s.cells_eq] at hdd ⊢
  have hA0 : Blk ((w.alloc (.cells #[.float .f32 T, .float .f32 S] 26)).alloc (.cells #[.int .i8 s.px, .int .i8 s.py, .float .f32 s.rt, .int .i8 s.x, .int .i8 s.y] 32)) w.heap.size #[.float .f32 T, .float .f32 S] 26 := (Blk.new _ _ _).alloc _
  have hB0 : Blk ((w.alloc (.cells #[.float .f32 T, .float .f32 S] 26)).alloc (.cells #[.int .i8 s.px, .int .i8 s.py, .float .f32 s.rt, .int .i8 s.x, .int .i8 s.y] 32)) (w.heap.size + 1) #[.int .i8 s.px, .int .i8 s.py, .float .f32 s.rt, .int .i8 s.x, .int .i8 s.y] 32 := Blk.new1 _ _ _ _
  generalize mfX s R n T S = Z at *
  obtain ⟨E, hE⟩ : ∃ E : Nat → Nat, (fun i => dfX T S s (R i)) = E := ⟨_, rfl⟩
  have hE2 : ∀ i, dfX T S s (R i) = E i := fun i => congrFun hE i
  simp only [hE2] at hdd hsz hsm
  have HC := Lib.hid hcell
  have HD := Lib.hid hdd
  have HS := Lib.hid hsz
  have HM := Lib.hid hsm
  clear hcell hdd hsz hsm hE hE2 hA hs hR
  go_enter Try.func38, Try.ntmps38
  go_upto_region 1 with fail
  generalize (w.alloc (.cells #[.float .f32 T, .float .f32 S] 26)).alloc (.cells #[.int .i8 s.px, .int .i8 s.py, .float .f32 s.rt, .int .i8 s.x, .int .i8 s.y] 32) = W at *
  have lA := hA0.lt
  have lB := hB0.lt
  go_upto_region 2 with fail
  have hG : Own (W.alloc (.cells #[] 24)) W.heap.size 24 1 (.slice (some ⟨W.heap.size, 0, none⟩) 0 0) 0 (fls 0 (fun i => szS (E i))) := own_blk (Blk.new _ _ _) rfl (by decide) (by rw [fls_zero])
  have hA1 := hA0.alloc (.cells #[] 24)
  have hB1 := hB0.alloc (.cells #[] 24)
  have hb1 := hb.alloc hb.size (.cells #[] 24)
  have hbW := below1 W (.cells #[] 24)
  generalize W.alloc (.cells #[] 24) = W2 at *
  obtain ⟨g0, hg0⟩ : ∃ g, W.heap.size = g := ⟨_, rfl⟩
  rw [hg0] at hG ⊢
  obtain ⟨b1, e1⟩ : ∃ b, w.heap.size + 1 = b := ⟨_, rfl⟩
  rw [e1] at hB1 ⊢
  obtain ⟨b0, e0⟩ : ∃ b, w.heap.size = b := ⟨_, rfl⟩
  rw [e0] at hA1 ⊢
  go_wp2_with fail
  go_loopw [7, 8] (fun y i wr => ∃ (k gb : Nat), k ≤ n ∧ i = .int .i64 k ∧ Own wr gb 24 1 y k (fls k (fun i => szS (E i))) ∧ g0 ≤ gb ∧ Below b0 w wr ∧ Below W.heap.size W wr ∧ Blk wr b0 #[.float .f32 T, .float .f32 S] 26 ∧ Blk wr b1 #[.int .i8 s.px, .int .i8 s.py, .float .f32 s.rt, .int .i8 s.x, .int .i8 s.y] 32) (fun _ i _ => n - (intOf i).toNat)
  case atStart => exact ⟨0, g0, by omega, rfl, hG, Nat.le_refl _, by rw [← e0]; exact hb1, hbW, hA1, hB1⟩
  case round =>
    clear hG hb1 hbW hA1 hB1
    obtain ⟨k, gb, hk, rfl, hG, hgb, hbs, hbW, hA1, hB1⟩ := hrel
    have bk : (0 : Int) ≤ k := by omega
    by_cases hlt : k < n
    · have bl : (k : Int) < n := by omega
      obtain ⟨b, o, rfl, hb, hcell⟩ := HC.out.resolve_left (by omega)
      have z0 : wr.cell? ⟨b, o + k * 2, none⟩ = some (.int .i64 (R k).tim) := (hbW.cell (p := ⟨b, _, none⟩) hb).trans ((hcell k 0 hlt (by omega)).trans (R k).get0)
      have z1 : wr.cell? ⟨b, o + k * 2 + 1, none⟩ = some (.int .i16 (R k).lev) := (hbW.cell (p := ⟨b, _, none⟩) hb).trans ((hcell k 1 hlt (by omega)).trans (R k).get1)
      have hd := HD.out k hlt
      have hs := HS.out k hlt
      rw [(R k).cells_eq] at hd
      clear hcell
      obtain ⟨cap, rfl, hcap, hcapm⟩ := hG.form
      have sr := hbs.size
      have sW := hbW.size
      have lb : b < wr.heap.size := by omega
      have lA1 := hA1.lt
      have lB1 := hB1.lt
      have lG1 := hG.lt
      unfold maxLen at hcapm
      go_wp2_with fail
      refine wp_splitK 10 (C := fun w' => Below wr.heap.size wr w') (R := fun w w' => Below w.heap.size w w') (F := fun ww dd vv => match dd, vv with
        | 16, vv => vv = .slice (some ⟨gb, 0, none⟩) k cap
        | 17, vv => vv = .agg (#[.float .f32 T, .float .f32 S])
        | 18, vv => vv = .agg (#[.int .i8 s.px, .int .i8 s.py, .float .f32 s.rt, .int .i8 s.x, .int .i8 s.y])
        | 19, vv => vv = .slice (some ⟨b, o, none⟩) n c
        | 20, vv => vv = .int .i64 k
        | 21, vv => vv = .pointer (some ⟨b, o + k * 2, none⟩)
        | 22, vv => vv = .agg (#[.int .i64 (R k).tim, .int .i16 (R k).lev])
        | 23, vv => vv = .float .f32 (E k)
        | 24, vv => vv = .float .f32 (szS (E k))
        | 25, vv => ∃ q, wr.heap.size ≤ q ∧ vv = .slice (some ⟨q, 0, none⟩) 1 1 ∧ Blk ww q #[.float .f32 (szS (E k))] 24
        | _, _ => True) (fun wa wb d v hRR => by split <;> intro hFF <;> first | exact hFF | (obtain ⟨q, h1, h2, h3⟩ := hFF; exact ⟨q, h1, h2, h3.below hRR h3.lt⟩)) (by kernel_rfl) (by kernel_rfl) (by kernel_rfl) (Below.refl _ _).drew ?_ ?_
      · refine ⟨step_go rfl fun ev w1 hC kn => ?_, ?_⟩
        · have e1 : ev (.tmp 7) = .slice (some ⟨gb, 0, none⟩) k cap := kn.out 7 rfl rfl rfl
          exact good_of (v := .slice (some ⟨gb, 0, none⟩) k cap) rfl (by simp [execOp, e1, kn.con, go_sem]) hC (Below.refl _ _) rfl
        refine ⟨step_go rfl fun ev w1 hC kn => ?_, ?_⟩
        · have e1 : ev (.tmp 3) = .pointer (some ⟨b0, 0, none⟩) := kn.out 3 rfl rfl rfl
          exact good_of (v := .agg (#[.float .f32 T, .float .f32 S])) rfl (load_blk e1 rowAq (hA1.below hC lA1) rfl) hC (Below.refl _ _) rfl
        refine ⟨step_go rfl fun ev w1 hC kn => ?_, ?_⟩
        · have e1 : ev (.tmp 4) = .pointer (some ⟨b1, 0, none⟩) := kn.out 4 rfl rfl rfl
          exact good_of (v := .agg (#[.int .i8 s.px, .int .i8 s.py, .float .f32 s.rt, .int .i8 s.x, .int .i8 s.y])) rfl (load_blk e1 rowSi (hB1.below hC lB1) rfl) hC (Below.refl _ _) rfl
        refine ⟨step_go rfl fun ev w1 hC kn => ?_, ?_⟩
        · have e1 : ev (.tmp 2) = .slice (some ⟨b, o, none⟩) n c := kn.out 2 rfl rfl rfl
          exact good_of (v := .slice (some ⟨b, o, none⟩) n c) rfl (by simp [execOp, e1, kn.con, go_sem]) hC (Below.refl _ _) rfl
        refine ⟨step_go rfl fun ev w1 hC kn => ?_, ?_⟩
        · have e1 : ev (.tmp 8) = .int .i64 k := kn.out 8 rfl rfl rfl
          exact good_of (v := .int .i64 k) rfl (by simp [execOp, e1, kn.con, go_sem]) hC (Below.refl _ _) rfl
        refine ⟨step_go rfl fun ev w1 hC kn => ?_, ?_⟩
        · have e1 : ev (.tmp 19) = .slice (some ⟨b, o, none⟩) n c := kn.inn 19 rfl rfl
          have e2 : ev (.tmp 20) = .int .i64 k := kn.inn 20 rfl rfl
          exact good_of (v := .pointer (some ⟨b, o + k * 2, none⟩)) rfl (by simp [execOp, e1, e2, kn.con, go_sem, bk, bl]) hC (Below.refl _ _) rfl
        refine ⟨step_go rfl fun ev w1 hC kn => ?_, ?_⟩
        · have e1 : ev (.tmp 21) = .pointer (some ⟨b, o + k * 2, none⟩) := kn.inn 21 rfl rfl
          exact good_of (v := .agg (#[.int .i64 (R k).tim, .int .i16 (R k).lev])) rfl (load_rg2 e1 (below_cell hC lb z0) (below_cell hC lb z1)) hC (Below.refl _ _) rfl
        refine ⟨step_go rfl fun ev w1 hC kn => ?_, ?_⟩
        · have e1 : ev (.tmp 17) = .agg (#[.float .f32 T, .float .f32 S]) := kn.inn 17 rfl rfl
          have e2 : ev (.tmp 18) = .agg (#[.int .i8 s.px, .int .i8 s.py, .float .f32 s.rt, .int .i8 s.x, .int .i8 s.y]) := kn.inn 18 rfl rfl
          have e3 : ev (.tmp 22) = .agg (#[.int .i64 (R k).tim, .int .i16 (R k).lev]) := kn.inn 22 rfl rfl
          refine good_call (f := 52) (args := #[.agg (#[.float .f32 T, .float .f32 S]), .agg (#[.int .i8 s.px, .int .i8 s.py, .float .f32 s.rt, .int .i8 s.x, .int .i8 s.y]), .agg (#[.int .i64 (R k).tim, .int .i16 (R k).lev])]) rfl (by simp [execOp, e1, e2, e3, kn.fn, kn.con, go_sem]) ((hd w1).mono fun e w2 ⟨he, hb⟩ => ⟨_, he, hC.trans (hb.mono hC.size), hb, rfl⟩)
        refine ⟨step_go rfl fun ev w1 hC kn => ?_, ?_⟩
        · have e1 : ev (.tmp 23) = .float .f32 (E k) := kn.inn 23 rfl rfl
          refine good_call (f := 53) (args := #[.float .f32 (E k)]) rfl (by simp [execOp, e1, kn.fn, kn.con, go_sem]) ((hs w1).mono fun e w2 ⟨he, hw⟩ => ⟨_, he, by rw [hw]; exact hC, by rw [hw]; exact Below.refl _ _, rfl⟩)
        refine ⟨step_go rfl fun ev w1 hC kn => ?_, ?_⟩
        · have e1 : ev (.tmp 24) = .float .f32 (szS (E k)) := kn.inn 24 rfl rfl
          exact good_of (v := .slice (some ⟨w1.heap.size, 0, none⟩) 1 1) (w' := w1.alloc (.cells #[.float .f32 (szS (E k))] 24)) rfl (by simp [execOp, e1, go_sem]) (hC.alloc hC.size _) (below1 _ _) ⟨_, hC.size, rfl, Blk.new _ _ _⟩
        exact trivial
      rintro xv w1 hxv hC
      have y16 : xv 16 = .slice (some ⟨gb, 0, none⟩) k cap := hxv 16 (by decide)
      obtain ⟨q25, lq25, y25, bq25⟩ : ∃ q, wr.heap.size ≤ q ∧ xv 25 = .slice (some ⟨q, 0, none⟩) 1 1 ∧ Blk w1 q #[.float .f32 (szS (E k))] 24 := hxv 25 (by decide)
      simp only [fill, dstsOf, List.filterMap_cons, List.filterMap_nil, List.foldl_cons, List.foldl_nil, List.set_cons_succ, List.set_cons_zero, List.take_succ_cons, List.take_zero, List.drop_succ_cons, List.drop_zero, y16, y25]
      clear hxv y16 y25
      have hG4 := hG.below hC hG.lt
      have hA4 := hA1.below hC lA1
      have hB4 := hB1.below hC lB1
      have hb5 := hbs.trans (hC.mono (by omega))
      have hbW5 := hbW.trans (hC.mono sW)
      go_wp2_with (at_builtin; refine wpList_app elFW rfl rfl rfl rfl (by decide) hG4 bq25 rfl ?_ ?_ ?_ ?_; (· intro u hu; simp at hu; subst hu; rfl); (· unfold maxLen; omega); (· omega); intro v1 w7 g2 hown1 hgr1 hg1)
      have s5 := hb5.size
      have t5 := hbW5.size
      go_roundw
      case rel =>
        refine ⟨k + 1, g2, by omega, by go_num, ?_, ?_, ?_, ?_, ?_, ?_⟩
        · rw [fls_succ]; exact hown1
        · rcases hg1 with h | h
          · omega
          · rw [h]; omega
        · exact hb5.grown hgr1 (by omega) (fun k e => by injection e; omega)
        · exact hbW5.grown hgr1 (by omega) (fun k e => by injection e; omega)
        · exact hA4.grown hgr1 (fun e => by injection e; omega)
        · exact hB4.grown hgr1 (fun e => by injection e; omega)
      case measure => simp [intOf]; omega
    · obtain rfl : k = n := by omega
      have hsm := HM.out gb _ wr hG
      go_wp2_with (go_at_call 66; refine hsm.mono ?_; rintro e w8 ⟨rfl, q, rfl⟩)
      go_ret
      exact ⟨rfl, by rw [e0]; exact below_drewN hbs _⟩
end Go.Proofs.Ytglimhkpndfjgaa
/- Aquifers in memory: lists of them. Plain laws; no statement is proved here. -/
namespace Go.Proofs.Ytglimhkpndfjgaa
open Go.ChangeShapes Go.WideShapes Go.ChangeAt Go.RowKit
set_option linter.unusedVariables false
/-- An aquifer's words. -/
structure Aqf where
  T : Nat
  S : Nat
@[irreducible] def Aqf.cells (p : Aqf) : Array Value := #[.float .f32 p.T, .float .f32 p.S]
theorem Aqf.cells_eq (p : Aqf) : p.cells = #[.float .f32 p.T, .float .f32 p.S] := by unfold Aqf.cells; rfl
theorem Aqf.cells_size (p : Aqf) : p.cells.size = 2 := by rw [p.cells_eq]; rfl
theorem Aqf.get0 (p : Aqf) : p.cells[0]? = some (.float .f32 p.T) := by rw [p.cells_eq]; rfl
theorem Aqf.get1 (p : Aqf) : p.cells[1]? = some (.float .f32 p.S) := by rw [p.cells_eq]; rfl
theorem Aqf.one (p : Aqf) : ∀ v ∈ p.cells.toList, v.oneCell' = true := by
  intro v hv; rw [p.cells_eq] at hv; simp at hv; rcases hv with rfl | rfl <;> rfl
/-- n aquifers, one behind the other. -/
@[irreducible] def lqs (n : Nat) (P : Nat → Aqf) : List Value := (List.range n).flatMap fun i => (P i).cells.toList
theorem lqs_zero (P : Nat → Aqf) : lqs 0 P = [] := by simp [lqs]
theorem lqs_succ (n : Nat) (P : Nat → Aqf) : lqs (n + 1) P = lqs n P ++ (P n).cells.toList := by simp [lqs, List.range_succ, List.flatMap_append]
theorem lqs_length (n : Nat) (P : Nat → Aqf) : (lqs n P).length = n * 2 := by
  induction n with
  | zero => simp [lqs_zero]
  | succ n ih => rw [lqs_succ, List.length_append, ih]; simp [Aqf.cells_size]; omega
theorem lqs_congr {P P' : Nat → Aqf} : ∀ {n : Nat}, (∀ i, i < n → P i = P' i) → lqs n P = lqs n P'
  | 0, _ => by rw [lqs_zero, lqs_zero]
  | n + 1, h => by rw [lqs_succ, lqs_succ, lqs_congr (fun i hi => h i (by omega)), h n (by omega)]
theorem lqs_get (n : Nat) (P : Nat → Aqf) (i c : Nat) (h : i < n) (hc : c < 2) : (lqs n P)[i * 2 + c]? = (P i).cells[c]? := by
  induction n with
  | zero => omega
  | succ n ih =>
    rw [lqs_succ, List.getElem?_append, lqs_length]
    by_cases hi : i < n
    · rw [if_pos (by omega), ih hi]
    · obtain rfl : i = n := by omega
      rw [if_neg (by omega), show i * 2 + c - i * 2 = c by omega]; simp
theorem lqs_one (n : Nat) (P : Nat → Aqf) : ∀ v ∈ lqs n P, v.oneCell' = true := by
  intro v hv; unfold lqs at hv; simp only [List.mem_flatMap] at hv; obtain ⟨i, _, hi⟩ := hv; exact (P i).one v hi
theorem lqs_drop (n : Nat) (P : Nat → Aqf) (k : Nat) (h : k < n) : ((lqs n P).drop (k * 2)).take 2 = (P k).cells.toList := by
  apply List.ext_getElem?
  intro c
  rw [List.getElem?_take]
  by_cases hc : c < 2
  · rw [if_pos hc, List.getElem?_drop, lqs_get n P k c h hc]; simp
  · rw [if_neg hc, List.getElem?_eq_none]; simp [Aqf.cells_size]; omega

/-- The slice v holds n aquifers, P. -/
def QSl (w : World) (v : Value) (n : Nat) (P : Nat → Aqf) : Prop :=
  ∃ a cap, v = .slice a n cap ∧ n ≤ cap ∧ cap ≤ maxLen ∧ (n = 0 ∨ ∃ b o, a = some ⟨b, o, none⟩ ∧ b < w.heap.size ∧ ∀ i c, i < n → c < 2 → w.cell? ⟨b, o + i * 2 + c, none⟩ = (P i).cells[c]?)
theorem QSl.below {w w' : World} {v : Value} {n : Nat} {P : Nat → Aqf} (h : QSl w v n P) (hb : Below w.heap.size w w') : QSl w' v n P := by
  obtain ⟨a, cap, rfl, h1, h2, h3⟩ := h
  refine ⟨a, cap, rfl, h1, h2, ?_⟩
  rcases h3 with h3 | ⟨b, o, rfl, hlt, hc⟩
  · exact .inl h3
  · exact .inr ⟨b, o, rfl, Nat.lt_of_lt_of_le hlt hb.size, fun i c hi h3 => (hb.cell (p := ⟨b, _, none⟩) hlt).trans (hc i c hi h3)⟩
theorem Own.qsl {w : World} {g : Nat} {e : TypeId} {v : Value} {n : Nat} {P : Nat → Aqf} (h : Own w g e 2 v n (lqs n P)) : QSl w v n P := by
  obtain ⟨cap, rfl, h1, h2⟩ := h.form
  exact ⟨_, cap, rfl, h1, h2, .inr ⟨g, 0, rfl, h.lt, fun i c hi hc => by rw [Nat.zero_add, h.cell _ (by omega), lqs_get n P i c hi hc]⟩⟩

theorem elAqf : ElemTy Try.prog 46 26 2 8 := elem_of (z := .agg (Aqf.cells ⟨0, 0⟩)) Try.underlying46 (by unfold Aqf.cells; kernel_rfl) (Aqf.cells_size _)
theorem load_aq2 {ev : Operand → Value} {w : World} {x : Operand} {b o : Nat} {u v : Nat} {pos : String} {dst : Option Tmp} {tt : TypeId} {af : Array Edge} {gd : Option (Nat × Bool)} (hx : ev x = .pointer (some ⟨b, o, none⟩)) (c0 : w.cell? ⟨b, o, none⟩ = some (.float .f32 u)) (c1 : w.cell? ⟨b, o + 1, none⟩ = some (.float .f32 v)) : (execOp ev { dst := dst, op := .load 26 x, type := tt, pos := pos, after := af, guard := gd }).run Try.prog w = .ok (.value (.agg #[.float .f32 u, .float .f32 v])) w := by
  simp [execOp, hx, go_sem, c0, c1]
/-- The right ones of those that are tried, in memory. -/
def vA (l : List (Nat × Nat)) (i : Nat) : Aqf := ⟨vT l i, vS l i⟩
theorem vA_app (l : List (Nat × Nat)) (a : Nat × Nat) : lqs (l ++ [a]).length (vA (l ++ [a])) = lqs l.length (vA l) ++ [.float .f32 a.1, .float .f32 a.2] := by
  rw [List.length_append, List.length_singleton, lqs_succ, lqs_congr (P' := vA l) (fun i hi => by unfold vA vT vS; rw [getD_app hi])]
  congr 1
  rw [Aqf.cells_eq]
  unfold vA vT vS
  rw [getD_last]
end Go.Proofs.Ytglimhkpndfjgaa
/- Draws of the sixth week: times. -/
namespace Go.Proofs.Ytglimhkpndfjgaa
open Go.ChangeShapes Go.WideShapes Go.ChangeAt Go.RowKit
set_option linter.unusedVariables false
set_option linter.unusedSimpArgs false
attribute [local irreducible] Calls
/-- n whole numbers, one behind the other. -/
@[irreducible] def mts (n : Nat) (f : Nat → Int) : List Value := (List.range n).map fun i => .int .i64 (f i)
theorem mts_length (n : Nat) (f : Nat → Int) : (mts n f).length = n := by simp [mts]
theorem mts_get (n : Nat) (f : Nat → Int) (i : Nat) (h : i < n) : (mts n f)[i]? = some (.int .i64 (f i)) := by simp [mts, h]
theorem mts_zero (f : Nat → Int) : mts 0 f = [] := by simp [mts]
theorem mts_succ (n : Nat) (f : Nat → Int) : mts (n + 1) f = mts n f ++ [.int .i64 (f n)] := by simp [mts, List.range_succ]
theorem mts_congr {n : Nat} {f g : Nat → Int} (h : ∀ i, i < n → f i = g i) : mts n f = mts n g := by
  unfold mts; apply List.map_congr_left; intro i hi; rw [h i (List.mem_range.1 hi)]
theorem Own.tsl {w : World} {g : Nat} {e : TypeId} {v : Value} {n : Nat} {f : Nat → Int} (h : Own w g e 1 v n (mts n f)) : ISl w v n f := h.isl fun i hi => mts_get n f i hi
theorem elI64T : ElemTy Try.prog 37 2 1 8 := elem_of (z := .int .i64 0) Try.underlying37 (by kernel_rfl) rfl
/-- Drawn times. -/
def TmD (m : Nat) (f : Nat → Int) : Prop := m ≤ 8 ∧ (∀ i, i < m → 1 ≤ f i ∧ f i ≤ 96) ∧ ∀ i j, i < j → j < m → f i < f j
/-- What P6Times gives. -/
def GaveT (w : World) (e : Ending) (w' : World) : Prop := ∃ (x : Value) (g m : Nat) (f : Nat → Int), TmD m f ∧ e = .returned x ∧ w.heap.size ≤ g ∧ Own w' g 2 1 x m (mts m f) ∧ Below w.heap.size w w'
set_option maxRecDepth 100000 in
set_option maxHeartbeats 1000000 in
theorem p6Times_any (v : Value) (n : Nat) (w : World) (hv : Bytes w w.heap.size v n) :
    Calls Try.prog 8 #[v] w (GaveT w) := by
  have hs := src_new hv
  have hfr := l00From_any v n w hv
  have hbs := below1 w (.cells #[v, .int .i64 0, .int .u64 0] 90)
  generalize w.alloc (.cells #[v, .int .i64 0, .int .u64 0] 90) = W1 at *
  obtain ⟨b, hb⟩ : ∃ b, w.heap.size = b := ⟨_, rfl⟩
  rw [hb] at hs hfr
  have lb := hs.lt
  clear hv
  go_enter Try.func8, Try.ntmps8
  go_upto_region 3 with (go_at_call 26; refine hfr.mono ?_; rintro e w1 ⟨rfl, hw⟩; subst hw)
  have hs2 : Src (w1.alloc (.cells #[] 2)) b 0 := hs.move fun r hr => heap_alloc_old w1 _ (by omega)
  have hG : Own (w1.alloc (.cells #[] 2)) w1.heap.size 2 1 (.slice (some ⟨w1.heap.size, 0, none⟩) 0 0) 0 (mts 0 (fun _ => 0)) := own_blk (Blk.new _ _ _) rfl (by decide) (by rw [mts_zero])
  have hbs := hbs.alloc hbs.size (.cells #[] 2)
  have hq0 := hbs.size
  generalize w1.alloc (.cells #[] 2) = W2 at *
  generalize w1.heap.size = q at *
  have lq : b < q := lb
  have hp := fun (n : Int) (j : Nat) (h1 : 1 ≤ n) (h2 : n ≤ 1099511627776) (hj : j < 900000) (w' : World) (hs : Src w' b j) => pick_any b j n (by omega) h1 h2 w' hs
  go_upto_region 5 with (go_at_call 27; refine (hp 9 0 (by decide) (by decide) (by omega) _ hs2).mono ?_; rintro e w3 ⟨x, ⟨x0, x1⟩, rfl, hs3, hg3⟩)
  have hG := hG.grown hg3 (fun e => by injection e; omega)
  have hbs := hbs.grown hg3 (by have := hbs.size; omega) (fun k e => by injection e; omega)
  obtain ⟨X, hX⟩ : ∃ X : Nat, (X : Int) = x := ⟨x.toNat, by omega⟩
  subst hX
  have hX3 : X ≤ 8 := by omega
  clear hs hs2 hg3 x0 x1 hfr
  go_loopw [4, 5, 6] (fun y t i wr => ∃ (j m gb : Nat) (at_ : Int) (f : Nat → Int), j + m ≤ 8 ∧ i = .int .i64 j ∧ t = .int .i64 at_ ∧ 0 ≤ at_ ∧ at_ ≤ 12 * m ∧ Own wr gb 2 1 y m (mts m f) ∧ (∀ i, i < m → 1 ≤ f i ∧ f i ≤ at_) ∧ (∀ i j, i < j → j < m → f i < f j) ∧ Src wr b (2 + 2 * m) ∧ q ≤ gb ∧ Below w.heap.size w wr) (fun _ _ i _ => (intOf i).toNat)
  case atStart => exact ⟨X, 0, q, 0, _, by omega, rfl, rfl, by omega, by omega, hG, fun i hi => by omega, fun i j _ hj => by omega, hs3, Nat.le_refl _, hbs⟩
  case round =>
    clear hG hs3 hbs hX3
    obtain ⟨j, m, gb, at_, f, hjm, rfl, rfl, ha0, ha1, hG, hQ, hR, hsr, hgb, hbs⟩ := hrel
    by_cases hlt : 0 < j
    · have bj : (0 : Int) < j := by omega
      have HQ := Lib.hid hQ
      have HR := Lib.hid hR
      clear hQ hR
      have eb := hbs.size
      have lsr := hsr.lt
      have lG := hG.lt
      go_upto_region 8 with (go_at_call 27; refine (hp 12 (2 + 2 * m) (by decide) (by decide) (by omega) _ hsr).mono ?_; rintro e w4 ⟨x, ⟨x0, x1⟩, rfl, hs4, hg4⟩; clear hsr)
      have e4 := hg4.size
      have l4 := hs4.lt
      have hG4 := hG.grown hg4 (fun e => by injection e; omega)
      have hbs4 := hbs.grown hg4 eb (fun k e => by injection e; omega)
      clear hG hbs
      obtain ⟨t, ht⟩ : ∃ t, at_ + (1 + x) = t := ⟨_, rfl⟩
      rw [ht]
      have t1 : at_ < t := by omega
      have t2 : t ≤ at_ + 12 := by omega
      clear ht
      go_wp2_with (at_builtin; refine wpList_app elI64T rfl rfl rfl rfl (by decide) (hG4.alloc _) (Blk.new _ _ _) rfl ?_ ?_ ?_ ?_; (· intro u hu; simp at hu; subst hu; rfl); (· unfold maxLen; omega); (· omega); intro v1 w7 g2 hown1 hgr1 hg1)
      have s4 := hbs4.size
      go_roundw
      case rel =>
        refine ⟨j - 1, m + 1, g2, t, fun i => if i = m then t else f i, by omega, by rw [show ((j : Int) - 1) = ((j - 1 : Nat) : Int) by omega], rfl, by omega, by omega, ?_, ?_, ?_, ?_, ?_, ?_⟩
        · rw [mts_succ, if_pos rfl, mts_congr (g := f) (fun i hi => if_neg (by omega))]
          exact hown1
        · intro i hi
          by_cases him : i = m
          · simp only [him, if_true]; omega
          · simp only [him, if_false]; have := HQ.out i (by omega); omega
        · intro i k hik hk
          have hi : i ≠ m := by omega
          by_cases hkm : k = m
          · simp only [hkm, hi, if_true, if_false]; have := HQ.out i (by omega); omega
          · simp only [hkm, hi, if_false]; exact HR.out i k hik (by omega)
        · exact (hs4.mono (by omega)).move fun r' hr' => (hgr1.block r' (by simp; omega) (fun e => by injection e; omega)).trans (heap_alloc_old w4 _ (by omega))
        · rcases hg1 with h | h
          · omega
          · rw [h]; simp; omega
        · exact (hbs4.alloc (by omega) _).grown hgr1 (by simp; omega) (fun k e => by injection e; omega)
      case measure => simp [intOf]; omega
    · obtain rfl : j = 0 := by omega
      go_wp2_with fail
      go_ret
      exact ⟨_, gb, m, f, ⟨by omega, fun i hi => by have := hQ i hi; omega, hR⟩, rfl, by omega, hG, hbs⟩
end Go.Proofs.Ytglimhkpndfjgaa
