import Derived.Test.YtglimhkpndfjgaaGreatDoorMW22
import Derived.Test.YtglimhkpndfjgaaGreatDoorMW02
import Derived.Test.YtglimhkpndfjgaaGreatDoorMW10
import Derived.Test.YtglimhkpndfjgaaGreatDoorMW07
/- The lists of drawdowns: the reference's walk. -/
namespace Go.Proofs.YtglimhkpndfjgaaGreatDoor
open Go.ChangeShapes Go.WideShapes Go.ChangeAt Go.RowKit
set_option linter.unusedVariables false
set_option linter.unusedSimpArgs false
attribute [local irreducible] Calls
theorem below_cell {w w' : World} {B b i : Nat} {v : Value} (h : Below B w w') (hb : b < B) (c : w.cell? ⟨b, i, none⟩ = some v) : w'.cell? ⟨b, i, none⟩ = some v := (h.cell (p := ⟨b, i, none⟩) hb).trans c
theorem load_well3 {ev : Operand → Value} {w : World} {x : Operand} {b o : Nat} {u v : Int} {r : Nat} {pos : String} {dst : Option Tmp} {tt : TypeId} {af : Array Edge} {gd : Option (Nat × Bool)} (hx : ev x = .pointer (some ⟨b, o, none⟩)) (c0 : w.cell? ⟨b, o, none⟩ = some (.int .i8 u)) (c1 : w.cell? ⟨b, o + 1, none⟩ = some (.int .i8 v)) (c2 : w.cell? ⟨b, o + 2, none⟩ = some (.float .f32 r)) : (execOp ev { dst := dst, op := .load 51 x, type := tt, pos := pos, after := af, guard := gd }).run Tryz.prog w = .ok (.value (.agg #[.int .i8 u, .int .i8 v, .float .f32 r])) w := by
  simp [execOp, hx, go_sem, c0, c1, c2]
set_option maxRecDepth 100000 in
set_option maxHeartbeats 1000000 in
theorem l03Drawdowns_any (T S : Nat) (hA : Aq T S) (n : Nat) (hn : n ≤ 12) (P : Nat → Wl) (hP : ∀ i, i < n → WlD (P i)) (v : Value) (x y : Int) (hx : 0 ≤ x ∧ x ≤ 7) (hy : 0 ≤ y ∧ y ≤ 7) (time : Nat) (h1 : 1 ≤ time) (h2 : time ≤ 100000) (w : World) (hv : LSl w v n P) :
    Calls Tryz.prog 68 #[.agg #[.float .f32 T, .float .f32 S], v, .int .i64 x, .int .i64 y, .int .i64 time] w (GotDd w n (ddF T S P x y time)) := by
  have hA0 := Blk.new w #[.float .f32 T, .float .f32 S] 26
  have hbel := below1 w (.cells #[.float .f32 T, .float .f32 S] 26)
  have hv := hv.below hbel
  obtain ⟨a, c, rfl, hc1, hc2, hcell⟩ := hv
  unfold maxLen at hc2
  have hdd := fun i (hi : i < n) w' => l03Drawdown_any T S (P i) x y time hA ⟨(hP i hi).ok.1, (hP i hi).ok.2.1⟩ (hP i hi).mg (by have := (hP i hi).1; omega) (by have := (hP i hi).2.1; omega) h1 h2 w'
  have HC := Lib.hid hcell
  have HD := Lib.hid hdd
  clear hcell hdd hP
  obtain ⟨F, hF⟩ : ∃ F, ddF T S P x y time = F := ⟨_, rfl⟩
  rw [hF]
  have HF := Lib.hid fun i => (congrFun hF i).symm
  clear hF
  go_enter Tryz.func68, Tryz.ntmps68
  go_upto_region 1 with fail
  generalize w.alloc (.cells #[.float .f32 T, .float .f32 S] 26) = W at *
  have lA := hA0.lt
  go_upto_region 2 with fail
  have hG : Own (W.alloc (.cells #[] 24)) W.heap.size 24 1 (.slice (some ⟨W.heap.size, 0, none⟩) 0 0) 0 (fls 0 F) := own_blk (Blk.new _ _ _) rfl (by decide) (by rw [fls_zero])
  have hA1 := hA0.alloc (.cells #[] 24)
  have hb1 := hbel.alloc hbel.size (.cells #[] 24)
  have hbW := below1 W (.cells #[] 24)
  generalize W.alloc (.cells #[] 24) = W2 at *
  obtain ⟨g0, hg0⟩ : ∃ g, W.heap.size = g := ⟨_, rfl⟩
  rw [hg0] at hG ⊢
  go_wp2_with fail
  go_loopw [11, 12] (fun y i wr => ∃ (k gb : Nat), k ≤ n ∧ i = .int .i64 k ∧ Own wr gb 24 1 y k (fls k F) ∧ g0 ≤ gb ∧ Below w.heap.size w wr ∧ Below W.heap.size W wr ∧ Blk wr w.heap.size #[.float .f32 T, .float .f32 S] 26) (fun _ i _ => n - (intOf i).toNat)
  case atStart => exact ⟨0, g0, by omega, rfl, hG, Nat.le_refl _, hb1, hbW, hA1⟩
  case round =>
    clear hG hb1 hbW hA1
    obtain ⟨k, gb, hk, rfl, hG, hgb, hbs, hbW, hA1⟩ := hrel
    have bk : (0 : Int) ≤ k := by omega
    by_cases hlt : k < n
    · have bl : (k : Int) < n := by omega
      obtain ⟨b, o, rfl, hb, hcell⟩ := HC.out.resolve_left (by omega)
      have z0 : wr.cell? ⟨b, o + k * 3, none⟩ = some (.int .i8 (P k).px) := (hbW.cell (p := ⟨b, _, none⟩) hb).trans ((hcell k 0 hlt (by omega)).trans (P k).get0)
      have z1 : wr.cell? ⟨b, o + k * 3 + 1, none⟩ = some (.int .i8 (P k).py) := (hbW.cell (p := ⟨b, _, none⟩) hb).trans ((hcell k 1 hlt (by omega)).trans (P k).get1)
      have z2 : wr.cell? ⟨b, o + k * 3 + 2, none⟩ = some (.float .f32 (P k).rt) := (hbW.cell (p := ⟨b, _, none⟩) hb).trans ((hcell k 2 hlt (by omega)).trans (P k).get2)
      have hd := HD.out k hlt
      rw [(P k).cells_eq] at hd
      have hfk : ddX T S (P k).rt (x - (P k).px) (y - (P k).py) time = F k := (HF.out k).symm
      rw [hfk] at hd
      clear hcell
      obtain ⟨cap, rfl, hcap, hcapm⟩ := hG.form
      have sr := hbs.size
      have sW := hbW.size
      have lb : b < wr.heap.size := by omega
      have lA1 := hA1.lt
      have lG1 := hG.lt
      unfold maxLen at hcapm
      obtain ⟨p0, hp0⟩ : ∃ p, w.heap.size = p := ⟨_, rfl⟩
      rw [hp0] at hA1 lA1 ⊢
      go_wp2_with fail
      refine wp_splitK 11 (C := fun w' => Below wr.heap.size wr w') (R := fun w w' => Below w.heap.size w w') (F := fun ww dd vv => match dd, vv with
        | 20, vv => vv = .slice (some ⟨gb, 0, none⟩) k cap
        | 21, vv => vv = .agg (#[.float .f32 T, .float .f32 S])
        | 22, vv => vv = .slice (some ⟨b, o, none⟩) n c
        | 23, vv => vv = .int .i64 k
        | 24, vv => vv = .pointer (some ⟨b, o + k * 3, none⟩)
        | 25, vv => vv = .agg (#[.int .i8 (P k).px, .int .i8 (P k).py, .float .f32 (P k).rt])
        | 26, vv => vv = .int .i64 x
        | 27, vv => vv = .int .i64 y
        | 28, vv => vv = .int .i64 time
        | 29, vv => vv = .float .f32 (F k)
        | 30, vv => ∃ q, wr.heap.size ≤ q ∧ vv = .slice (some ⟨q, 0, none⟩) 1 1 ∧ Blk ww q #[.float .f32 (F k)] 24
        | _, _ => True) (fun wa wb d v hRR => by split <;> intro hFF <;> first | exact hFF | (obtain ⟨q, h1, h2, h3⟩ := hFF; exact ⟨q, h1, h2, h3.below hRR h3.lt⟩)) (by kernel_rfl) (by kernel_rfl) (by kernel_rfl) (Below.refl _ _).drew ?_ ?_
      · refine ⟨step_go rfl fun ev w1 hC kn => ?_, ?_⟩
        · have e1 : ev (.tmp 11) = .slice (some ⟨gb, 0, none⟩) k cap := kn.out 11 rfl rfl rfl
          exact good_of (v := .slice (some ⟨gb, 0, none⟩) k cap) rfl (by simp [execOp, e1, kn.con, go_sem]) hC (Below.refl _ _) rfl
        refine ⟨step_go rfl fun ev w1 hC kn => ?_, ?_⟩
        · have e1 : ev (.tmp 5) = .pointer (some ⟨p0, 0, none⟩) := kn.out 5 rfl rfl rfl
          exact good_of (v := .agg (#[.float .f32 T, .float .f32 S])) rfl (load_blk e1 rowAq (hA1.below hC lA1) rfl) hC (Below.refl _ _) rfl
        refine ⟨step_go rfl fun ev w1 hC kn => ?_, ?_⟩
        · have e1 : ev (.tmp 1) = .slice (some ⟨b, o, none⟩) n c := kn.out 1 rfl rfl rfl
          exact good_of (v := .slice (some ⟨b, o, none⟩) n c) rfl (by simp [execOp, e1, kn.con, go_sem]) hC (Below.refl _ _) rfl
        refine ⟨step_go rfl fun ev w1 hC kn => ?_, ?_⟩
        · have e1 : ev (.tmp 12) = .int .i64 k := kn.out 12 rfl rfl rfl
          exact good_of (v := .int .i64 k) rfl (by simp [execOp, e1, kn.con, go_sem]) hC (Below.refl _ _) rfl
        refine ⟨step_go rfl fun ev w1 hC kn => ?_, ?_⟩
        · have e1 : ev (.tmp 22) = .slice (some ⟨b, o, none⟩) n c := kn.inn 22 rfl rfl
          have e2 : ev (.tmp 23) = .int .i64 k := kn.inn 23 rfl rfl
          exact good_of (v := .pointer (some ⟨b, o + k * 3, none⟩)) rfl (by simp [execOp, e1, e2, kn.con, go_sem, bk, bl]) hC (Below.refl _ _) rfl
        refine ⟨step_go rfl fun ev w1 hC kn => ?_, ?_⟩
        · have e1 : ev (.tmp 24) = .pointer (some ⟨b, o + k * 3, none⟩) := kn.inn 24 rfl rfl
          exact good_of (v := .agg (#[.int .i8 (P k).px, .int .i8 (P k).py, .float .f32 (P k).rt])) rfl (load_well3 e1 (below_cell hC lb z0) (below_cell hC lb z1) (below_cell hC lb z2)) hC (Below.refl _ _) rfl
        refine ⟨step_go rfl fun ev w1 hC kn => ?_, ?_⟩
        · have e1 : ev (.tmp 2) = .int .i64 x := kn.out 2 rfl rfl rfl
          exact good_of (v := .int .i64 x) rfl (by simp [execOp, e1, kn.con, go_sem]) hC (Below.refl _ _) rfl
        refine ⟨step_go rfl fun ev w1 hC kn => ?_, ?_⟩
        · have e1 : ev (.tmp 3) = .int .i64 y := kn.out 3 rfl rfl rfl
          exact good_of (v := .int .i64 y) rfl (by simp [execOp, e1, kn.con, go_sem]) hC (Below.refl _ _) rfl
        refine ⟨step_go rfl fun ev w1 hC kn => ?_, ?_⟩
        · have e1 : ev (.tmp 4) = .int .i64 time := kn.out 4 rfl rfl rfl
          exact good_of (v := .int .i64 time) rfl (by simp [execOp, e1, kn.con, go_sem]) hC (Below.refl _ _) rfl
        refine ⟨step_go rfl fun ev w1 hC kn => ?_, ?_⟩
        · have e1 : ev (.tmp 21) = .agg (#[.float .f32 T, .float .f32 S]) := kn.inn 21 rfl rfl
          have e2 : ev (.tmp 25) = .agg (#[.int .i8 (P k).px, .int .i8 (P k).py, .float .f32 (P k).rt]) := kn.inn 25 rfl rfl
          have e3 : ev (.tmp 26) = .int .i64 x := kn.inn 26 rfl rfl
          have e4 : ev (.tmp 27) = .int .i64 y := kn.inn 27 rfl rfl
          have e5 : ev (.tmp 28) = .int .i64 time := kn.inn 28 rfl rfl
          refine good_call (f := 131) (args := #[.agg (#[.float .f32 T, .float .f32 S]), .agg (#[.int .i8 (P k).px, .int .i8 (P k).py, .float .f32 (P k).rt]), .int .i64 x, .int .i64 y, .int .i64 time]) rfl (by simp [execOp, e1, e2, e3, e4, e5, kn.fn, kn.con, go_sem]) ((hd w1).mono fun e w2 ⟨he, hb⟩ => ⟨_, he, hC.trans (hb.mono hC.size), hb, rfl⟩)
        refine ⟨step_go rfl fun ev w1 hC kn => ?_, ?_⟩
        · have e1 : ev (.tmp 29) = .float .f32 (F k) := kn.inn 29 rfl rfl
          exact good_of (v := .slice (some ⟨w1.heap.size, 0, none⟩) 1 1) (w' := w1.alloc (.cells #[.float .f32 (F k)] 24)) rfl (by simp [execOp, e1, go_sem]) (hC.alloc hC.size _) (below1 _ _) ⟨_, hC.size, rfl, Blk.new _ _ _⟩
        exact trivial
      rintro xv w1 hxv hC
      have y20 : xv 20 = .slice (some ⟨gb, 0, none⟩) k cap := hxv 20 (by decide)
      obtain ⟨q30, lq30, y30, bq30⟩ : ∃ q, wr.heap.size ≤ q ∧ xv 30 = .slice (some ⟨q, 0, none⟩) 1 1 ∧ Blk w1 q #[.float .f32 (F k)] 24 := hxv 30 (by decide)
      simp only [fill, dstsOf, List.filterMap_cons, List.filterMap_nil, List.foldl_cons, List.foldl_nil, List.set_cons_succ, List.set_cons_zero, List.take_succ_cons, List.take_zero, List.drop_succ_cons, List.drop_zero, y20, y30]
      clear hxv y20 y30
      have hG4 := hG.below hC hG.lt
      have hA4 := hA1.below hC lA1
      have hb5 := hbs.trans (hC.mono sr)
      have hbW5 := hbW.trans (hC.mono sW)
      go_wp2_with (at_builtin; refine wpList_app elFW rfl rfl rfl rfl (by decide) hG4 bq30 rfl ?_ ?_ ?_ ?_; (· intro u hu; simp at hu; subst hu; rfl); (· unfold maxLen; omega); (· omega); intro v1 w7 g2 hown1 hgr1 hg1)
      have s5 := hb5.size
      have t5 := hbW5.size
      go_roundw
      case rel =>
        refine ⟨k + 1, g2, by omega, by go_num, ?_, ?_, ?_, ?_, ?_⟩
        · rw [fls_succ]; exact hown1
        · rcases hg1 with h | h
          · omega
          · rw [h]; omega
        · rw [← hp0]; exact hb5.grown hgr1 (by omega) (fun k e => by injection e; omega)
        · exact hbW5.grown hgr1 (by omega) (fun k e => by injection e; omega)
        · exact hA4.grown hgr1 (fun e => by injection e; omega)
      case measure => simp [intOf]; omega
    · obtain rfl : k = n := by omega
      go_wp2_with fail
      go_ret
      exact ⟨_, gb, rfl, by omega, hG, hbs⟩
end Go.Proofs.YtglimhkpndfjgaaGreatDoor
/- Drawdowns, sums, arguments, recovery: the program's answers. -/
namespace Go.Proofs.YtglimhkpndfjgaaGreatDoor
open Go.ChangeShapes Go.WideShapes Go.ChangeAt Go.RowKit
set_option linter.unusedVariables false
set_option linter.unusedSimpArgs false
attribute [local irreducible] Calls
theorem isl_one {w : World} {q : Nat} {t : Int} {T : TypeId} (h : Blk w q #[.int .i64 t] T) : ISl w (.slice (some ⟨q, 0, none⟩) 1 1) 1 (fun _ => t) :=
  ⟨_, 1, rfl, Nat.le_refl _, by unfold maxLen; omega, .inr ⟨q, 0, rfl, h.lt, fun i hi => by
    obtain rfl : i = 0 := by omega
    exact h.cell 0⟩⟩
theorem isl_two {w : World} {q : Nat} {t s : Int} {T : TypeId} (h : Blk w q #[.int .i64 t, .int .i64 s] T) : ISl w (.slice (some ⟨q, 0, none⟩) 2 2) 2 (fun i => if i = 0 then t else s) :=
  ⟨_, 2, rfl, Nat.le_refl _, by unfold maxLen; omega, .inr ⟨q, 0, rfl, h.lt, fun i hi => by
    obtain rfl | rfl : i = 0 ∨ i = 1 := by omega
    · exact h.cell 0
    · exact h.cell 1⟩⟩
theorem lsl_one {w : World} {q : Nat} {p : Wl} {T : TypeId} (h : Blk w q #[.int .i8 p.px, .int .i8 p.py, .float .f32 p.rt] T) : LSl w (.slice (some ⟨q, 0, none⟩) 1 1) 1 (fun _ => p) :=
  ⟨_, 1, rfl, Nat.le_refl _, by unfold maxLen; omega, .inr ⟨q, 0, rfl, h.lt, fun i c hi hc => by
    obtain rfl : i = 0 := by omega
    have := h.cell c
    rw [p.cells_eq]
    simpa using this⟩⟩
/-- What lists of drawdowns are told with. -/
def GotDt (w : World) (n : Nat) (F : Nat → Nat) (e : Ending) (w' : World) : Prop := ∃ (v : Value) (g : Nat), e = .returned (.tuple #[v, .int .i64 0]) ∧ w.heap.size ≤ g ∧ Own w' g 24 1 v n (fls n F) ∧ Below w.heap.size w w'
set_option maxRecDepth 100000 in
set_option maxHeartbeats 1000000 in
theorem drawdownsAt_any (T S : Nat) (hA : AqD T S) (n : Nat) (hn : n ≤ 12) (P : Nat → Wl) (hP : ∀ i, i < n → WlD (P i)) (v : Value) (x y : Int) (hx : 0 ≤ x ∧ x ≤ 7) (hy : 0 ≤ y ∧ y ≤ 7) (time : Nat) (h1 : 1 ≤ time) (h2 : time ≤ 100000) (w : World) (hv : LSl w v n P) :
    Calls Tryz.prog 11 #[.agg #[.float .f32 T, .float .f32 S], v, .int .i64 x, .int .i64 y, .int .i64 time] w (GotDt w n (ddF T S P x y time)) := by
  have hA0 := (Blk.new w #[.float .f32 T, .float .f32 S] 26)
  have hbel := below1 w (.cells #[.float .f32 T, .float .f32 S] 26)
  have hv := hv.below hbel
  have hmf := fun w' u hv' hu' => momentsFault_any T S hA.ok n hn P hP v x y (by omega) (by omega) 1 (fun _ => (time : Int)) (fun i hi => by omega) u w' hv' hu'
  have hdd := fun w' hv' => drawdowns_any T S hA.aq n hn P hP v x y hx hy time h1 h2 w' hv'
  generalize ddF T S P x y time = F at *
  clear hP
  go_enter Tryz.func11, Tryz.ntmps11
  go_upto_region 1 with fail
  generalize w.alloc (.cells #[.float .f32 T, .float .f32 S] 26) = W at *
  have hA1 := hA0.alloc (.cells #[.int .i64 time] 2)
  have hu := isl_one (Blk.new W #[.int .i64 (time : Int)] 2)
  have hv1 := hv.below (below1 W (.cells #[.int .i64 time] 2))
  have hb1 := hbel.alloc hbel.size (.cells #[.int .i64 time] 2)
  go_upto_region 2 with (first | (refine wpList_load_blk rfl rfl rfl rowAq hA0 rfl ?_) | (go_at_call 65; refine (hmf _ _ hv1 hu).mono ?_; rintro e w2 ⟨rfl, hb2⟩; replace hv := hv1.below hb2; replace hA1 := hA1.below hb2 hA1.lt; replace hb1 := hb1.trans (hb2.mono hb1.size)))
  go_wp2_with (first | (refine wpList_load_blk rfl rfl rfl rowAq hA1 rfl ?_) | (go_at_call 66; refine (hdd _ hv).mono ?_; rintro e w3 ⟨v', g, rfl, hg, hO, hb3⟩))
  go_ret2
  exact ⟨v', g, rfl, by have := hb1.size; omega, hO, hb1.trans (hb3.mono hb1.size)⟩
/-- The sum of drawdowns. -/
def sumF (T S : Nat) (P : Nat → Wl) (n : Nat) (x y : Int) (time : Nat) : Nat := fsumTo (ddF T S P x y time) n
theorem ddF_mg {T S : Nat} (hA : Aq T S) {n : Nat} {P : Nat → Wl} (hP : ∀ i, i < n → WlD (P i)) {x y : Int} (hx : 0 ≤ x ∧ x ≤ 7) (hy : 0 ≤ y ∧ y ≤ 7) {time : Nat} (h1 : 1 ≤ time) (h2 : time ≤ 100000) : ∀ i, i < n → Mg (ddF T S P x y time i) 240 := fun i hi => by
  have h := hP i hi
  exact ddX_mg hA h.mg (by have := h.1; omega) (by have := h.2.1; omega) h1 h2
set_option maxRecDepth 100000 in
set_option maxHeartbeats 1000000 in
theorem sum_is {F : Nat → Nat} {n : Nat} (hn : n ≤ 4) (hF : ∀ i, i < n → Mg (F i) 240) (g : Nat) (v : Value) (w : World) (hO : Own w g 24 1 v n (fls n F)) :
    Calls Tryz.prog 69 #[v] w fun e w' => e = .returned (.float .f32 (fsumTo F n)) ∧ ∃ k, w' = w.drewN k := by
  refine (sum_any g v n F (by unfold maxLen; omega) w hO).mono ?_
  rintro e w' ⟨r, rfl, hr, hw⟩
  refine ⟨?_, hw⟩
  have hm := (fsum_mg (f := F) n (by omega) hF).num (by omega)
  have hc : fsumTo (fun i => cn (F i)) n = fsumTo F n := fsumTo_congr n fun i hi => cnk_of_not ((hF i hi).num (by omega))
  rw [hc] at hr
  cases hr0 : isN .f32 r
  · have e : cn r = r := cnk_of_not hr0
    rw [← hr, e]
  · have e : cn r = qn .f32 := cnk_of_nan hr0
    rw [← hr, e, isN_qn] at hm
    cases hm
set_option maxRecDepth 100000 in
set_option maxHeartbeats 1000000 in
theorem sumAt_any (T S : Nat) (hA : AqD T S) (n : Nat) (hn : n ≤ 4) (P : Nat → Wl) (hP : ∀ i, i < n → WlD (P i)) (v : Value) (x y : Int) (hx : 0 ≤ x ∧ x ≤ 7) (hy : 0 ≤ y ∧ y ≤ 7) (time : Nat) (h1 : 1 ≤ time) (h2 : time ≤ 100000) (w : World) (hv : LSl w v n P) :
    Calls Tryz.prog 13 #[.agg #[.float .f32 T, .float .f32 S], v, .int .i64 x, .int .i64 y, .int .i64 time] w fun e w' => e = .returned (.tuple #[.float .f32 (sumF T S P n x y time), .int .i64 0]) ∧ Below w.heap.size w w' := by
  have hA0 := (Blk.new w #[.float .f32 T, .float .f32 S] 26)
  have hbel := below1 w (.cells #[.float .f32 T, .float .f32 S] 26)
  have hv := hv.below hbel
  have hmf := fun w' u hv' hu' => momentsFault_any T S hA.ok n (by omega) P hP v x y (by omega) (by omega) 1 (fun _ => (time : Int)) (fun i hi => by omega) u w' hv' hu'
  have hdd := fun w' hv' => drawdowns_any T S hA.aq n (by omega) P hP v x y hx hy time h1 h2 w' hv'
  have hm := ddF_mg hA.aq hP hx hy h1 h2
  unfold sumF
  generalize ddF T S P x y time = F at *
  have hsm := fun g v w' hO => sum_is hn hm g v w' hO
  generalize fsumTo F n = Z at *
  clear hP hm
  go_enter Tryz.func13, Tryz.ntmps13
  go_upto_region 1 with fail
  generalize w.alloc (.cells #[.float .f32 T, .float .f32 S] 26) = W at *
  have hA1 := hA0.alloc (.cells #[.int .i64 time] 2)
  have hu := isl_one (Blk.new W #[.int .i64 (time : Int)] 2)
  have hv1 := hv.below (below1 W (.cells #[.int .i64 time] 2))
  have hb1 := hbel.alloc hbel.size (.cells #[.int .i64 time] 2)
  go_upto_region 2 with (first | (refine wpList_load_blk rfl rfl rfl rowAq hA0 rfl ?_) | (go_at_call 65; refine (hmf _ _ hv1 hu).mono ?_; rintro e w2 ⟨rfl, hb2⟩; replace hv := hv1.below hb2; replace hA1 := hA1.below hb2 hA1.lt; replace hb1 := hb1.trans (hb2.mono hb1.size)))
  go_wp2_with (first | (refine wpList_load_blk rfl rfl rfl rowAq hA1 rfl ?_) | (go_at_call 66; refine (hdd _ hv).mono ?_; rintro e w3 ⟨v', g, rfl, hg, hO, hb3⟩) | (go_at_call 69; refine (hsm _ _ _ hO).mono ?_; rintro e w' ⟨rfl, kk, rfl⟩))
  go_ret2
  exact ⟨rfl, below_drewN (hb1.trans (hb3.mono hb1.size)) _⟩
end Go.Proofs.YtglimhkpndfjgaaGreatDoor
/- One well's drawdown, argument, recovery: the program's answers. -/
namespace Go.Proofs.YtglimhkpndfjgaaGreatDoor
open Go.ChangeShapes Go.WideShapes Go.ChangeAt Go.RowKit
set_option linter.unusedVariables false
set_option linter.unusedSimpArgs false
attribute [local irreducible] Calls
set_option maxRecDepth 100000 in
set_option maxHeartbeats 1000000 in
theorem drawdownAt_any (T S : Nat) (hA : AqD T S) (p : Wl) (hp : WlD p) (x y : Int) (hx : 0 ≤ x ∧ x ≤ 7) (hy : 0 ≤ y ∧ y ≤ 7) (time : Nat) (h1 : 1 ≤ time) (h2 : time ≤ 100000) (w : World) :
    Calls Tryz.prog 23 #[.agg #[.float .f32 T, .float .f32 S], .agg p.cells, .int .i64 x, .int .i64 y, .int .i64 time] w fun e w' => e = .returned (.tuple #[.float .f32 (ddX T S p.rt (x - p.px) (y - p.py) time), .int .i64 0]) ∧ Below w.heap.size w w' := by
  have hmf := fun w' v u hv' hu' => momentsFault_any T S hA.ok 1 (by omega) (fun _ => p) (fun _ _ => hp) v x y (by omega) (by omega) 1 (fun _ => (time : Int)) (fun i hi => by omega) u w' hv' hu'
  have hdd := fun w' => drawdown_any T S p x y time hA.aq ⟨hp.ok.1, hp.ok.2.1⟩ hp.mg (by have := hp.1; omega) (by have := hp.2.1; omega) h1 h2 w'
  rw [p.cells_eq] at hdd ⊢
  have hA0 : Blk ((w.alloc (.cells #[.float .f32 T, .float .f32 S] 26)).alloc (.cells #[.int .i8 p.px, .int .i8 p.py, .float .f32 p.rt] 51)) w.heap.size #[.float .f32 T, .float .f32 S] 26 := (Blk.new _ _ _).alloc _
  have hB0 : Blk ((w.alloc (.cells #[.float .f32 T, .float .f32 S] 26)).alloc (.cells #[.int .i8 p.px, .int .i8 p.py, .float .f32 p.rt] 51)) (w.heap.size + 1) #[.int .i8 p.px, .int .i8 p.py, .float .f32 p.rt] 51 := Blk.new1 _ _ _ _
  have hbel : Below w.heap.size w ((w.alloc (.cells #[.float .f32 T, .float .f32 S] 26)).alloc (.cells #[.int .i8 p.px, .int .i8 p.py, .float .f32 p.rt] 51)) := below2 w _ _
  generalize ddX T S p.rt (x - p.px) (y - p.py) time = D at *
  clear hA hp
  go_enter Tryz.func23, Tryz.ntmps23
  go_upto_region 1 with fail
  generalize (w.alloc (.cells #[.float .f32 T, .float .f32 S] 26)).alloc (.cells #[.int .i8 p.px, .int .i8 p.py, .float .f32 p.rt] 51) = W at *
  have hb1 := (hbel.alloc hbel.size (.cells #[.int .i8 p.px, .int .i8 p.py, .float .f32 p.rt] 51)).alloc (by have := hbel.size; simp; omega) (.cells #[.int .i64 (time : Int)] 2)
  have hv1 := lsl_one (p := p) ((Blk.new W #[.int .i8 p.px, .int .i8 p.py, .float .f32 p.rt] 51).alloc (.cells #[.int .i64 (time : Int)] 2))
  have hu := isl_one (Blk.new (W.alloc (.cells #[.int .i8 p.px, .int .i8 p.py, .float .f32 p.rt] 51)) #[.int .i64 (time : Int)] 2)
  have hA1 := (hA0.alloc (.cells #[.int .i8 p.px, .int .i8 p.py, .float .f32 p.rt] 51)).alloc (.cells #[.int .i64 (time : Int)] 2)
  have hB1 := (hB0.alloc (.cells #[.int .i8 p.px, .int .i8 p.py, .float .f32 p.rt] 51)).alloc (.cells #[.int .i64 (time : Int)] 2)
  rw [show (W.alloc (.cells #[.int .i8 p.px, .int .i8 p.py, .float .f32 p.rt] 51)).heap.size = W.heap.size + 1 by simp] at hu
  go_upto_region 2 with (first | (refine wpList_load_blk rfl rfl rfl rowAq hA0 rfl ?_) | (refine wpList_load_blk rfl rfl rfl rowWl hB0 rfl ?_) | (go_at_call 65; refine (hmf _ _ _ hv1 hu).mono ?_; rintro e w2 ⟨rfl, hb2⟩; replace hA1 := hA1.below hb2 hA1.lt; replace hB1 := hB1.below hb2 hB1.lt; replace hb1 := hb1.trans (hb2.mono hb1.size)))
  go_wp2_with (first | (refine wpList_load_blk rfl rfl rfl rowAq hA1 rfl ?_) | (refine wpList_load_blk rfl rfl rfl rowWl hB1 rfl ?_) | (go_at_call 76; refine (hdd _).mono ?_; rintro e w3 ⟨rfl, hb3⟩))
  go_ret2
  exact ⟨rfl, hb1.trans (hb3.mono hb1.size)⟩
set_option maxRecDepth 100000 in
set_option maxHeartbeats 1000000 in
theorem argumentAt_any (T S : Nat) (hA : AqD T S) (p : Wl) (hp : WlD p) (x y : Int) (hx : 0 ≤ x ∧ x ≤ 7) (hy : 0 ≤ y ∧ y ≤ 7) (time : Nat) (h1 : 1 ≤ time) (h2 : time ≤ 100000) (w : World) :
    Calls Tryz.prog 24 #[.agg #[.float .f32 T, .float .f32 S], .agg p.cells, .int .i64 x, .int .i64 y, .int .i64 time] w fun e w' => e = .returned (.tuple #[.float .f32 (argV T S (x - p.px) (y - p.py) time), .int .i64 0]) ∧ Below w.heap.size w w' := by
  have hmf := fun w' v u hv' hu' => momentsFault_any T S hA.ok 1 (by omega) (fun _ => p) (fun _ _ => hp) v x y (by omega) (by omega) 1 (fun _ => (time : Int)) (fun i hi => by omega) u w' hv' hu'
  have hdd := fun w' => argument_any T S p x y time hA.aq ⟨hp.ok.1, hp.ok.2.1⟩ (by have := hp.1; omega) (by have := hp.2.1; omega) h1 h2 w'
  rw [p.cells_eq] at hdd ⊢
  have hA0 : Blk ((w.alloc (.cells #[.float .f32 T, .float .f32 S] 26)).alloc (.cells #[.int .i8 p.px, .int .i8 p.py, .float .f32 p.rt] 51)) w.heap.size #[.float .f32 T, .float .f32 S] 26 := (Blk.new _ _ _).alloc _
  have hB0 : Blk ((w.alloc (.cells #[.float .f32 T, .float .f32 S] 26)).alloc (.cells #[.int .i8 p.px, .int .i8 p.py, .float .f32 p.rt] 51)) (w.heap.size + 1) #[.int .i8 p.px, .int .i8 p.py, .float .f32 p.rt] 51 := Blk.new1 _ _ _ _
  have hbel : Below w.heap.size w ((w.alloc (.cells #[.float .f32 T, .float .f32 S] 26)).alloc (.cells #[.int .i8 p.px, .int .i8 p.py, .float .f32 p.rt] 51)) := below2 w _ _
  generalize argV T S (x - p.px) (y - p.py) time = D at *
  clear hA hp
  go_enter Tryz.func24, Tryz.ntmps24
  go_upto_region 1 with fail
  generalize (w.alloc (.cells #[.float .f32 T, .float .f32 S] 26)).alloc (.cells #[.int .i8 p.px, .int .i8 p.py, .float .f32 p.rt] 51) = W at *
  have hb1 := (hbel.alloc hbel.size (.cells #[.int .i8 p.px, .int .i8 p.py, .float .f32 p.rt] 51)).alloc (by have := hbel.size; simp; omega) (.cells #[.int .i64 (time : Int)] 2)
  have hv1 := lsl_one (p := p) ((Blk.new W #[.int .i8 p.px, .int .i8 p.py, .float .f32 p.rt] 51).alloc (.cells #[.int .i64 (time : Int)] 2))
  have hu := isl_one (Blk.new (W.alloc (.cells #[.int .i8 p.px, .int .i8 p.py, .float .f32 p.rt] 51)) #[.int .i64 (time : Int)] 2)
  have hA1 := (hA0.alloc (.cells #[.int .i8 p.px, .int .i8 p.py, .float .f32 p.rt] 51)).alloc (.cells #[.int .i64 (time : Int)] 2)
  have hB1 := (hB0.alloc (.cells #[.int .i8 p.px, .int .i8 p.py, .float .f32 p.rt] 51)).alloc (.cells #[.int .i64 (time : Int)] 2)
  rw [show (W.alloc (.cells #[.int .i8 p.px, .int .i8 p.py, .float .f32 p.rt] 51)).heap.size = W.heap.size + 1 by simp] at hu
  go_upto_region 2 with (first | (refine wpList_load_blk rfl rfl rfl rowAq hA0 rfl ?_) | (refine wpList_load_blk rfl rfl rfl rowWl hB0 rfl ?_) | (go_at_call 65; refine (hmf _ _ _ hv1 hu).mono ?_; rintro e w2 ⟨rfl, hb2⟩; replace hA1 := hA1.below hb2 hA1.lt; replace hB1 := hB1.below hb2 hB1.lt; replace hb1 := hb1.trans (hb2.mono hb1.size)))
  go_wp2_with (first | (refine wpList_load_blk rfl rfl rfl rowAq hA1 rfl ?_) | (refine wpList_load_blk rfl rfl rfl rowWl hB1 rfl ?_) | (go_at_call 77; refine (hdd _).mono ?_; rintro e w3 ⟨rfl, hb3⟩))
  go_ret2
  exact ⟨rfl, hb1.trans (hb3.mono hb1.size)⟩
set_option maxRecDepth 100000 in
set_option maxHeartbeats 1000000 in
theorem recoveryAt_any (T S : Nat) (hA : AqD T S) (p : Wl) (hp : WlD p) (x y : Int) (hx : 0 ≤ x ∧ x ≤ 7) (hy : 0 ≤ y ∧ y ≤ 7) (time : Nat) (h1 : 1 ≤ time) (h2 : time ≤ 100000) (stop : Nat) (h3 : time ≤ stop) (h4 : stop ≤ 100000) (w : World) :
    Calls Tryz.prog 26 #[.agg #[.float .f32 T, .float .f32 S], .agg p.cells, .int .i64 x, .int .i64 y, .int .i64 stop, .int .i64 time] w fun e w' => e = .returned (.tuple #[.float .f32 (ddX T S p.rt (x - p.px) (y - p.py) time), .int .i64 0]) ∧ Below w.heap.size w w' := by
  have hmf := fun w' v u hv' hu' => momentsFault_any T S hA.ok 1 (by omega) (fun _ => p) (fun _ _ => hp) v x y (by omega) (by omega) 2 (fun i => if i = 0 then (stop : Int) else (time : Int)) (fun i hi => by split <;> omega) u w' hv' hu'
  have hdd := fun w' => drawdown_any T S p x y time hA.aq ⟨hp.ok.1, hp.ok.2.1⟩ hp.mg (by have := hp.1; omega) (by have := hp.2.1; omega) h1 h2 w'
  rw [p.cells_eq] at hdd ⊢
  have hA0 : Blk ((w.alloc (.cells #[.float .f32 T, .float .f32 S] 26)).alloc (.cells #[.int .i8 p.px, .int .i8 p.py, .float .f32 p.rt] 51)) w.heap.size #[.float .f32 T, .float .f32 S] 26 := (Blk.new _ _ _).alloc _
  have hB0 : Blk ((w.alloc (.cells #[.float .f32 T, .float .f32 S] 26)).alloc (.cells #[.int .i8 p.px, .int .i8 p.py, .float .f32 p.rt] 51)) (w.heap.size + 1) #[.int .i8 p.px, .int .i8 p.py, .float .f32 p.rt] 51 := Blk.new1 _ _ _ _
  have hbel : Below w.heap.size w ((w.alloc (.cells #[.float .f32 T, .float .f32 S] 26)).alloc (.cells #[.int .i8 p.px, .int .i8 p.py, .float .f32 p.rt] 51)) := below2 w _ _
  generalize ddX T S p.rt (x - p.px) (y - p.py) time = D at *
  clear hA hp
  go_enter Tryz.func26, Tryz.ntmps26
  go_upto_region 1 with fail
  generalize (w.alloc (.cells #[.float .f32 T, .float .f32 S] 26)).alloc (.cells #[.int .i8 p.px, .int .i8 p.py, .float .f32 p.rt] 51) = W at *
  have hb1 := (hbel.alloc hbel.size (.cells #[.int .i8 p.px, .int .i8 p.py, .float .f32 p.rt] 51)).alloc (by have := hbel.size; simp; omega) (.cells #[.int .i64 (stop : Int), .int .i64 (time : Int)] 2)
  have hv1 := lsl_one (p := p) ((Blk.new W #[.int .i8 p.px, .int .i8 p.py, .float .f32 p.rt] 51).alloc (.cells #[.int .i64 (stop : Int), .int .i64 (time : Int)] 2))
  have hu := isl_two (Blk.new (W.alloc (.cells #[.int .i8 p.px, .int .i8 p.py, .float .f32 p.rt] 51)) #[.int .i64 (stop : Int), .int .i64 (time : Int)] 2)
  have hA1 := (hA0.alloc (.cells #[.int .i8 p.px, .int .i8 p.py, .float .f32 p.rt] 51)).alloc (.cells #[.int .i64 (stop : Int), .int .i64 (time : Int)] 2)
  have hB1 := (hB0.alloc (.cells #[.int .i8 p.px, .int .i8 p.py, .float .f32 p.rt] 51)).alloc (.cells #[.int .i64 (stop : Int), .int .i64 (time : Int)] 2)
  rw [show (W.alloc (.cells #[.int .i8 p.px, .int .i8 p.py, .float .f32 p.rt] 51)).heap.size = W.heap.size + 1 by simp] at hu
  go_upto_region 2 with (first | (refine wpList_load_blk rfl rfl rfl rowAq hA0 rfl ?_) | (refine wpList_load_blk rfl rfl rfl rowWl hB0 rfl ?_) | (go_at_call 65; refine (hmf _ _ _ hv1 hu).mono ?_; rintro e w2 ⟨rfl, hb2⟩; replace hA1 := hA1.below hb2 hA1.lt; replace hB1 := hB1.below hb2 hB1.lt; replace hb1 := hb1.trans (hb2.mono hb1.size)))
  go_wp2_with (first | (refine wpList_load_blk rfl rfl rfl rowAq hA1 rfl ?_) | (refine wpList_load_blk rfl rfl rfl rowWl hB1 rfl ?_) | (go_at_call 76; refine (hdd _).mono ?_; rintro e w3 ⟨rfl, hb3⟩))
  go_ret2
  exact ⟨rfl, hb1.trans (hb3.mono hb1.size)⟩
end Go.Proofs.YtglimhkpndfjgaaGreatDoor
/- Drawdowns, sums, arguments: the reference's answers. -/
namespace Go.Proofs.YtglimhkpndfjgaaGreatDoor
open Go.ChangeShapes Go.WideShapes Go.ChangeAt Go.RowKit
set_option linter.unusedVariables false
set_option linter.unusedSimpArgs false
attribute [local irreducible] Calls
set_option maxRecDepth 100000 in
set_option maxHeartbeats 1000000 in
theorem specDrawdownsAt_any (T S : Nat) (hA : AqD T S) (n : Nat) (hn : n ≤ 12) (P : Nat → Wl) (hP : ∀ i, i < n → WlD (P i)) (v : Value) (x y : Int) (hx : 0 ≤ x ∧ x ≤ 7) (hy : 0 ≤ y ∧ y ≤ 7) (time : Nat) (h1 : 1 ≤ time) (h2 : time ≤ 100000) (w : World) (hv : LSl w v n P) :
    Calls Tryz.prog 12 #[.agg #[.float .f32 T, .float .f32 S], v, .int .i64 x, .int .i64 y, .int .i64 time] w (GotDt w n (ddF T S P x y time)) := by
  have hA0 := (Blk.new w #[.float .f32 T, .float .f32 S] 26)
  have hbel := below1 w (.cells #[.float .f32 T, .float .f32 S] 26)
  have hv := hv.below hbel
  have hmf := fun w' hv' => l03Asked_any T S hA.ok n (by omega) P hP v x y time (by omega) (by omega) (by omega) w' hv'
  have hdd := fun w' hv' => l03Drawdowns_any T S hA.aq n (by omega) P hP v x y hx hy time h1 h2 w' hv'
  generalize ddF T S P x y time = F at *
  clear hP
  go_enter Tryz.func12, Tryz.ntmps12
  go_upto_region 1 with fail
  generalize w.alloc (.cells #[.float .f32 T, .float .f32 S] 26) = W at *
  go_upto_region 2 with (first | (refine wpList_load_blk rfl rfl rfl rowAq hA0 rfl ?_) | (go_at_call 67; refine (hmf _ hv).mono ?_; rintro e w2 ⟨rfl, hb2⟩; replace hv := hv.below hb2; have hA1 := hA0.below hb2 hA0.lt; have hb1 := hbel.trans (hb2.mono hbel.size)))
  go_wp2_with (first | (refine wpList_load_blk rfl rfl rfl rowAq hA1 rfl ?_) | (go_at_call 68; refine (hdd _ hv).mono ?_; rintro e w3 ⟨v', g, rfl, hg, hO, hb3⟩))
  go_ret2
  exact ⟨v', g, rfl, by have := hb1.size; omega, hO, hb1.trans (hb3.mono hb1.size)⟩
set_option maxRecDepth 100000 in
set_option maxHeartbeats 1000000 in
theorem l03Sum_is {F : Nat → Nat} {n : Nat} (hn : n ≤ 4) (hF : ∀ i, i < n → Mg (F i) 240) (g : Nat) (v : Value) (w : World) (hO : Own w g 24 1 v n (fls n F)) :
    Calls Tryz.prog 70 #[v] w fun e w' => e = .returned (.float .f32 (fsumTo F n)) ∧ ∃ k, w' = w.drewN k := by
  refine (l03Sum_any g v n F (by unfold maxLen; omega) w hO).mono ?_
  rintro e w' ⟨r, rfl, hr, hw⟩
  refine ⟨?_, hw⟩
  have hm := (fsum_mg (f := F) n (by omega) hF).num (by omega)
  have hc : fsumTo (fun i => cn (F i)) n = fsumTo F n := fsumTo_congr n fun i hi => cnk_of_not ((hF i hi).num (by omega))
  rw [hc] at hr
  cases hr0 : isN .f32 r
  · have e : cn r = r := cnk_of_not hr0
    rw [← hr, e]
  · have e : cn r = qn .f32 := cnk_of_nan hr0
    rw [← hr, e, isN_qn] at hm
    cases hm
set_option maxRecDepth 100000 in
set_option maxHeartbeats 1000000 in
theorem specSumAt_any (T S : Nat) (hA : AqD T S) (n : Nat) (hn : n ≤ 4) (P : Nat → Wl) (hP : ∀ i, i < n → WlD (P i)) (v : Value) (x y : Int) (hx : 0 ≤ x ∧ x ≤ 7) (hy : 0 ≤ y ∧ y ≤ 7) (time : Nat) (h1 : 1 ≤ time) (h2 : time ≤ 100000) (w : World) (hv : LSl w v n P) :
    Calls Tryz.prog 14 #[.agg #[.float .f32 T, .float .f32 S], v, .int .i64 x, .int .i64 y, .int .i64 time] w fun e w' => e = .returned (.tuple #[.float .f32 (sumF T S P n x y time), .int .i64 0]) ∧ Below w.heap.size w w' := by
  have hA0 := (Blk.new w #[.float .f32 T, .float .f32 S] 26)
  have hbel := below1 w (.cells #[.float .f32 T, .float .f32 S] 26)
  have hv := hv.below hbel
  have hmf := fun w' hv' => l03Asked_any T S hA.ok n (by omega) P hP v x y time (by omega) (by omega) (by omega) w' hv'
  have hdd := fun w' hv' => l03Drawdowns_any T S hA.aq n (by omega) P hP v x y hx hy time h1 h2 w' hv'
  have hm := ddF_mg hA.aq hP hx hy h1 h2
  unfold sumF
  generalize ddF T S P x y time = F at *
  have hsm := fun g v w' hO => l03Sum_is hn hm g v w' hO
  generalize fsumTo F n = Z at *
  clear hP hm
  go_enter Tryz.func14, Tryz.ntmps14
  go_upto_region 1 with fail
  generalize w.alloc (.cells #[.float .f32 T, .float .f32 S] 26) = W at *
  go_upto_region 2 with (first | (refine wpList_load_blk rfl rfl rfl rowAq hA0 rfl ?_) | (go_at_call 67; refine (hmf _ hv).mono ?_; rintro e w2 ⟨rfl, hb2⟩; replace hv := hv.below hb2; have hA1 := hA0.below hb2 hA0.lt; have hb1 := hbel.trans (hb2.mono hbel.size)))
  go_wp2_with (first | (refine wpList_load_blk rfl rfl rfl rowAq hA1 rfl ?_) | (go_at_call 68; refine (hdd _ hv).mono ?_; rintro e w3 ⟨v', g, rfl, hg, hO, hb3⟩) | (go_at_call 70; refine (hsm _ _ _ hO).mono ?_; rintro e w' ⟨rfl, kk, rfl⟩))
  go_ret2
  exact ⟨rfl, below_drewN (hb1.trans (hb3.mono hb1.size)) _⟩
set_option maxRecDepth 100000 in
set_option maxHeartbeats 1000000 in
theorem specArgumentAt_any (T S : Nat) (hA : AqD T S) (p : Wl) (hp : WlD p) (x y : Int) (hx : 0 ≤ x ∧ x ≤ 7) (hy : 0 ≤ y ∧ y ≤ 7) (time : Nat) (h1 : 1 ≤ time) (h2 : time ≤ 100000) (w : World) :
    Calls Tryz.prog 25 #[.agg #[.float .f32 T, .float .f32 S], .agg p.cells, .int .i64 x, .int .i64 y, .int .i64 time] w fun e w' => e = .returned (.tuple #[.float .f32 (argV T S (x - p.px) (y - p.py) time), .int .i64 0]) ∧ Below w.heap.size w w' := by
  have hmf := fun w' v hv' => l03Asked_any T S hA.ok 1 (by omega) (fun _ => p) (fun _ _ => hp) v x y time (by omega) (by omega) (by omega) w' hv'
  have hdd := fun w' => l03Argument_any T S p x y time hA.aq ⟨hp.ok.1, hp.ok.2.1⟩ (by have := hp.1; omega) (by have := hp.2.1; omega) h1 h2 w'
  rw [p.cells_eq] at hdd ⊢
  have hA0 : Blk ((w.alloc (.cells #[.float .f32 T, .float .f32 S] 26)).alloc (.cells #[.int .i8 p.px, .int .i8 p.py, .float .f32 p.rt] 51)) w.heap.size #[.float .f32 T, .float .f32 S] 26 := (Blk.new _ _ _).alloc _
  have hB0 : Blk ((w.alloc (.cells #[.float .f32 T, .float .f32 S] 26)).alloc (.cells #[.int .i8 p.px, .int .i8 p.py, .float .f32 p.rt] 51)) (w.heap.size + 1) #[.int .i8 p.px, .int .i8 p.py, .float .f32 p.rt] 51 := Blk.new1 _ _ _ _
  have hbel : Below w.heap.size w ((w.alloc (.cells #[.float .f32 T, .float .f32 S] 26)).alloc (.cells #[.int .i8 p.px, .int .i8 p.py, .float .f32 p.rt] 51)) := below2 w _ _
  generalize argV T S (x - p.px) (y - p.py) time = D at *
  clear hA hp
  go_enter Tryz.func25, Tryz.ntmps25
  go_upto_region 1 with fail
  generalize (w.alloc (.cells #[.float .f32 T, .float .f32 S] 26)).alloc (.cells #[.int .i8 p.px, .int .i8 p.py, .float .f32 p.rt] 51) = W at *
  have hb1 := hbel.alloc hbel.size (.cells #[.int .i8 p.px, .int .i8 p.py, .float .f32 p.rt] 51)
  have hv1 := lsl_one (p := p) (Blk.new W #[.int .i8 p.px, .int .i8 p.py, .float .f32 p.rt] 51)
  have hA1 := hA0.alloc (.cells #[.int .i8 p.px, .int .i8 p.py, .float .f32 p.rt] 51)
  have hB1 := hB0.alloc (.cells #[.int .i8 p.px, .int .i8 p.py, .float .f32 p.rt] 51)
  go_upto_region 2 with (first | (refine wpList_load_blk rfl rfl rfl rowAq hA0 rfl ?_) | (refine wpList_load_blk rfl rfl rfl rowWl hB0 rfl ?_) | (go_at_call 67; refine (hmf _ _ hv1).mono ?_; rintro e w2 ⟨rfl, hb2⟩; replace hA1 := hA1.below hb2 hA1.lt; replace hB1 := hB1.below hb2 hB1.lt; replace hb1 := hb1.trans (hb2.mono hb1.size)))
  go_wp2_with (first | (refine wpList_load_blk rfl rfl rfl rowAq hA1 rfl ?_) | (refine wpList_load_blk rfl rfl rfl rowWl hB1 rfl ?_) | (go_at_call 78; refine (hdd _).mono ?_; rintro e w3 ⟨rfl, hb3⟩))
  go_ret2
  exact ⟨rfl, hb1.trans (hb3.mono hb1.size)⟩
end Go.Proofs.YtglimhkpndfjgaaGreatDoor
/- The greatest size of several finite numbers. Plain laws; no statement is proved here. -/
namespace Go.Proofs.YtglimhkpndfjgaaGreatDoor
open Ieee
set_option linter.unusedVariables false
set_option linter.unusedSimpArgs false

/-- The first place of the greatest size among the first k. -/
def bestTo (F : Nat → Nat) : Nat → Nat
  | 0 => 0
  | k + 1 => if k = 0 then 0 else if F (bestTo F k) % 2147483648 < F k % 2147483648 then k else bestTo F k
theorem bestTo_lt (F : Nat → Nat) : ∀ k, 0 < k → bestTo F k < k
  | 0, h => by omega
  | k + 1, _ => by
    unfold bestTo
    split
    · omega
    · split
      · omega
      · have := bestTo_lt F k (by omega); omega
theorem bestTo_max (F : Nat → Nat) : ∀ k, ∀ i, i < k → F i % 2147483648 ≤ F (bestTo F k) % 2147483648
  | 0, _, h => by omega
  | k + 1, i, h => by
    unfold bestTo
    split
    · have : i = 0 := by omega
      subst this; exact Nat.le_refl _
    · split
      · rename_i h1 h2
        by_cases e : i = k
        · subst e; exact Nat.le_refl _
        · have := bestTo_max F k i (by omega); omega
      · by_cases e : i = k
        · subst e; omega
        · exact bestTo_max F k i (by omega)
end Go.Proofs.YtglimhkpndfjgaaGreatDoor
