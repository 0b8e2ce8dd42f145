import Derived.Test.YtokdpmpgonafmaaGreatMG41
import Derived.Test.YtokdpmpgonafmaaGreatMG42
import Derived.Test.YtokdpmpgonafmaaGreatMG19
import Derived.Test.YtokdpmpgonafmaaGreatMG26
/- A permit drawn (l07PermitDrawn). -/
namespace Go.Proofs.YtokdpmpgonafmaaGreat
open Go.ChangeShapes Go.WideShapes Go.ChangeAt Go.RowKit
set_option linter.unusedVariables false
set_option linter.unusedSimpArgs false
attribute [local irreducible] Calls
/-- What l07PermitDrawn gives. -/
def GaveP (w : World) (b k : Nat) (g : Gr) (e : Ending) (w' : World) : Prop := ∃ p : Pm, p.ok ∧ badPG g p = false ∧ e = .returned (.agg p.cells) ∧ Src w' b k ∧ w.grownBy w' (some b)
theorem szI8 : (Tryz.prog.info? 22).map (·.size) = some 1 := by kernel_rfl
theorem szI16 : (Tryz.prog.info? 62).map (·.size) = some 1 := by kernel_rfl
set_option maxRecDepth 100000 in
set_option maxHeartbeats 1000000 in
theorem l07PermitDrawn_any (b o k : Nat) (g : Gr) (v : Value) (hW : 1 ≤ g.wide ∧ g.wide ≤ 4) (hH : 1 ≤ g.high ∧ g.high ≤ 4) (hk : k < 900000) (w : World) (hs : Src w b k) (hO : Blk w o (ofc g v) 42) (hbo : b ≠ o) :
    Calls Tryz.prog 49 #[.pointer (some ⟨b, 0, none⟩), .pointer (some ⟨o, 0, none⟩)] w (GaveP w b (k + 8) g) := by
  have hp := fun (n : Int) (j : Nat) (h1 : 1 ≤ n) (h2 : n ≤ 1099511627776) (hj : j < 910000) (w' : World) (hs : Src w' b j) => pick_any b j n (by omega) h1 h2 w' hs
  have lb := hs.lt
  have lo := hO.lt
  go_enter Tryz.func49, Tryz.ntmps49
  go_upto_region 1 with fail
  have hb4 : Blk (w.alloc (.cells #[.int .i8 0, .int .i8 0, .int .i16 0] 64)) w.heap.size #[.int .i8 0, .int .i8 0, .int .i16 0] 64 := Blk.new _ _ _
  have hg1 : w.grownBy (w.alloc (.cells #[.int .i8 0, .int .i8 0, .int .i16 0] 64)) (some b) := World.grownBy_alloc _ _ _
  have hs1 : Src (w.alloc (.cells #[.int .i8 0, .int .i8 0, .int .i16 0] 64)) b k := hs.move fun r hr => heap_alloc_old w _ (by omega)
  generalize w.alloc (.cells #[.int .i8 0, .int .i8 0, .int .i16 0] 64) = W at *
  have hO1 := hO.grown hg1 (fun e => by injection e; omega)
  go_upto_region 2 with (go_at_call 48; refine (hp 4 k (by decide) (by decide) (by omega) _ hs1).mono ?_; rintro e w1 ⟨x, ⟨x0, x1⟩, rfl, hs2, hg2⟩)
  have e1 := hg1.size
  have e2 := hg2.size
  have hb5 := Blk.new w1 #[.int .i8 x, .int .i8 0, .int .i16 0] 64
  have hs3 : Src (w1.alloc (.cells #[.int .i8 x, .int .i8 0, .int .i16 0] 64)) b (k + 2) := hs2.move fun r hr => heap_alloc_old w1 _ (by omega)
  have hg3 : w.grownBy (w1.alloc (.cells #[.int .i8 x, .int .i8 0, .int .i16 0] 64)) (some b) := (hg1.trans hg2).trans (World.grownBy_alloc _ _ _)
  have hb4' := (hb4.grown hg2 (fun e => by injection e; omega)).alloc (.cells #[.int .i8 x, .int .i8 0, .int .i16 0] 64)
  have hO2 := (hO1.grown hg2 (fun e => by injection e; exact hbo (by assumption))).alloc (.cells #[.int .i8 x, .int .i8 0, .int .i16 0] 64)
  have lq : w.heap.size < w1.heap.size := by have := hb4.lt; omega
  clear hs1 hs2 hg1 hg2 hb4 hO1 hO
  generalize w1.alloc (.cells #[.int .i8 x, .int .i8 0, .int .i16 0] 64) = W2 at *
  generalize w1.heap.size = q5 at *
  have cW : ∀ w', W2.grownBy w' (some b) → w'.cell? ⟨o, 0, none⟩ = some (.int .i8 g.wide) := fun w' h => ((hO2.grown h (fun e => by injection e; exact hbo (by assumption))).cell 0).trans ((ofc_get g v 0 (by omega)).trans rfl)
  have cH : ∀ w', W2.grownBy w' (some b) → w'.cell? ⟨o, 1, none⟩ = some (.int .i8 g.high) := fun w' h => ((hO2.grown h (fun e => by injection e; exact hbo (by assumption))).cell 1).trans ((ofc_get g v 1 (by omega)).trans rfl)
  refine wp_phaseK 20 [7, 15] (fun n w' => Src w' b (k + 2 + 2 * n) ∧ W2.grownBy w' (some b)) (fun w w' => w.grownBy w' (some b)) (fun _ d v => match d, v with
    | 10, v => v = .pointer (some ⟨b, 0, none⟩)
    | 11, v => v = .pointer (some ⟨o, 0, none⟩)
    | 12, v => v = .pointer (some ⟨o, 0, none⟩)
    | 13, v => v = .pointer (some ⟨o, 0, none⟩)
    | 14, v => v = .pointer (some ⟨o, 0, none⟩)
    | 15, v => v = .int .i8 g.wide
    | 16, v => v = .int .i64 g.wide
    | 17, v => ∃ y : Int, v = .int .i64 y ∧ 0 ≤ y ∧ y < g.wide
    | 18, v => v = .pointer (some ⟨b, 0, none⟩)
    | 19, v => v = .pointer (some ⟨o, 0, none⟩)
    | 20, v => v = .pointer (some ⟨o, 0, none⟩)
    | 21, v => v = .pointer (some ⟨o, 0, none⟩)
    | 22, v => v = .pointer (some ⟨o, 1, none⟩)
    | 23, v => v = .int .i8 g.high
    | 24, v => v = .int .i64 g.high
    | 25, v => ∃ y : Int, v = .int .i64 y ∧ 0 ≤ y ∧ y < g.high
    | 26, v => ∃ y : Int, v = .int .i64 (8 * y) ∧ 0 ≤ y ∧ y < g.high
    | 27, v => ∃ y z : Int, v = .int .i64 (y + 8 * z) ∧ (0 ≤ y ∧ y < g.wide) ∧ 0 ≤ z ∧ z < g.high
    | 28, v => ∃ y z : Int, v = .int .i8 (y + 8 * z) ∧ (0 ≤ y ∧ y < g.wide) ∧ 0 ≤ z ∧ z < g.high
    | 29, v => v = .pointer (some ⟨q5, 1, none⟩)
    | _, _ => True) (fun w w' d v h hF => hF) (by kernel_rfl) (by kernel_rfl) ⟨by decide, by decide⟩ (by kernel_rfl) ⟨hs3.move fun _ _ => rfl, grown_drewN _ 1 _⟩ ?_ ?_
  · refine ⟨step_at rfl fun n hn => step_go rfl fun ev w1 hC kn => ?_, ?_⟩
    · have e1 : ev (.tmp 0) = .pointer (some ⟨b, 0, none⟩) := kn.out 0 rfl rfl rfl
      exact good_of (v := .pointer (some ⟨b, 0, none⟩)) rfl (by simp [execOp, e1, go_sem]) hC (World.grownBy.refl _ _) rfl
    refine ⟨step_at rfl fun n hn => step_go rfl fun ev w1 hC kn => ?_, ?_⟩
    · have e1 : ev (.tmp 1) = .pointer (some ⟨o, 0, none⟩) := kn.out 1 rfl rfl rfl
      exact good_of (v := .pointer (some ⟨o, 0, none⟩)) rfl (by simp [execOp, e1, go_sem]) hC (World.grownBy.refl _ _) rfl
    refine ⟨step_at rfl fun n hn => step_go rfl fun ev w1 hC kn => ?_, ?_⟩
    · have e1 : ev (.tmp 11) = .pointer (some ⟨o, 0, none⟩) := kn.inn 11 rfl rfl
      exact good_of (v := .pointer (some ⟨o, 0, none⟩)) rfl (by simp only [execOp, e1]; rfl) hC (World.grownBy.refl _ _) rfl
    refine ⟨step_at rfl fun n hn => step_go rfl fun ev w1 hC kn => ?_, ?_⟩
    · have e1 : ev (.tmp 12) = .pointer (some ⟨o, 0, none⟩) := kn.inn 12 rfl rfl
      exact good_of (v := .pointer (some ⟨o, 0, none⟩)) rfl (by simp only [execOp, e1]; rfl) hC (World.grownBy.refl _ _) rfl
    refine ⟨step_at rfl fun n hn => step_go rfl fun ev w1 hC kn => ?_, ?_⟩
    · have e1 : ev (.tmp 13) = .pointer (some ⟨o, 0, none⟩) := kn.inn 13 rfl rfl
      exact good_of (v := .pointer (some ⟨o, 0, none⟩)) rfl (by simp only [execOp, e1]; rfl) hC (World.grownBy.refl _ _) rfl
    refine ⟨step_at rfl fun n hn => step_go rfl fun ev w1 hC kn => ?_, ?_⟩
    · have e1 : ev (.tmp 14) = .pointer (some ⟨o, 0, none⟩) := kn.inn 14 rfl rfl
      have c1 := cW w1 hC.2
      exact good_of (v := .int .i8 g.wide) rfl (by simp [execOp, e1, go_sem, c1]) hC (World.grownBy.refl _ _) rfl
    refine ⟨step_at rfl fun n hn => step_go rfl fun ev w1 hC kn => ?_, ?_⟩
    · have e1 : ev (.tmp 15) = .int .i8 g.wide := kn.inn 15 rfl rfl
      have hw8 : IntKind.i64.wrap g.wide = g.wide := by rw [IntKind.wrap_i64]; omega
      exact good_of (v := .int .i64 g.wide) rfl (by simp [execOp, e1, go_sem, hw8]) hC (World.grownBy.refl _ _) rfl
    refine ⟨step_call rfl fun n hn => step_to rfl fun ev w1 hC kn => ?_, ?_⟩
    · have e1 : ev (.tmp 10) = .pointer (some ⟨b, 0, none⟩) := kn.inn 10 rfl rfl
      have e2 : ev (.tmp 16) = .int .i64 g.wide := kn.inn 16 rfl rfl
      have hn2 : n < 2 := hn
      exact good_call (f := 48) (args := #[.pointer (some ⟨b, 0, none⟩), .int .i64 g.wide]) rfl (by simp [execOp, e1, e2, kn.fn, go_sem]) ((hp g.wide (k + 2 + 2 * n) (by omega) (by omega) (by omega) w1 hC.1).mono fun e w2 ⟨y, ⟨y0, y1⟩, he, h1, h2⟩ => ⟨_, he, ⟨h1, hC.2.trans h2⟩, h2, ⟨y, rfl, y0, y1⟩⟩)
    refine ⟨step_at rfl fun n hn => step_go rfl fun ev w1 hC kn => ?_, ?_⟩
    · have e1 : ev (.tmp 0) = .pointer (some ⟨b, 0, none⟩) := kn.out 0 rfl rfl rfl
      exact good_of (v := .pointer (some ⟨b, 0, none⟩)) rfl (by simp [execOp, e1, go_sem]) hC (World.grownBy.refl _ _) rfl
    refine ⟨step_at rfl fun n hn => step_go rfl fun ev w1 hC kn => ?_, ?_⟩
    · have e1 : ev (.tmp 1) = .pointer (some ⟨o, 0, none⟩) := kn.out 1 rfl rfl rfl
      exact good_of (v := .pointer (some ⟨o, 0, none⟩)) rfl (by simp [execOp, e1, go_sem]) hC (World.grownBy.refl _ _) rfl
    refine ⟨step_at rfl fun n hn => step_go rfl fun ev w1 hC kn => ?_, ?_⟩
    · have e1 : ev (.tmp 19) = .pointer (some ⟨o, 0, none⟩) := kn.inn 19 rfl rfl
      exact good_of (v := .pointer (some ⟨o, 0, none⟩)) rfl (by simp only [execOp, e1]; rfl) hC (World.grownBy.refl _ _) rfl
    refine ⟨step_at rfl fun n hn => step_go rfl fun ev w1 hC kn => ?_, ?_⟩
    · have e1 : ev (.tmp 20) = .pointer (some ⟨o, 0, none⟩) := kn.inn 20 rfl rfl
      exact good_of (v := .pointer (some ⟨o, 0, none⟩)) rfl (by simp only [execOp, e1]; rfl) hC (World.grownBy.refl _ _) rfl
    refine ⟨step_at rfl fun n hn => step_go rfl fun ev w1 hC kn => ?_, ?_⟩
    · have e1 : ev (.tmp 21) = .pointer (some ⟨o, 0, none⟩) := kn.inn 21 rfl rfl
      exact good_of (v := .pointer (some ⟨o, 1, none⟩)) rfl (by simp only [execOp, e1]; rfl) hC (World.grownBy.refl _ _) rfl
    refine ⟨step_at rfl fun n hn => step_go rfl fun ev w1 hC kn => ?_, ?_⟩
    · have e1 : ev (.tmp 22) = .pointer (some ⟨o, 1, none⟩) := kn.inn 22 rfl rfl
      have c1 := cH w1 hC.2
      exact good_of (v := .int .i8 g.high) rfl (by simp [execOp, e1, go_sem, c1]) hC (World.grownBy.refl _ _) rfl
    refine ⟨step_at rfl fun n hn => step_go rfl fun ev w1 hC kn => ?_, ?_⟩
    · have e1 : ev (.tmp 23) = .int .i8 g.high := kn.inn 23 rfl rfl
      have hw8 : IntKind.i64.wrap g.high = g.high := by rw [IntKind.wrap_i64]; omega
      exact good_of (v := .int .i64 g.high) rfl (by simp [execOp, e1, go_sem, hw8]) hC (World.grownBy.refl _ _) rfl
    refine ⟨step_call rfl fun n hn => step_to rfl fun ev w1 hC kn => ?_, ?_⟩
    · have e1 : ev (.tmp 18) = .pointer (some ⟨b, 0, none⟩) := kn.inn 18 rfl rfl
      have e2 : ev (.tmp 24) = .int .i64 g.high := kn.inn 24 rfl rfl
      have hn2 : n < 2 := hn
      exact good_call (f := 48) (args := #[.pointer (some ⟨b, 0, none⟩), .int .i64 g.high]) rfl (by simp [execOp, e1, e2, kn.fn, go_sem]) ((hp g.high (k + 2 + 2 * n) (by omega) (by omega) (by omega) w1 hC.1).mono fun e w2 ⟨y, ⟨y0, y1⟩, he, h1, h2⟩ => ⟨_, he, ⟨h1, hC.2.trans h2⟩, h2, ⟨y, rfl, y0, y1⟩⟩)
    refine ⟨step_at rfl fun n hn => step_go rfl fun ev w1 hC kn => ?_, ?_⟩
    · obtain ⟨y, e1, y0, y1⟩ : ∃ y : Int, ev (.tmp 25) = .int .i64 y ∧ 0 ≤ y ∧ y < g.high := kn.inn 25 rfl rfl
      have hwz : IntKind.i64.wrap (8 * y) = 8 * y := by rw [IntKind.wrap_i64]; omega
      exact good_of (v := .int .i64 (8 * y)) rfl (by simp [execOp, e1, kn.con, go_sem, hwz]) hC (World.grownBy.refl _ _) ⟨y, rfl, y0, y1⟩
    refine ⟨step_at rfl fun n hn => step_go rfl fun ev w1 hC kn => ?_, ?_⟩
    · obtain ⟨y, e1, y0, y1⟩ : ∃ y : Int, ev (.tmp 17) = .int .i64 y ∧ 0 ≤ y ∧ y < g.wide := kn.inn 17 rfl rfl
      obtain ⟨z, e2, z0, z1⟩ : ∃ z : Int, ev (.tmp 26) = .int .i64 (8 * z) ∧ 0 ≤ z ∧ z < g.high := kn.inn 26 rfl rfl
      have hwz : IntKind.i64.wrap (y + 8 * z) = y + 8 * z := by rw [IntKind.wrap_i64]; omega
      exact good_of (v := .int .i64 (y + 8 * z)) rfl (by simp [execOp, e1, e2, go_sem, hwz]) hC (World.grownBy.refl _ _) ⟨y, z, rfl, ⟨y0, y1⟩, z0, z1⟩
    refine ⟨step_at rfl fun n hn => step_go rfl fun ev w1 hC kn => ?_, ?_⟩
    · obtain ⟨y, z, e1, ⟨y0, y1⟩, z0, z1⟩ : ∃ y z : Int, ev (.tmp 27) = .int .i64 (y + 8 * z) ∧ (0 ≤ y ∧ y < g.wide) ∧ 0 ≤ z ∧ z < g.high := kn.inn 27 rfl rfl
      have hwz : IntKind.i8.wrap (y + 8 * z) = y + 8 * z := by unfold IntKind.wrap; simp [IntKind.bits, IntKind.signed]; omega
      exact good_of (v := .int .i8 (y + 8 * z)) rfl (by simp [execOp, e1, go_sem, hwz]) hC (World.grownBy.refl _ _) ⟨y, z, rfl, ⟨y0, y1⟩, z0, z1⟩
    refine ⟨step_at rfl fun n hn => step_go rfl fun ev w1 hC kn => ?_, ?_⟩
    · have e1 : ev (.tmp 5) = .pointer (some ⟨q5, 0, none⟩) := kn.out 5 rfl rfl rfl
      exact good_of (v := .pointer (some ⟨q5, 1, none⟩)) rfl (by simp only [execOp, e1]; rfl) hC (World.grownBy.refl _ _) rfl
    exact trivial
  · rintro xv w1 hxv ⟨hs4, hg4⟩
    have y28 := hxv 28 (by decide)
    obtain ⟨y, z, y28, ⟨y0, y1⟩, z0, z1⟩ : ∃ y z : Int, xv 28 = .int .i8 (y + 8 * z) ∧ (0 ≤ y ∧ y < g.wide) ∧ 0 ≤ z ∧ z < g.high := y28
    have y29 : xv 29 = .pointer (some ⟨q5, 1, none⟩) := hxv 29 (by decide)
    simp only [fill, dstsOf, List.filterMap_cons, List.filterMap_nil, List.foldl_cons, List.foldl_nil, List.set_cons_succ, List.set_cons_zero, List.take_succ_cons, List.take_zero, List.drop_succ_cons, List.drop_zero, y28, y29]
    have hb5 := hb5.grown hg4 (fun e => by injection e; omega)
    go_upto_region 3 with (refine wpList_store_cell (v := .int .i8 (y + 8 * z)) rfl rfl rfl rfl szI8 rfl rfl hb5 (by simp) ?_; intro w3 hB3 hG3)
    have hB3 : Blk w3 q5 #[.int .i8 x, .int .i8 (y + 8 * z), .int .i16 0] 64 := hB3
    have l4 := hs4.lt
    have hs5 : Src w3 b (k + 2 + 2 * 2) := hs4.move fun r hr => hG3.block r (by omega) (fun e => by injection e; omega)
    go_upto_region 4 with (first | (go_at_call 48; refine (hp 60 _ (by decide) (by decide) (by omega) _ hs5).mono ?_; rintro e w5 ⟨r, ⟨r0, r1⟩, rfl, hs6, hg6⟩; have hB5 := hB3.grown hg6 (fun e => by injection e; omega)) | (refine wpList_store_cell (v := .int .i16 r) rfl rfl rfl rfl szI16 rfl rfl hB5 (by simp) ?_; intro w6 hB6 hG6))
    have hB6 : Blk w6 q5 #[.int .i8 x, .int .i8 (y + 8 * z), .int .i16 r] 64 := hB6
    have hb6 := (((hb4'.grown hg4 (fun e => by injection e; omega)).grown hG3 (fun e => by injection e; omega)).grown hg6 (fun e => by injection e; omega)).grown hG6 (fun e => by injection e; omega)
    have hs7 : Src w6 b (k + 2 + 2 * 2 + 2) := hs6.move fun r hr => hG6.block r (by have := hs6.lt; omega) (fun e => by injection e; omega)
    have hall : w.grownBy w6 (some b) := (((hg3.trans hg4).andThen hG3 (fun j e => by injection e; exact .inl (by omega))).trans hg6).andThen hG6 (fun j e => by injection e; exact .inl (by omega))
    have hcells : (⟨x, y + 8 * z, r⟩ : Pm).cells = #[.int .i8 x, .int .i8 (y + 8 * z), .int .i16 r] := Pm.cells_eq _
    have hpok : (⟨x, y + 8 * z, r⟩ : Pm).ok := ⟨⟨by show -128 ≤ x; omega, by show x ≤ 127; omega⟩, ⟨by show -128 ≤ y + 8 * z; omega, by show y + 8 * z ≤ 127; omega⟩, ⟨by show -32768 ≤ r; omega, by show r ≤ 32767; omega⟩⟩
    go_wp2_with (first | (refine wpList_load_blk rfl rfl rfl row99 hB6 rfl ?_) | (refine wpList_store_blk (C' := #[.int .i8 x, .int .i8 (y + 8 * z), .int .i16 r]) rfl rfl rfl rfl row99 hb6 rfl rfl (by intro q hq; simp at hq; rcases hq with rfl | rfl | rfl <;> rfl) ?_))
    refine bodyPost_row rfl rfl row99 (hb6.setRow _) rfl rfl ⟨⟨x, y + 8 * z, r⟩, hpok, ?_, by rw [hcells], hs7.move fun j hj => setRow_other w6 _ j _ (by omega), hall.andThen ⟨rfl, rfl, rfl, by simp, fun j hj hne => setRow_other w6 w.heap.size j _ (fun e => hne (by rw [e]))⟩ (fun j e => by injection e; exact .inl (by omega))⟩
    · obtain ⟨m, hm⟩ : ∃ m : Nat, (m : Int) = y + 8 * z := ⟨(y + 8 * z).toNat, by omega⟩
      unfold badPG badOwner badRate isCI isC
      rw [← hm]
      simp
      omega
end Go.Proofs.YtokdpmpgonafmaaGreat
/- Permits drawn from bytes (A2Permits). -/
namespace Go.Proofs.YtokdpmpgonafmaaGreat
open Go.ChangeShapes Go.WideShapes Go.ChangeAt Go.RowKit
set_option linter.unusedVariables false
set_option linter.unusedSimpArgs false
attribute [local irreducible] Calls
/-- What A2Permits gives: few permits that the ground bears. -/
def GaveL (w : World) (g : Gr) (e : Ending) (w' : World) : Prop := ∃ (x : Value) (r m : Nat) (Q : Nat → Pm), m ≤ 3 ∧ e = .returned x ∧ w.heap.size ≤ r ∧ (∀ i, i < m → (Q i).ok ∧ badPG g (Q i) = false) ∧ Own w' r 64 3 x m (pls m Q) ∧ Below w.heap.size w w'
set_option maxRecDepth 100000 in
set_option maxHeartbeats 1000000 in
theorem a2Permits_any (v : Value) (n : Nat) (g : Gr) (u : Value) (hW : 1 ≤ g.wide ∧ g.wide ≤ 4) (hH : 1 ≤ g.high ∧ g.high ≤ 4) (w : World) (hv : Bytes w w.heap.size v n) :
    Calls Tryz.prog 23 #[v, .agg (ofc g u)] w (GaveL w g) := by
  go_enter Tryz.func23, Tryz.ntmps23
  go_upto_region 1 with (refine wpList_box_as rfl rfl rfl ?_)
  have hO := Blk.new w (ofc g u) 42
  have hbel := below1 w (.cells (ofc g u) 42)
  have hv1 : Bytes (w.alloc (.cells (ofc g u) 42)) (w.alloc (.cells (ofc g u) 42)).heap.size v n := by
    obtain ⟨a, c, h1, h2, h3⟩ := hv.move (w' := w.alloc (.cells (ofc g u) 42)) (fun r hr => heap_alloc_old w _ hr)
    refine ⟨a, c, h1, h2, fun j hj => ?_⟩
    obtain ⟨r, o, x, g1, g2, g3⟩ := h3 j hj
    exact ⟨r, o, x, g1, by simp; omega, g3⟩
  generalize w.alloc (.cells (ofc g u) 42) = W at *
  have lO := hO.lt
  have hs := src_new hv1
  have hfr := l00From_any v n W hv1
  have hbs : Below w.heap.size w (W.alloc (.cells #[v, .int .i64 0, .int .u64 0] 115)) := hbel.alloc (by omega) _
  have hO := hO.alloc (.cells #[v, .int .i64 0, .int .u64 0] 115)
  generalize W.alloc (.cells #[v, .int .i64 0, .int .u64 0] 115) = W1 at *
  generalize W.heap.size = b at *
  have lb := hs.lt
  clear hv hv1 hbel
  go_upto_region 3 with (go_at_call 47; refine hfr.mono ?_; rintro e w1 ⟨rfl, hw⟩; subst hw)
  have hs2 : Src (w1.alloc (.cells #[] 64)) b 0 := hs.move fun r hr => heap_alloc_old w1 _ (by omega)
  have hG : Own (w1.alloc (.cells #[] 64)) w1.heap.size 64 3 (.slice (some ⟨w1.heap.size, 0, none⟩) 0 0) 0 (pls 0 (fun _ => ⟨0, 0, 0⟩)) := own_blk (Blk.new _ _ _) rfl (by decide) (by rw [pls_zero])
  have hbs := hbs.alloc hbs.size (.cells #[] 64)
  have hO := hO.alloc (.cells #[] 64)
  generalize w1.alloc (.cells #[] 64) = W2 at *
  generalize w1.heap.size = q at *
  have lq : b < q := lb
  have hown : Below w.heap.size w W2 := hbs
  have hp := fun (n : Int) (j : Nat) (h1 : 1 ≤ n) (h2 : n ≤ 1099511627776) (hj : j < 900000) (w' : World) (hs : Src w' b j) => pick_any b j n (by omega) h1 h2 w' hs
  go_upto_region 4 with (go_at_call 48; refine (hp 4 0 (by decide) (by decide) (by omega) _ hs2).mono ?_; rintro e w3 ⟨x, ⟨x0, x1⟩, rfl, hs3, hg3⟩)
  have hG := hG.grown hg3 (fun e => by injection e; omega)
  have hO := hO.grown hg3 (fun e => by injection e; omega)
  have hbs := hbs.grown hg3 (by have := hbs.size; omega) (fun k e => by injection e; omega)
  obtain ⟨X, hX⟩ : ∃ X : Nat, (X : Int) = x := ⟨x.toNat, by omega⟩
  subst hX
  have hX3 : X ≤ 3 := by omega
  clear hs hs2 hg3 x0 x1 hfr
  go_loopw [6, 7] (fun y i wr => ∃ (j m gb : Nat) (Q : Nat → Pm), j + m ≤ 3 ∧ i = .int .i64 j ∧ Own wr gb 64 3 y m (pls m Q) ∧ (∀ i, i < m → (Q i).ok ∧ badPG g (Q i) = false) ∧ Src wr b (2 + 8 * m) ∧ Blk wr w.heap.size (ofc g u) 42 ∧ q ≤ gb ∧ Below w.heap.size w wr) (fun _ i _ => (intOf i).toNat)
  case atStart => exact ⟨X, 0, q, _, by omega, rfl, hG, fun i hi => by omega, hs3, hO, Nat.le_refl _, hbs⟩
  case round =>
    clear hG hs3 hO hbs hX3
    obtain ⟨j, m, gb, Q, hjm, rfl, hG, hQ, hsr, hO, hgb, hbs⟩ := hrel
    by_cases hlt : 0 < j
    · have bj : (0 : Int) < j := by omega
      have hdp := l07PermitDrawn_any b w.heap.size (2 + 8 * m) g u hW hH (by omega) wr hsr hO (by omega)
      have HQ := Lib.hid hQ
      clear hQ
      go_wp2_with (first | (go_at_call 49; refine hdp.mono ?_; rintro e w4 ⟨p, hpo, hpb, rfl, hs4, hg4⟩; rw [Pm.cells_eq]; have hG4 := hG.grown hg4 (fun e => by injection e; omega)) | (at_builtin; refine wpList_app elPm rfl rfl rfl rfl (by decide) (hG4.alloc _) (Blk.new _ _ _) rfl ?_ ?_ ?_ ?_; (· intro u hu; simp at hu; rcases hu with rfl | rfl | rfl <;> rfl); (· unfold maxLen; omega); (· omega); intro v1 w7 g2 hown1 hgr1 hg1))
      have e4 := hg4.size
      have ls := hsr.lt
      have lg := hG4.lt
      have eb := hbs.size
      go_roundw
      case rel =>
        refine ⟨j - 1, m + 1, g2, fun i => if i = m then p else Q i, by omega, by rw [show ((j : Int) - 1) = ((j - 1 : Nat) : Int) by omega], ?_, ?_, ?_, ?_, ?_, ?_⟩
        · rw [pls_succ, if_pos rfl, pls_congr (P' := Q) (fun i hi => if_neg (by omega)), Pm.cells_eq]
          exact hown1
        · intro i hi
          by_cases him : i = m
          · simp only [him, if_true]; exact ⟨hpo, hpb⟩
          · simp only [him, if_false]; exact HQ.out i (by omega)
        · exact hs4.move fun r hr => (hgr1.block r (by simp; omega) (fun e => by injection e; omega)).trans (heap_alloc_old w4 _ (by omega))
        · exact ((hO.grown hg4 (fun e => by injection e; omega)).alloc _).grown hgr1 (fun e => by injection e; omega)
        · rcases hg1 with h | h
          · omega
          · rw [h]; simp; omega
        · exact ((hbs.grown hg4 eb (fun k e => by injection e; omega)).alloc (by omega) _).grown hgr1 (by simp; omega) (fun k e => by injection e; omega)
      case measure => simp [intOf]; omega
    · obtain rfl : j = 0 := by omega
      go_wp2_with fail
      go_ret
      exact ⟨_, gb, m, Q, by omega, rfl, by omega, hQ, hG, hbs⟩
end Go.Proofs.YtokdpmpgonafmaaGreat
/- What is drawn of an office: its watches (l07Drawn). -/
namespace Go.Proofs.YtokdpmpgonafmaaGreat
open Go.ChangeShapes Go.WideShapes Go.ChangeAt Go.RowKit
set_option linter.unusedVariables false
set_option linter.unusedSimpArgs false
attribute [local irreducible] Calls
/-- A watch's limit: quarters, from minus six on. -/
def limOf (x : Nat) : Nat := (floatBits .quo .f32 (floatOfInt .f32 ((x : Int) - 24)) 1082130432).getD 0
theorem lim_all : ∀ x : Nat, x < 65 → (floatBits .quo .f32 (floatOfInt .f32 ((x : Int) - 24)) 1082130432).isSome = true ∧ plain (limOf x) = true := by
  have h : (List.range 65).all (fun (x : Nat) => (floatBits .quo .f32 (floatOfInt .f32 ((x : Int) - 24)) 1082130432).isSome && plain (limOf x)) = true := by kernel_rfl
  intro x hx
  have := List.all_eq_true.1 h x (List.mem_range.2 hx)
  simpa using this
theorem lim_is {x : Nat} (h : x < 65) : floatBits .quo .f32 (floatOfInt .f32 ((x : Int) - 24)) 1082130432 = some (limOf x) := by
  obtain ⟨r, hr⟩ := Option.isSome_iff_exists.1 (lim_all x h).1
  unfold limOf; rw [hr]; rfl
/-- What a drawn watch is. -/
def goodW (g : Gr) (p : Wt) : Prop := p.ok ∧ badW g p = false
theorem goodW_of {g : Gr} {y z : Int} {x : Nat} (hW : g.wide ≤ 4) (hH : g.high ≤ 4) (hy : 0 ≤ y ∧ y < g.wide) (hz : 0 ≤ z ∧ z < g.high) (hx : x < 65) : goodW g ⟨y + 8 * z, limOf x⟩ := by
  obtain ⟨m, hm⟩ : ∃ m : Nat, (m : Int) = y + 8 * z := ⟨(y + 8 * z).toNat, by omega⟩
  refine ⟨⟨by show -128 ≤ y + 8 * z; omega, by show y + 8 * z ≤ 127; omega⟩, ?_⟩
  unfold badW isCI isC
  rw [(lim_all x hx).2, ← hm]
  simp
  omega
/-- An office with such watches is in order. -/
theorem validO_of {g : Gr} {n : Nat} {P : Nat → Wt} (hg : validG g = true) (hn : n ≤ 3) (hP : ∀ i, i < n → goodW g (P i)) : validO g n P = true := by
  unfold validO
  rw [hg, Bool.true_and, Bool.and_eq_true]
  refine ⟨by simp; omega, ?_⟩
  rw [Bool.not_eq_true', anyTo_false]
  exact fun i hi => (hP i hi).2
theorem validP_of {g : Gr} {n m : Nat} {P : Nat → Wt} {Q : Nat → Pm} (h : validO g n P = true) (hm : m ≤ 3) (hQ : ∀ i, i < m → badPG g (Q i) = false) : validP g n P m Q = true := by
  unfold validP
  rw [h, Bool.true_and, Bool.and_eq_true]
  refine ⟨by simp; omega, ?_⟩
  rw [Bool.not_eq_true', anyTo_false]
  exact hQ
end Go.Proofs.YtokdpmpgonafmaaGreat
/- An office built of a ground alone. -/
namespace Go.Proofs.YtokdpmpgonafmaaGreat
set_option linter.unusedVariables false
set_option linter.unusedSimpArgs false
theorem fold_get : ∀ (L : List Value) (k : Nat) (D : Array Value) (i : Nat), k + L.length ≤ D.size → ((L.zipIdx k).foldl (fun cs x => cs.setIfInBounds x.2 x.1) D)[i]? = if k ≤ i ∧ i < k + L.length then L[i - k]? else D[i]?
  | [], k, D, i, h => by
    rw [if_neg (by simp)]; rfl
  | x :: L, k, D, i, h => by
    rw [List.length_cons] at h
    rw [List.zipIdx_cons, List.foldl_cons, fold_get L (k + 1) _ i (by rw [Array.size_setIfInBounds]; omega), List.length_cons, Array.getElem?_setIfInBounds]
    by_cases hk : k = i
    · subst hk
      rw [if_neg (by omega), if_pos rfl, if_pos (by omega), if_pos (by omega), Nat.sub_self]; rfl
    · rw [if_neg hk]
      by_cases h1 : k + 1 ≤ i ∧ i < k + 1 + L.length
      · rw [if_pos h1, if_pos (by omega), show i - k = (i - (k + 1)) + 1 by omega, List.getElem?_cons_succ]
      · rw [if_neg h1, if_neg (by omega)]
theorem zeroCells_of : Tryz.zeroCells42 = ofc zeroGr (.slice none 0 0) := by unfold zeroGr ofc Gr.cells; kernel_rfl
theorem builtOfc (G : Gr) : Array.foldl (fun (cs : Array Value) (x : Value × Nat) => cs.setIfInBounds x.2 x.1) Tryz.zeroCells42 G.cells.zipIdx 0 G.cells.size = ofc G (.slice none 0 0) := by
  have hsz : G.cells.zipIdx.size = G.cells.size := by simp
  rw [← hsz, ← Array.foldl_toList, Array.toList_zipIdx, zeroCells_of]
  apply Array.ext_getElem?
  intro i
  rw [fold_get _ _ _ _ (by rw [ofc_size, Array.length_toList, Gr.size]; omega), Array.length_toList, Gr.size]
  by_cases h : i < 195
  · rw [if_pos (by omega), Nat.sub_zero, Array.getElem?_toList, G.get i h, ofc_get G _ i h]
  · rw [if_neg (by omega)]
    by_cases h2 : i = 195
    · subst h2; rw [ofc_last, ofc_last]
    · rw [Array.getElem?_eq_none (by rw [ofc_size]; omega), Array.getElem?_eq_none (by rw [ofc_size]; omega)]
end Go.Proofs.YtokdpmpgonafmaaGreat
