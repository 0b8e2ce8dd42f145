import Derived.Test.YtglimhkpndfjgaaGreatDoorMW23
import Derived.Test.YtglimhkpndfjgaaGreatDoorMW26
import Derived.Test.YtglimhkpndfjgaaGreatDoorMW25
import Derived.Test.YtglimhkpndfjgaaGreatDoorMW12
import Derived.Test.YtglimhkpndfjgaaGreatDoorMW21
/- The field of drawdowns: the program's walk. -/
namespace Go.Proofs.YtglimhkpndfjgaaGreatDoor
open Go.ChangeShapes Go.WideShapes Go.ChangeAt Go.RowKit
set_option linter.unusedVariables false
set_option linter.unusedSimpArgs false
attribute [local irreducible] Calls
theorem built64W : Tryz.prog.built 40 [] = some (fls 64 fun _ => 0).toArray := by unfold fls; kernel_rfl
/-- The sums at all cells. -/
def fldF (T S : Nat) (P : Nat → Wl) (n time k : Nat) : Nat := sumF T S P n ((k % 8 : Nat) : Int) ((k / 8 : Nat) : Int) time
/-- .. at the first cells. -/
def fldT (Z : Nat → Nat) (k i : Nat) : Nat := if i < k then Z i else 0
theorem fldT_step (Z : Nat → Nat) (k : Nat) (hk : k < 64) : (fls 64 (fldT Z k)).toArray.setIfInBounds k (.float .f32 (Z k)) = (fls 64 (fldT Z (k + 1))).toArray := by
  rw [fls_set 64 _ k (Z k) hk]
  congr 1
  apply fls_congr
  intro i hi
  unfold upd fldT
  by_cases h : i = k
  · subst h; simp
  · by_cases h2 : i < k
    · rw [if_neg h, if_pos h2, if_pos (by omega)]
    · rw [if_neg h, if_neg h2, if_neg (by omega)]
theorem fldT_zero (Z : Nat → Nat) : fls 64 (fldT Z 0) = fls 64 fun _ => 0 := fls_congr fun i hi => by unfold fldT; rw [if_neg (by omega)]
theorem fldT_all (Z : Nat → Nat) : fls 64 (fldT Z 64) = fls 64 Z := fls_congr fun i hi => by unfold fldT; rw [if_pos hi]
set_option maxRecDepth 100000 in
set_option maxHeartbeats 2000000 in
theorem fieldAfter_any (T S : Nat) (hA : AqD T S) (n : Nat) (hn : n ≤ 4) (P : Nat → Wl) (hP : ∀ i, i < n → WlD (P i)) (v : Value) (time : Nat) (h1 : 1 ≤ time) (h2 : time ≤ 100000) (w : World) (hv : LSl w v n P) :
    Calls Tryz.prog 15 #[.agg #[.float .f32 T, .float .f32 S], v, .int .i64 time] w fun e w' => e = .returned (.tuple #[.agg (fls 64 (fldF T S P n time)).toArray, .int .i64 0]) ∧ Below w.heap.size w w' := by
  have hA0 : Blk ((w.alloc (.cells #[.float .f32 T, .float .f32 S] 26)).alloc (.cells (fls 64 fun _ => 0).toArray 40)) w.heap.size #[.float .f32 T, .float .f32 S] 26 := (Blk.new _ _ _).alloc _
  have hR0 : Blk ((w.alloc (.cells #[.float .f32 T, .float .f32 S] 26)).alloc (.cells (fls 64 fun _ => 0).toArray 40)) (w.heap.size + 1) (fls 64 fun _ => 0).toArray 40 := Blk.new1 _ _ _ _
  have hbel : Below w.heap.size w ((w.alloc (.cells #[.float .f32 T, .float .f32 S] 26)).alloc (.cells (fls 64 fun _ => 0).toArray 40)) := below2 w _ _
  have hv := hv.below hbel
  have hmf := fun w' u hv' hu' => momentsFault_any T S hA.ok n (by omega) P hP v 0 0 (by omega) (by omega) 1 (fun _ => (time : Int)) (fun i hi => by omega) u w' hv' hu'
  have hdd : ∀ k : Nat, k < 64 → ∀ w', LSl w' v n P → Calls Tryz.prog 66 #[.agg #[.float .f32 T, .float .f32 S], v, .int .i64 (Int.tmod (k : Int) 8), .int .i64 (Int.tdiv (k : Int) 8), .int .i64 time] w' (GotDd w' n (ddF T S P ((k % 8 : Nat) : Int) ((k / 8 : Nat) : Int) time)) := fun k hk w' hv' => by
    have h := drawdowns_any T S hA.aq n (by omega) P hP v ((k % 8 : Nat) : Int) ((k / 8 : Nat) : Int) (by omega) (by omega) time h1 h2 w' hv'
    rw [show Int.tmod (k : Int) 8 = ((k % 8 : Nat) : Int) by rw [Int.tmod_eq_emod_of_nonneg (by omega)]; omega, show Int.tdiv (k : Int) 8 = ((k / 8 : Nat) : Int) by rw [Int.tdiv_eq_ediv_of_nonneg (by omega)]; omega]
    exact h
  have hsm : ∀ k : Nat, k < 64 → ∀ g u w', Own w' g 24 1 u n (fls n (ddF T S P ((k % 8 : Nat) : Int) ((k / 8 : Nat) : Int) time)) → Calls Tryz.prog 69 #[u] w' fun e w'' => e = .returned (.float .f32 (fldF T S P n time k)) ∧ ∃ m, w'' = w'.drewN m := fun k hk g u w' hO => sum_is hn (ddF_mg hA.aq hP (by omega) (by omega) h1 h2) g u w' hO
  generalize fldF T S P n time = Z at *
  generalize hG : (fun k : Nat => ddF T S P ((k % 8 : Nat) : Int) ((k / 8 : Nat) : Int) time) = G at *
  have hdd : ∀ k : Nat, k < 64 → ∀ w', LSl w' v n P → Calls Tryz.prog 66 #[.agg #[.float .f32 T, .float .f32 S], v, .int .i64 (Int.tmod (k : Int) 8), .int .i64 (Int.tdiv (k : Int) 8), .int .i64 time] w' (GotDd w' n (G k)) := by subst hG; exact hdd
  have hsm : ∀ k : Nat, k < 64 → ∀ g u w', Own w' g 24 1 u n (fls n (G k)) → Calls Tryz.prog 69 #[u] w' fun e w'' => e = .returned (.float .f32 (Z k)) ∧ ∃ m, w'' = w'.drewN m := by subst hG; exact hsm
  have HD := Lib.hid hdd
  have HS := Lib.hid hsm
  clear hG hdd hsm hP hA
  go_enter Tryz.func15, Tryz.ntmps15
  go_upto_region 1 with (refine wpList_alloc_as rfl rfl zero64 ?_)
  generalize (w.alloc (.cells #[.float .f32 T, .float .f32 S] 26)).alloc (.cells (fls 64 fun _ => 0).toArray 40) = W at *
  have hA1 := hA0.alloc (.cells #[.int .i64 time] 2)
  have hR1 := hR0.alloc (.cells #[.int .i64 time] 2)
  have hu := isl_one (Blk.new W #[.int .i64 (time : Int)] 2)
  have hv1 := hv.below (below1 W (.cells #[.int .i64 time] 2))
  have hb1 := hbel.alloc hbel.size (.cells #[.int .i64 time] 2)
  go_upto_region 2 with (first | (refine wpList_load_blk rfl rfl rfl rowAq hA0 rfl ?_) | (go_at_call 65; refine (hmf _ _ hv1 hu).mono ?_; rintro e w2 ⟨rfl, hb2⟩; replace hv := hv1.below hb2; replace hA1 := hA1.below hb2 hA1.lt; replace hR1 := hR1.below hb2 hR1.lt; replace hb1 := hb1.trans (hb2.mono hb1.size)))
  clear hmf hA0 hR0 hu hv1 hb2
  go_upto_region 5 with (first | (refine wpList_alloc_as rfl rfl zero64 ?_) | (refine wpList_zero rfl rfl built64W ?_) | (refine wpList_store_last rfl rfl rfl rfl rfl (by rw [fls_size]; kernel_rfl) rfl (List.all_eq_true.2 (fls_one _ _)) ?_))
  have hF := Blk.new w2 (fls 64 fun _ => 0).toArray 40
  have hA2 := hA1.alloc (.cells (fls 64 fun _ => 0).toArray 40)
  have hR2 := hR1.alloc (.cells (fls 64 fun _ => 0).toArray 40)
  have hbB := below1 w2 (.cells (fls 64 fun _ => 0).toArray 40)
  have hb3 := hb1.alloc hb1.size (.cells (fls 64 fun _ => 0).toArray 40)
  generalize w2.alloc (.cells (fls 64 fun _ => 0).toArray 40) = W2 at *
  obtain ⟨q, hq⟩ : ∃ q, w2.heap.size = q := ⟨_, rfl⟩
  have lA2 := hA1.lt
  have lR2 := hR1.lt
  rw [hq] at hF lA2 lR2 ⊢
  go_wp2_with fail
  rw [← fldT_zero Z] at hF
  go_loopw [21] (fun i wr => ∃ k : Nat, k ≤ 64 ∧ i = .int .i64 k ∧ Blk wr q (fls 64 (fldT Z k)).toArray 40 ∧ Blk wr w.heap.size #[.float .f32 T, .float .f32 S] 26 ∧ Blk wr (w.heap.size + 1) (fls 64 fun _ => 0).toArray 40 ∧ Below w2.heap.size w2 wr ∧ Below w.heap.size w wr) (fun i _ => 64 - (intOf i).toNat)
  case atStart => exact ⟨0, by omega, rfl, hF, hA2, hR2, hbB, hb3⟩
  case round =>
    clear hF hA2 hR2 hbB hb3
    obtain ⟨k, hk, rfl, hF, hA2, hR2, hbB, hb3⟩ := hrel
    have hv2 := hv.below hbB
    have bk : (0 : Int) ≤ k := by omega
    by_cases hlt : k < 64
    · have bl : (k : Int) < 64 := by omega
      have hdd := HD.out k hlt
      have hsm := HS.out k hlt
      have sb := hb3.size
      have lF := hF.lt
      go_wp2_with (first | (refine wpList_load_blk rfl rfl rfl rowAq hA2 rfl ?_) | (go_at_call 66; refine (hdd _ hv2).mono ?_; rintro e w4 ⟨u, g, rfl, hg, hO, hb4⟩; have hF4 := hF.below hb4 lF; have hA4 := hA2.below hb4 hA2.lt; have hR4 := hR2.below hb4 hR2.lt; have hbB4 := hbB.trans (hb4.mono hbB.size); have hb5 := hb3.trans (hb4.mono sb)) | (go_at_call 69; refine (hsm _ _ _ hO).mono ?_; rintro e w' ⟨rfl, mm, rfl⟩) | (refine wpList_store_abs (v := .float .f32 (Z k)) rfl rfl rfl rfl szF32W rfl rfl (hF4.drewN mm) (by rw [fls_size]; exact hlt) ?_; intro W9 hF9 hg9))
      rw [fldT_step Z k hlt] at hF9
      have s5 := hb5.size
      go_roundw
      case rel =>
        refine ⟨k + 1, by omega, by go_num, hF9, (hA4.drewN mm).grown hg9 (fun e => by injection e; omega), (hR4.drewN mm).grown hg9 (fun e => by injection e; omega), (below_drewN hbB4 mm).grown hg9 hbB4.size (fun k e => by injection e; omega), (below_drewN hb5 mm).grown hg9 hb5.size (fun k e => by injection e; omega)⟩
      case measure => simp [intOf]; omega
    · obtain rfl : k = 64 := by omega
      rw [fldT_all Z] at hF
      go_wp2_with (first | (refine wpList_load_blk rfl rfl rfl row64 hF (fls_size _ _) ?_) | (refine wpList_store_blk rfl rfl rfl rfl row64 hR2 (fls_size _ _) (fls_size _ _) (fls_one _ _) ?_))
      exact bodyPost_row2 rfl rfl row64 (hR2.setRow _) (fls_size _ _) rfl ⟨rfl, below_setRow hb3 (by omega) _⟩
end Go.Proofs.YtglimhkpndfjgaaGreatDoor
/- The field of drawdowns: the reference's walk. -/
namespace Go.Proofs.YtglimhkpndfjgaaGreatDoor
open Go.ChangeShapes Go.WideShapes Go.ChangeAt Go.RowKit
set_option linter.unusedVariables false
set_option linter.unusedSimpArgs false
attribute [local irreducible] Calls
set_option maxRecDepth 100000 in
set_option maxHeartbeats 2000000 in
theorem specFieldAfter_any (T S : Nat) (hA : AqD T S) (n : Nat) (hn : n ≤ 4) (P : Nat → Wl) (hP : ∀ i, i < n → WlD (P i)) (v : Value) (time : Nat) (h1 : 1 ≤ time) (h2 : time ≤ 100000) (w : World) (hv : LSl w v n P) :
    Calls Tryz.prog 16 #[.agg #[.float .f32 T, .float .f32 S], v, .int .i64 time] w fun e w' => e = .returned (.tuple #[.agg (fls 64 (fldF T S P n time)).toArray, .int .i64 0]) ∧ Below w.heap.size w w' := by
  have hA0 : Blk ((w.alloc (.cells #[.float .f32 T, .float .f32 S] 26)).alloc (.cells (fls 64 fun _ => 0).toArray 40)) w.heap.size #[.float .f32 T, .float .f32 S] 26 := (Blk.new _ _ _).alloc _
  have hR0 : Blk ((w.alloc (.cells #[.float .f32 T, .float .f32 S] 26)).alloc (.cells (fls 64 fun _ => 0).toArray 40)) (w.heap.size + 1) (fls 64 fun _ => 0).toArray 40 := Blk.new1 _ _ _ _
  have hbel : Below w.heap.size w ((w.alloc (.cells #[.float .f32 T, .float .f32 S] 26)).alloc (.cells (fls 64 fun _ => 0).toArray 40)) := below2 w _ _
  have hv := hv.below hbel
  have hmf := fun w' hv' => l03Asked_any T S hA.ok n (by omega) P hP v 0 0 time (by omega) (by omega) (by omega) w' hv'
  have hdd : ∀ k : Nat, k < 64 → ∀ w', LSl w' v n P → Calls Tryz.prog 68 #[.agg #[.float .f32 T, .float .f32 S], v, .int .i64 (Int.tmod (k : Int) 8), .int .i64 (Int.tdiv (k : Int) 8), .int .i64 time] w' (GotDd w' n (ddF T S P ((k % 8 : Nat) : Int) ((k / 8 : Nat) : Int) time)) := fun k hk w' hv' => by
    have h := l03Drawdowns_any T S hA.aq n (by omega) P hP v ((k % 8 : Nat) : Int) ((k / 8 : Nat) : Int) (by omega) (by omega) time h1 h2 w' hv'
    rw [show Int.tmod (k : Int) 8 = ((k % 8 : Nat) : Int) by rw [Int.tmod_eq_emod_of_nonneg (by omega)]; omega, show Int.tdiv (k : Int) 8 = ((k / 8 : Nat) : Int) by rw [Int.tdiv_eq_ediv_of_nonneg (by omega)]; omega]
    exact h
  have hsm : ∀ k : Nat, k < 64 → ∀ g u w', Own w' g 24 1 u n (fls n (ddF T S P ((k % 8 : Nat) : Int) ((k / 8 : Nat) : Int) time)) → Calls Tryz.prog 70 #[u] w' fun e w'' => e = .returned (.float .f32 (fldF T S P n time k)) ∧ ∃ m, w'' = w'.drewN m := fun k hk g u w' hO => l03Sum_is hn (ddF_mg hA.aq hP (by omega) (by omega) h1 h2) g u w' hO
  generalize fldF T S P n time = Z at *
  generalize hG : (fun k : Nat => ddF T S P ((k % 8 : Nat) : Int) ((k / 8 : Nat) : Int) time) = G at *
  have hdd : ∀ k : Nat, k < 64 → ∀ w', LSl w' v n P → Calls Tryz.prog 68 #[.agg #[.float .f32 T, .float .f32 S], v, .int .i64 (Int.tmod (k : Int) 8), .int .i64 (Int.tdiv (k : Int) 8), .int .i64 time] w' (GotDd w' n (G k)) := by subst hG; exact hdd
  have hsm : ∀ k : Nat, k < 64 → ∀ g u w', Own w' g 24 1 u n (fls n (G k)) → Calls Tryz.prog 70 #[u] w' fun e w'' => e = .returned (.float .f32 (Z k)) ∧ ∃ m, w'' = w'.drewN m := by subst hG; exact hsm
  have HD := Lib.hid hdd
  have HS := Lib.hid hsm
  clear hG hdd hsm hP hA
  go_enter Tryz.func16, Tryz.ntmps16
  go_upto_region 1 with (refine wpList_alloc_as rfl rfl zero64 ?_)
  generalize (w.alloc (.cells #[.float .f32 T, .float .f32 S] 26)).alloc (.cells (fls 64 fun _ => 0).toArray 40) = W at *
  have hF := Blk.new W (fls 64 fun _ => 0).toArray 40
  have hA1 := hA0.alloc (.cells (fls 64 fun _ => 0).toArray 40)
  have hR1 := hR0.alloc (.cells (fls 64 fun _ => 0).toArray 40)
  have hbB := below1 W (.cells (fls 64 fun _ => 0).toArray 40)
  have hv1 := hv.below hbB
  have hb1 := hbel.alloc hbel.size (.cells (fls 64 fun _ => 0).toArray 40)
  go_upto_region 2 with (first | (refine wpList_alloc_as rfl rfl zero64 ?_) | (refine wpList_zero rfl rfl built64W ?_) | (refine wpList_store_last rfl rfl rfl rfl rfl (by rw [fls_size]; kernel_rfl) rfl (List.all_eq_true.2 (fls_one _ _)) ?_))
  generalize W.alloc (.cells (fls 64 fun _ => 0).toArray 40) = W1 at *
  obtain ⟨q, hq⟩ : ∃ q, W.heap.size = q := ⟨_, rfl⟩
  have lA2 := hA0.lt
  have lR2 := hR0.lt
  rw [hq] at hF lA2 lR2 ⊢
  go_upto_region 3 with (first | (refine wpList_load_blk rfl rfl rfl rowAq hA1 rfl ?_) | (go_at_call 67; refine (hmf _ hv1).mono ?_; rintro e W2 ⟨rfl, hb2⟩; replace hbB := hbB.trans (hb2.mono hbB.size); have hA2 := hA1.below hb2 hA1.lt; have hR2 := hR1.below hb2 hR1.lt; replace hF := hF.below hb2 hF.lt; have hb3 := hb1.trans (hb2.mono hb1.size)))
  clear hmf hA0 hR0 hv1 hb2 hA1 hR1
  go_wp2_with fail
  rw [← fldT_zero Z] at hF
  go_loopw [10] (fun i wr => ∃ k : Nat, k ≤ 64 ∧ i = .int .i64 k ∧ Blk wr q (fls 64 (fldT Z k)).toArray 40 ∧ Blk wr w.heap.size #[.float .f32 T, .float .f32 S] 26 ∧ Blk wr (w.heap.size + 1) (fls 64 fun _ => 0).toArray 40 ∧ Below W.heap.size W wr ∧ Below w.heap.size w wr) (fun i _ => 64 - (intOf i).toNat)
  case atStart => exact ⟨0, by omega, rfl, hF, hA2, hR2, hbB, hb3⟩
  case round =>
    clear hF hA2 hR2 hbB hb3
    obtain ⟨k, hk, rfl, hF, hA2, hR2, hbB, hb3⟩ := hrel
    have hv2 := hv.below hbB
    have bk : (0 : Int) ≤ k := by omega
    by_cases hlt : k < 64
    · have bl : (k : Int) < 64 := by omega
      have hdd := HD.out k hlt
      have hsm := HS.out k hlt
      have sb := hb3.size
      have lF := hF.lt
      go_wp2_with (first | (refine wpList_load_blk rfl rfl rfl rowAq hA2 rfl ?_) | (go_at_call 68; refine (hdd _ hv2).mono ?_; rintro e w4 ⟨u, g, rfl, hg, hO, hb4⟩; have hF4 := hF.below hb4 lF; have hA4 := hA2.below hb4 hA2.lt; have hR4 := hR2.below hb4 hR2.lt; have hbB4 := hbB.trans (hb4.mono hbB.size); have hb5 := hb3.trans (hb4.mono sb)) | (go_at_call 70; refine (hsm _ _ _ hO).mono ?_; rintro e w' ⟨rfl, mm, rfl⟩) | (refine wpList_store_abs (v := .float .f32 (Z k)) rfl rfl rfl rfl szF32W rfl rfl (hF4.drewN mm) (by rw [fls_size]; exact hlt) ?_; intro W9 hF9 hg9))
      rw [fldT_step Z k hlt] at hF9
      have s5 := hb5.size
      go_roundw
      case rel =>
        refine ⟨k + 1, by omega, by go_num, hF9, (hA4.drewN mm).grown hg9 (fun e => by injection e; omega), (hR4.drewN mm).grown hg9 (fun e => by injection e; omega), (below_drewN hbB4 mm).grown hg9 hbB4.size (fun k e => by injection e; omega), (below_drewN hb5 mm).grown hg9 hb5.size (fun k e => by injection e; omega)⟩
      case measure => simp [intOf]; omega
    · obtain rfl : k = 64 := by omega
      rw [fldT_all Z] at hF
      go_wp2_with (first | (refine wpList_load_blk rfl rfl rfl row64 hF (fls_size _ _) ?_) | (refine wpList_store_blk rfl rfl rfl rfl row64 hR2 (fls_size _ _) (fls_size _ _) (fls_one _ _) ?_))
      exact bodyPost_row2 rfl rfl row64 (hR2.setRow _) (fls_size _ _) rfl ⟨rfl, below_setRow hb3 (by omega) _⟩
end Go.Proofs.YtglimhkpndfjgaaGreatDoor
/- (without grounds) A ground is the same as itself: the program's and the reference's answers. -/
namespace Go.Proofs.YtglimhkpndfjgaaGreatDoor
open Go.ChangeShapes Go.WideShapes Go.ChangeAt Go.RowKit
set_option linter.unusedVariables false
set_option linter.unusedSimpArgs false
attribute [local irreducible] Calls
set_option maxRecDepth 100000 in
set_option maxHeartbeats 400000 in
theorem l01SameField_one (p o q u : Nat) (F : Nat → Nat) (w : World) (h1 : ∀ k, k < 64 → w.cell? ⟨p, o + k, none⟩ = some (.float .f32 (F k))) (h2 : ∀ k, k < 64 → w.cell? ⟨q, u + k, none⟩ = some (.float .f32 (F k))) :
    Calls Tryz.prog 75 #[.pointer (some ⟨p, o, none⟩), .pointer (some ⟨q, u, none⟩)] w fun e w' => e = .returned (.bool true) ∧ ∃ n, w' = w.drewN n := by
  have H1 := Lib.hid h1
  have H2 := Lib.hid h2
  clear h1 h2
  go_enter Tryz.func75, Tryz.ntmps75
  go_upto_region 2 with fail
  go_loopw [5] (fun i wr => ∃ (j n : Nat), j ≤ 64 ∧ i = .int .i64 j ∧ wr = w.drewN n) (fun i _ => 64 - (intOf i).toNat)
  case atStart => exact ⟨0, 0, by omega, rfl, rfl⟩
  case round =>
    obtain ⟨j, n, hj, rfl, hw⟩ := hrel
    have bj : (0 : Int) ≤ j := by omega
    rw [hw]
    clear hw wr
    by_cases hlt : j < 64
    · have bl : (j : Int) < 64 := by omega
      have c1 : (w.drewN n).cell? ⟨p, o + j, none⟩ = some (.float .f32 (F j)) := H1.out j hlt
      have c2 : (w.drewN n).cell? ⟨q, u + j, none⟩ = some (.float .f32 (F j)) := H2.out j hlt
      have hs := fun w' => l01Same_cn (rfl : cn (F j) = cn (F j)) w'
      generalize hW : w.drewN n = W at *
      go_upto_region 4 with fail
      go_quiet ((go_at_call 74; exact Calls.quiet_of_same (hs _)))
      go_wp2_with fail
      go_roundw
      case rel => exact ⟨j + 1, n + nq, by omega, by go_num, by rw [← hW, World.drewN_drewN]⟩
      case measure => simp [intOf]; omega
    · obtain rfl : j = 64 := by omega
      go_wp2_with fail
      go_ret
      exact ⟨rfl, n, rfl⟩
set_option maxRecDepth 100000 in
set_option maxHeartbeats 400000 in
theorem sameFieldS_one (F : Nat → Nat) (w : World) :
    Calls Tryz.prog 22 #[.agg (fls 64 F).toArray, .agg (fls 64 F).toArray] w fun e w' => e = .returned (.bool true) ∧ Below w.heap.size w w' := by
  have hA : Blk ((w.alloc (.cells (fls 64 F).toArray 40)).alloc (.cells (fls 64 F).toArray 40)) w.heap.size (fls 64 F).toArray 40 := (Blk.new _ _ _).alloc _
  have hB : Blk ((w.alloc (.cells (fls 64 F).toArray 40)).alloc (.cells (fls 64 F).toArray 40)) (w.heap.size + 1) (fls 64 F).toArray 40 := Blk.new1 _ _ _ _
  have hbel : Below w.heap.size w ((w.alloc (.cells (fls 64 F).toArray 40)).alloc (.cells (fls 64 F).toArray 40)) := below2 w _ _
  go_enter Tryz.func22, Tryz.ntmps22
  go_upto_region 1 with (refine wpList_box_as rfl rfl rfl ?_)
  generalize (w.alloc (.cells (fls 64 F).toArray 40)).alloc (.cells (fls 64 F).toArray 40) = W at *
  have hs := l01SameField_one w.heap.size 0 (w.heap.size + 1) 0 F W (fun k hk => by rw [Nat.zero_add]; exact (hA.cell k).trans (by simpa using fls_get 64 F k hk)) (fun k hk => by rw [Nat.zero_add]; exact (hB.cell k).trans (by simpa using fls_get 64 F k hk))
  go_wp2_with (go_at_call 75; refine hs.mono ?_; rintro e w' ⟨rfl, nn, rfl⟩)
  go_ret
  exact ⟨rfl, below_drewN hbel _⟩
end Go.Proofs.YtglimhkpndfjgaaGreatDoor
/- Bytes that a caller hands in: opened; are they too many (a2Long)? -/
namespace Go.Proofs.YtglimhkpndfjgaaGreatDoor
open Go.ChangeShapes Go.WideShapes Go.ChangeAt Go.RowKit
set_option linter.unusedVariables false
set_option linter.unusedSimpArgs false

/-- The slice v holds n bytes. -/
def BSl (w : World) (v : Value) (n : Nat) : Prop :=
  ∃ (a : Option Addr) (c : Nat), v = .slice a n c ∧ n ≤ maxLen ∧ ∀ j, j < n → ∃ (r o x : Nat), a = some ⟨r, o, none⟩ ∧ r < w.heap.size ∧ x < 256 ∧ w.cell? ⟨r, o + j, none⟩ = some (.int .u8 x)
theorem BSl.below {w w' : World} {v : Value} {n : Nat} (h : BSl w v n) (hb : Below w.heap.size w w') : BSl w' v n := by
  obtain ⟨a, c, hv, hn, hc⟩ := h
  refine ⟨a, c, hv, hn, fun j hj => ?_⟩
  obtain ⟨r, o, x, h1, h2, h3, h4⟩ := hc j hj
  exact ⟨r, o, x, h1, Nat.lt_of_lt_of_le h2 hb.size, h3, (hb.cell (p := ⟨r, _, none⟩) h2).trans h4⟩
theorem BSl.bytes {w : World} {v : Value} {n : Nat} (h : BSl w v n) (hn : n ≤ 4096) : Bytes w w.heap.size v n := by
  obtain ⟨a, c, hv, _, hc⟩ := h
  exact ⟨a, c, hv, hn, hc⟩
section
variable {H : Type} {enc : TypeId × Value → H} {W : World} {r : Reach} {b0 : Nat}
set_option maxRecDepth 100000 in
theorem bytes_of_trod {fuel : Nat} {v : Value} {x : DataW H × List MemPlace} (h : DataW.trod enc Tryz.prog W 0 (fun _ => true) true fuel 22 [v] = some x) : ∃ n, BSl W v n := by
  rcases Go.Deep.open_slice Tryz.underlying22 h with ⟨h1, _⟩ | ⟨a, len, cap, m, k, D, Pl, h1, _, hl, hm, hmm, _, hx⟩
  · obtain rfl : v = .slice none 0 0 := by simpa using h1
    exact ⟨0, none, 0, rfl, Nat.zero_le _, fun j hj => absurd hj (by omega)⟩
  obtain rfl : v = .slice (some a) len cap := by simpa using h1
  have c1 : Tryz.prog.cellsOf 5 = 1 := by kernel_rfl
  have hlm : len ≤ m := by rw [hmm]; split <;> omega
  rw [c1] at hx
  have hf : ∀ j, j < len → ∃ q : Int, W.cell? ((a.add (j * 1)).add 0) = some (.int .u8 q) ∧ 0 ≤ q ∧ q ≤ 255 := fun j hj => by
    obtain ⟨cs', g1, g2⟩ := hx j (by omega)
    obtain ⟨q, hq, _, hwf⟩ := DataW.trod_int Tryz.underlying5 g2
    obtain ⟨_, hlen, hcell⟩ := World.cells?_some g1
    obtain ⟨q1, q2⟩ := bounds_u8 hwf
    exact ⟨q, by rw [hcell 0 (by omega), hq]; simp, q1, q2⟩
  refine ⟨len, some a, cap, rfl, Nat.le_trans hl hm, fun j hj => ?_⟩
  obtain ⟨q0, hc0, _⟩ := hf 0 (by omega)
  obtain ⟨b, o, spot⟩ := a
  have hspot : spot = none := by simpa [Addr.add] using World.cell?_spot hc0
  subst hspot
  obtain ⟨q, hc1, q1, q2⟩ := hf j hj
  rw [add_plain, add_plain] at hc1
  refine ⟨b, o, q.toNat, rfl, lt_of_cell hc1, by omega, ?_⟩
  rw [show ((q.toNat : Nat) : Int) = q by omega]
  simpa using hc1
set_option maxRecDepth 100000 in
theorem open_bytes {v : Value} {d : DataW H} {ps : List MemPlace} (hval : Value.okWide Tryz.prog W r b0 22 v) (h : DataW.Trod enc Tryz.prog W 0 (fun _ => true) true 22 v d ps) : ∃ n : Nat, BSl W v n := by
  obtain ⟨a, len, cap, rfl⟩ := okWide_slice Tryz.underlying22 hval
  obtain ⟨fuel, hf⟩ := h
  exact bytes_of_trod hf
end
attribute [local irreducible] Calls
end Go.Proofs.YtglimhkpndfjgaaGreatDoor
