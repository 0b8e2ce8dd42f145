/- The reference's WaveFrom: the mean and the wave that are seen in twelve levels. -/
import Derived.Test.YtililmlgladnaaaWaveImpl
namespace Go.Proofs.Ytililmlgladnaaa
open Go.ChangeShapes Go.WideShapes Go.ChangeAt Go.RowKit
set_option linter.unusedVariables false

theorem l06Re_any (a b : Nat) (w : World) : Calls Try.prog 56 #[.complex .f32 a b] w fun e w' => e = .returned (.float .f32 a) ∧ w' = w := by
  have hcv := fun (w : World) => run_convert_complex (P := Try.prog) w 29 28 .f32 .f32 a b a b (by kernel_rfl) (by kernel_rfl) (by simp [cConvBits, floatToFloatBits])
  go_enter Try.func56, Try.ntmps56
  go_wp2
  go_ret
  exact ⟨rfl, rfl⟩
theorem l06Im_any (a b : Nat) (w : World) : Calls Try.prog 57 #[.complex .f32 a b] w fun e w' => e = .returned (.float .f32 b) ∧ w' = w := by
  have hcv := fun (w : World) => run_convert_complex (P := Try.prog) w 29 28 .f32 .f32 a b a b (by kernel_rfl) (by kernel_rfl) (by simp [cConvBits, floatToFloatBits])
  go_enter Try.func57, Try.ntmps57
  go_wp2
  go_ret
  exact ⟨rfl, rfl⟩

set_option maxRecDepth 100000 in
set_option maxHeartbeats 400000 in
theorem specWaveFrom_any (f : Nat → Int) (w : World) :
    Calls Try.prog 19 #[.agg (i16s 12 f)] w fun e w' => ∃ m a b, e = .returned (.tuple #[.float .f32 m, .complex .f32 a b]) ∧ cn m = wfM f ∧ cn a = wfRe f ∧ cn b = wfIm f ∧ Below w.heap.size w w' := by
  go_enter Try.func19, Try.ntmps19
  go_upto_region 2 with (refine wpList_box_as rfl rfl rfl ?_)
  have hA : Blk ((w.alloc (.cells (i16s 12 f) 35)).alloc (.cells #[] 36)) w.heap.size (i16s 12 f) 35 := (Blk.new _ _ _).alloc _
  have h4 : Own ((w.alloc (.cells (i16s 12 f) 35)).alloc (.cells #[] 36)) (w.heap.size + 1) 36 1 (.slice (some ⟨w.heap.size + 1, 0, none⟩) 0 0) 0 (fls 0 fun _ => 0) := own_blk (Blk.new1 _ _ _ _) rfl (by decide) (fls_zero _).symm
  have hbel := below2 w (.cells (i16s 12 f) 35) (.cells #[] 36)
  generalize ((w.alloc (.cells (i16s 12 f) 35)).alloc (.cells #[] 36)) = W at *
  go_wp2_with fail
  go_loopw [4, 5] (fun ys i wr => ∃ (k g4 : Nat) (ff : Nat → Nat), k ≤ 12 ∧ i = .int .i64 k ∧ Own wr g4 36 1 ys k (fls k ff) ∧ Hid (∀ j, j < k → cn (ff j) = wfY f j) ∧ w.heap.size < g4 ∧ Blk wr w.heap.size (i16s 12 f) 35 ∧ Below w.heap.size w wr) (fun _ i _ => 12 - (intOf i).toNat)
  case atStart => exact ⟨0, _, _, by omega, rfl, h4, Lib.hid fun j hj => by omega, by omega, hA, hbel⟩
  case round =>
    clear h4 hA hbel
    obtain ⟨k, g4, ff, hk, rfl, h4, HF, q1, hA, hbel⟩ := hrel
    have l4 := h4.lt
    have lA := hA.lt
    by_cases hlt : k < 12
    · have g1 := i16s_get 12 f k hlt
      have cA : wr.cell? ⟨w.heap.size, k, none⟩ = some (.int .i16 (f k)) := by rw [hA.cell, g1]
      have hB := hbel.size
      go_wp2_with (at_builtin; refine wpList_app elF32 rfl rfl rfl rfl Nat.one_pos ((h4.drewN _).alloc _) (Blk.new _ _ _) rfl ?_ ?_ ?_ ?_; (· intro u hu; simp at hu; subst hu; rfl); (· unfold maxLen; omega); (· omega); intro v1 w1 g1' hown1 hgr1 hg1)
      go_roundw
      case rel =>
        have hb1 := below_app hbel hB hgr1 (by omega)
        rw [show ∀ b : Nat, (#[Value.float .f32 b] : Array Value).toList = [.float .f32 b] from fun _ => rfl, fls_snoc] at hown1
        have nA := ((hA.drewN _).alloc _).grown hgr1 (by simp; omega)
        simp at hg1
        refine ⟨k + 1, g1', _, by omega, by go_num, hown1, Lib.hid fun j hj => ?_, by omega, nA, hb1⟩
        by_cases hjk : j = k
        · subst hjk; simp only [upd, if_true, cn_fres]; rfl
        · simp only [upd, hjk, if_false]; exact HF.out j (by omega)
      case measure => simp [intOf]; omega
    · obtain rfl : k = 12 := by omega
      obtain ⟨cap4, rfl, hc1, hc2⟩ := h4.form
      go_wp2_with fail
      refine (l03Sum_any g4 _ 12 ff (by decide) _ h4).mono ?_
      rintro e w1 ⟨r, rfl, hr, q, rfl⟩
      have hM : cn (fres .quo r 1094713344 (wr.drewN q)) = wfM f := by
        rw [cn_fres, hr, fsumTo_congr 12 (g := wfY f) (fun i hi => HF.out i hi)]; rfl
      have HM := Lib.hid hM
      clear hM hr
      go_upto_region 9 with fail
      generalize fres .quo r 1094713344 (wr.drewN q) = m at *
      have h4 := h4.drewN (q + fcnt .quo r 1094713344)
      have hbel := below_drewN hbel (q + fcnt .quo r 1094713344)
      have hsz : (wr.drewN (q + fcnt .quo r 1094713344)).heap.size = wr.heap.size := rfl
      generalize wr.drewN (q + fcnt .quo r 1094713344) = W2 at *
      have l4 := h4.lt
      have hB := hbel.size
      have h5 : Own ((W2.alloc (.cells #[] 36)).alloc (.cells #[] 36)) W2.heap.size 36 1 (.slice (some ⟨W2.heap.size, 0, none⟩) 0 0) 0 (fls 0 fun _ => 0) := own_blk ((Blk.new _ _ _).alloc _) rfl (by decide) (fls_zero _).symm
      have h6 : Own ((W2.alloc (.cells #[] 36)).alloc (.cells #[] 36)) (W2.heap.size + 1) 36 1 (.slice (some ⟨W2.heap.size + 1, 0, none⟩) 0 0) 0 (fls 0 fun _ => 0) := own_blk (Blk.new1 _ _ _ _) rfl (by decide) (fls_zero _).symm
      rw [hsz] at h5 h6
      have h4 := (h4.alloc (.cells #[] 36)).alloc (.cells #[] 36)
      have hbel := hbel.trans ((below2 W2 (.cells #[] 36) (.cells #[] 36)).mono hB)
      generalize ((W2.alloc (.cells #[] 36)).alloc (.cells #[] 36)) = W3 at *
      go_wp2_with fail
      go_loopw [7, 8, 10] (fun fs ss i wx => ∃ (k g5 g6 : Nat) (fa fb : Nat → Nat), k ≤ 12 ∧ i = .int .i64 k ∧ Own wx g5 36 1 fs k (fls k fa) ∧ Own wx g6 36 1 ss k (fls k fb) ∧ Hid (∀ j, j < k → cn (fa j) = wfA f j) ∧ Hid (∀ j, j < k → cn (fb j) = wfB f j) ∧
        w.heap.size < g5 ∧ w.heap.size < g6 ∧ g4 ≠ g5 ∧ g4 ≠ g6 ∧ g5 ≠ g6 ∧ Own wx g4 36 1 (.slice (some ⟨g4, 0, none⟩) 12 cap4) 12 (fls 12 ff) ∧ Below w.heap.size w wx) (fun _ _ i _ => 12 - (intOf i).toNat)
      case atStart => exact ⟨0, _, _, _, _, by omega, rfl, h5, h6, Lib.hid (fun j hj => by omega), Lib.hid (fun j hj => by omega), by omega, by omega, by omega, by omega, by omega, h4, hbel⟩
      case round =>
        clear h4 h5 h6 hbel l4 hA lA
        obtain ⟨k, g5, g6, fa, fb, hk, rfl, h5, h6, ha, hb, q5, q6, q45, q46, q56, h4, hbel⟩ := hrel
        have l4 := h4.lt
        have l5 := h5.lt
        have l6 := h6.lt
        by_cases hlt : k < 12
        · have hkk : ((k : Int) % 12).toNat = k := by omega
          go_wp2_with fail
          refine (l06Turn_any k (by omega) (by omega) _).mono ?_
          rw [hkk]
          rintro e wt ⟨rfl, hbt⟩
          have h4t := h4.below hbt l4
          have h5t := h5.below hbt l5
          have h6t := h6.below hbt l6
          have hbelt := hbel.trans (hbt.mono hbel.size)
          have hB := hbelt.size
          have l4t := h4t.lt
          have l5t := h5t.lt
          have l6t := h6t.lt
          have c4 : wt.cell? ⟨g4, k, none⟩ = some (.float .f32 (ff k)) := by rw [h4t.cell k (by omega), fls_get _ _ _ hlt]
          clear h4 h5 h6 hbel hbt
          go_wp2_with (first
            | (go_at_call 56; refine (l06Re_any _ _ _).mono ?_; rintro e w' ⟨rfl, rfl⟩)
            | (go_at_call 57; refine (l06Im_any _ _ _).mono ?_; rintro e w' ⟨rfl, rfl⟩)
            | (at_builtin; refine wpList_app elF32 rfl rfl rfl rfl Nat.one_pos ((h5t.drewN _).alloc _) (Blk.new _ _ _) rfl ?_ ?_ ?_ ?_; (· intro u hu; simp at hu; subst hu; rfl); (· unfold maxLen; omega); (· omega); intro v1 wa g1 hown1 hgr1 hg1; have h6a := ((h6t.drewN _).alloc _).grown hgr1 (by simp; omega); have h4a := ((h4t.drewN _).alloc _).grown hgr1 (by simp; omega); have hbela := below_app hbelt hB hgr1 (by omega))
            | (at_builtin; refine wpList_app elF32 rfl rfl rfl rfl Nat.one_pos ((h6a.drewN _).alloc _) (Blk.new _ _ _) rfl ?_ ?_ ?_ ?_; (· intro u hu; simp at hu; subst hu; rfl); (· unfold maxLen; omega); (· omega); intro v2 wb g2 hown2 hgr2 hg2))
          go_roundw
          case rel =>
            first | rw [fls_snoc] at hown1 | rw [show ∀ b : Nat, (#[Value.float .f32 b] : Array Value).toList = [.float .f32 b] from fun _ => rfl, fls_snoc] at hown1
            first | rw [fls_snoc] at hown2 | rw [show ∀ b : Nat, (#[Value.float .f32 b] : Array Value).toList = [.float .f32 b] from fun _ => rfl, fls_snoc] at hown2
            have hB2 := hbela.size
            have hbelb := below_app hbela hB2 hgr2 (by omega)
            have l6a := h6a.lt
            have l1 := hown1.lt
            have l4a := h4a.lt
            simp at hg1 hg2
            have n1 := ((hown1.drewN _).alloc _).grown hgr2 (by simp; omega)
            have n4 := ((h4a.drewN _).alloc _).grown hgr2 (by simp; omega)
            refine ⟨k + 1, g1, g2, _, _, by omega, by go_num, n1, hown2, Lib.hid fun j hj => ?_, Lib.hid fun j hj => ?_, by omega, by omega, by omega, by omega, by omega, n4, hbelb⟩
            · by_cases hjk : j = k
              · subst hjk; simp only [upd, if_true, cn_fres, HF.out j hlt, HM.out]; rfl
              · simp only [upd, hjk, if_false]; exact ha.out j (by omega)
            · by_cases hjk : j = k
              · subst hjk; simp only [upd, if_true, cn_fres, HF.out j hlt, HM.out]; rfl
              · simp only [upd, hjk, if_false]; exact hb.out j (by omega)
          case measure => simp [intOf]; omega
        · obtain rfl : k = 12 := by omega
          go_wp2_with fail
          refine (l03Sum_any g5 _ 12 fa (by decide) _ h5).mono ?_
          rintro e w3 ⟨r3, rfl, hr3, q3', rfl⟩
          go_wp2_with fail
          refine (l03Sum_any g6 _ 12 fb (by decide) _ (h6.drewN _)).mono ?_
          rintro e w3 ⟨r4, rfl, hr4, q4', rfl⟩
          go_wp2_with fail
          refine (l06Wave_any _ _ _).mono ?_
          rintro e w3 ⟨rfl, rfl⟩
          go_wp2_with fail
          go_ret2
          refine ⟨_, _, _, rfl, HM.out, ?_, ?_, below_drewN hbel _⟩
          · rw [cn_fres, hr3, fsumTo_congr 12 (g := wfA f) (fun i hi => ha.out i hi)]; rfl
          · rw [cn_fres, hr4, fsumTo_congr 12 (g := wfB f) (fun i hi => hb.out i hi)]; rfl
end Go.Proofs.Ytililmlgladnaaa
