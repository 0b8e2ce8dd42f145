import Derived.Test.YtdnnjahdcabdmaaGreatDoorMD09
import Derived.IntWalk
/- What flows in a ground: the walks through the program's functions and the reference's. -/
namespace Go.Proofs.YtdnnjahdcabdmaaGreatDoor
open Go.ChangeShapes Go.WideShapes Go.ChangeAt Go.RowKit
set_option linter.unusedVariables false
set_option linter.unusedSimpArgs false
attribute [local irreducible] Calls

set_option maxRecDepth 100000 in
set_option maxHeartbeats 400000 in
theorem joint_any (a b : Nat) (w : World) :
    Calls Tryz.prog 41 #[.float .f32 a, .float .f32 b] w fun e w' => ∃ r, e = .returned (.float .f32 r) ∧ cn r = cn (joint a b) ∧ ∃ n, w' = w.drewN n := by
  have h1 := fgt_eq a 0
  have h2 := fgt_eq b 0
  cases ha : fgt a 0 <;> rw [ha] at h1
  · go_enter Tryz.func41, Tryz.ntmps41
    go_wp2_with fail
    go_ret
    exact ⟨_, rfl, by unfold joint; rw [ha]; rfl, 0, rfl⟩
  · cases hb : fgt b 0 <;> rw [hb] at h2
    · go_enter Tryz.func41, Tryz.ntmps41
      go_wp2_with fail
      go_ret
      exact ⟨_, rfl, by unfold joint; rw [ha, hb]; rfl, 0, rfl⟩
    · go_enter Tryz.func41, Tryz.ntmps41
      go_wp2_with fail
      go_ret
      exact ⟨_, rfl, by unfold joint; rw [ha, hb]; simp only [cn_res, fop_res_l, fop_res_r, cn_fop, Bool.and_self, if_true], _, rfl⟩
set_option maxRecDepth 100000 in
set_option maxHeartbeats 400000 in
theorem l01Joint_any (a b : Nat) (w : World) :
    Calls Tryz.prog 168 #[.float .f32 a, .float .f32 b] w fun e w' => ∃ r, e = .returned (.float .f32 r) ∧ cn r = cn (joint a b) ∧ ∃ n, w' = w.drewN n := by
  have h1 := fgt_eq a 0
  have h2 := fgt_eq b 0
  cases ha : fgt a 0 <;> rw [ha] at h1
  · go_enter Tryz.func168, Tryz.ntmps168
    go_wp2_with fail
    go_ret
    exact ⟨_, rfl, by unfold joint; rw [ha]; rfl, 0, rfl⟩
  · cases hb : fgt b 0 <;> rw [hb] at h2
    · go_enter Tryz.func168, Tryz.ntmps168
      go_wp2_with fail
      go_ret
      exact ⟨_, rfl, by unfold joint; rw [ha, hb]; rfl, 0, rfl⟩
    · go_enter Tryz.func168, Tryz.ntmps168
      go_wp2_with fail
      go_ret
      exact ⟨_, rfl, by unfold joint; rw [ha, hb]; simp only [cn_res, fop_res_l, fop_res_r, cn_fop, Bool.and_self, if_true], _, rfl⟩

set_option maxRecDepth 100000 in
set_option maxHeartbeats 400000 in
theorem finite_any (a : Nat) (w : World) :
    Calls Tryz.prog 136 #[.float .f32 a] w fun e w' => e = .returned (.bool (fin a)) ∧ ∃ n, w' = w.drewN n := by
  go_enter Tryz.func136, Tryz.ntmps136
  go_wp2_with fail
  go_ret
  exact ⟨bool_eq (by rw [feq_eq]; unfold fin; exact feq_al2 (by rw [cn_res, cn_fop]) rfl), _, rfl⟩
set_option maxRecDepth 100000 in
set_option maxHeartbeats 400000 in
theorem l01Finite_any (a : Nat) (w : World) :
    Calls Tryz.prog 100 #[.float .f32 a] w fun e w' => e = .returned (.bool (fin a)) ∧ ∃ n, w' = w.drewN n := by
  go_enter Tryz.func100, Tryz.ntmps100
  go_wp2_with fail
  go_ret
  exact ⟨bool_eq (by rw [feq_eq]; unfold fin; exact feq_al2 (by rw [cn_res, cn_fop]) rfl), _, rfl⟩

theorem u64_and1 {x : Int} (h0 : 0 ≤ x) (h1 : x < 18446744073709551616) : bits .and .u64 x 1 = x % 2 :=
  bits_mask .u64 64 (by decide) (fun n a b => by rw [IntKind.wrap_u64]; omega) 1 (by decide) x h0 h1
theorem fix_div {g : Gr} (hg : g.ok) (k : Nat) : 0 ≤ g.fix / 2 ^ k ∧ g.fix / 2 ^ k < 18446744073709551616 := by
  obtain ⟨_, _, h1, h2⟩ := hg
  exact ⟨Int.ediv_nonneg h1 (Int.le_of_lt (Int.pow_pos (by decide))), Int.lt_of_le_of_lt (Int.ediv_le_self _ h1) h2⟩
set_option maxRecDepth 100000 in
set_option maxHeartbeats 400000 in
theorem fixed_any (g : Gr) (b : Nat) (k : Nat) (hg : g.ok) (hk : k < 64) (w : World) (hb : GAt w b g) :
    Calls Tryz.prog 76 #[.pointer (some ⟨b, 0, none⟩), .int .i64 k] w fun e w' => e = .returned (.bool (isFx g k)) ∧ w' = w := by
  have c5 : w.cell? ⟨b, 194, none⟩ = some (.int .u64 g.fix) := hb.getF
  have bk : (0 : Int) ≤ k := by omega
  have bl : (k : Int) < 64 := by omega
  go_enter Tryz.func76, Tryz.ntmps76
  go_wp2_with fail
  go_ret
  exact ⟨bool_eq (by rw [u64_and1 (fix_div hg k).1 (fix_div hg k).2]; unfold isFx; rfl), rfl⟩
set_option maxRecDepth 100000 in
set_option maxHeartbeats 400000 in
theorem l01Fixed_any (g : Gr) (b : Nat) (k : Nat) (hg : g.ok) (hk : k < 64) (w : World) (hb : GAt w b g) :
    Calls Tryz.prog 192 #[.pointer (some ⟨b, 0, none⟩), .int .i64 k] w fun e w' => e = .returned (.bool (isFx g k)) ∧ w' = w := by
  have c5 : w.cell? ⟨b, 194, none⟩ = some (.int .u64 g.fix) := hb.getF
  have bk : (0 : Int) ≤ k := by omega
  have bl : (k : Int) < 64 := by omega
  go_enter Tryz.func192, Tryz.ntmps192
  go_wp2_with fail
  go_ret
  exact ⟨bool_eq (by rw [Int.tmod_eq_emod_of_nonneg (fix_div hg k).1]; unfold isFx; rfl), rfl⟩

theorem bes_nx {g : Gr} {c s : Nat} (h : nbr g c s = true) : bes g c s = (nx g c s : Int) := by
  unfold nbr at h; unfold nx; simp at h; omega
set_option maxRecDepth 100000 in
set_option maxHeartbeats 400000 in
theorem flow_any (g : Gr) (b : Nat) (c s : Nat) (hg : g.ok) (hsm : g.small) (hc : c < 64) (hs : s < 4) (hn : nbr g c s = true) (w : World) (hb : GAt w b g) :
    Calls Tryz.prog 97 #[.pointer (some ⟨b, 0, none⟩), .int .i64 c, .int .i64 s] w fun e w' => ∃ r, e = .returned (.float .f32 r) ∧ cn r = cn (flw g c s) ∧ ∃ n, w' = w.drewN n := by
  have hbs := beside_any g b c s hg hc hs w hb
  have hlt := nx_lt hsm c s
  have HX : Hid (flw g c s = fop .mul (joint (g.con c) (g.con (nx g c s))) (fop .sub (g.hea c) (g.hea (nx g c s)))) := Lib.hid rfl
  rw [bes_nx hn] at hbs
  clear hn
  generalize nx g c s = d at *
  have bk : (0 : Int) ≤ c := by omega
  have bl : (c : Int) < 64 := by omega
  have dk : (0 : Int) ≤ d := by omega
  have dl : (d : Int) < 64 := by omega
  have m1 : w.cell? ⟨b, 2 + c, none⟩ = some (.float .f32 (g.con c)) := hb.getC c hc
  have m2 : w.cell? ⟨b, 2 + d, none⟩ = some (.float .f32 (g.con d)) := hb.getC d hlt
  have m3 : w.cell? ⟨b, 130 + c, none⟩ = some (.float .f32 (g.hea c)) := hb.getH c hc
  have m4 : w.cell? ⟨b, 130 + d, none⟩ = some (.float .f32 (g.hea d)) := hb.getH d hlt
  go_enter Tryz.func97, Tryz.ntmps97
  go_wp2_with (go_at_call 95; refine hbs.mono ?_; rintro e w' ⟨rfl, hw⟩; rw [hw]; clear hw w')
  refine wp_loose (C := fun w' => ∃ n, w' = w.drewN n) (R := fun _ _ => True) (F := fun _ dd vv => match dd, vv with
    | 14, vv => vv = .pointer (some ⟨b, 0, none⟩)
    | 15, vv => vv = .int .i64 c
    | 16, vv => vv = .pointer (some ⟨b, 0, none⟩)
    | 17, vv => vv = .pointer (some ⟨b, 2, none⟩)
    | 18, vv => vv = .pointer (some ⟨b, 2 + c, none⟩)
    | 19, vv => vv = .float .f32 (g.con c)
    | 20, vv => vv = .pointer (some ⟨b, 0, none⟩)
    | 21, vv => vv = .int .i64 d
    | 22, vv => vv = .pointer (some ⟨b, 0, none⟩)
    | 23, vv => vv = .pointer (some ⟨b, 2, none⟩)
    | 24, vv => vv = .pointer (some ⟨b, 2 + d, none⟩)
    | 25, vv => vv = .float .f32 (g.con d)
    | 26, vv => ∃ fb, vv = .float .f32 fb ∧ cn fb = cn (joint (g.con c) (g.con d))
    | 27, vv => vv = .pointer (some ⟨b, 0, none⟩)
    | 28, vv => vv = .int .i64 c
    | 29, vv => vv = .pointer (some ⟨b, 0, none⟩)
    | 30, vv => vv = .pointer (some ⟨b, 130, none⟩)
    | 31, vv => vv = .pointer (some ⟨b, 130 + c, none⟩)
    | 32, vv => vv = .float .f32 (g.hea c)
    | 33, vv => vv = .pointer (some ⟨b, 0, none⟩)
    | 34, vv => vv = .int .i64 d
    | 35, vv => vv = .pointer (some ⟨b, 0, none⟩)
    | 36, vv => vv = .pointer (some ⟨b, 130, none⟩)
    | 37, vv => vv = .pointer (some ⟨b, 130 + d, none⟩)
    | 38, vv => vv = .float .f32 (g.hea d)
    | 39, vv => ∃ fb, vv = .float .f32 fb ∧ cn fb = cn (fop .sub (g.hea c) (g.hea d))
    | 40, vv => ∃ fb, vv = .float .f32 fb ∧ cn fb = cn (fop .mul (joint (g.con c) (g.con d)) (fop .sub (g.hea c) (g.hea d)))
    | 6, vv => ∃ fb, vv = .float .f32 fb ∧ cn fb = cn (fop .mul (joint (g.con c) (g.con d)) (fop .sub (g.hea c) (g.hea d)))
    | _, _ => True) (fun _ _ _ _ _ h => h) (by kernel_rfl) (by kernel_rfl) (by kernel_rfl) ⟨1, rfl⟩ ?_ ?_
  · refine steps_cons (step_go rfl fun ev w1 hC k => ?_) ?_
    · have e1 : ev (.tmp 0) = .pointer (some ⟨b, 0, none⟩) := k.out 0 rfl rfl rfl
      exact good_of (v := .pointer (some ⟨b, 0, none⟩)) rfl (by simp [execOp, e1, k.con, go_sem]) hC trivial rfl
    refine steps_cons (step_go rfl fun ev w1 hC k => ?_) ?_
    · have e1 : ev (.tmp 1) = .int .i64 c := k.out 1 rfl rfl rfl
      exact good_of (v := .int .i64 c) rfl (by simp [execOp, e1, k.con, go_sem]) hC trivial rfl
    refine steps_cons (step_go rfl fun ev w1 hC k => ?_) ?_
    · have e1 : ev (.tmp 14) = .pointer (some ⟨b, 0, none⟩) := k.inn 14 rfl rfl
      exact good_of (v := .pointer (some ⟨b, 0, none⟩)) rfl (by simp [execOp, e1, k.con, go_sem]) hC trivial rfl
    refine steps_cons (step_go rfl fun ev w1 hC k => ?_) ?_
    · have e1 : ev (.tmp 16) = .pointer (some ⟨b, 0, none⟩) := k.inn 16 rfl rfl
      exact good_of (v := .pointer (some ⟨b, 2, none⟩)) rfl (by simp only [execOp, e1]; rfl) hC trivial rfl
    refine steps_cons (step_go rfl fun ev w1 hC k => ?_) ?_
    · have e1 : ev (.tmp 17) = .pointer (some ⟨b, 2, none⟩) := k.inn 17 rfl rfl
      have e2 : ev (.tmp 15) = .int .i64 c := k.inn 15 rfl rfl
      exact good_of (v := .pointer (some ⟨b, 2 + c, none⟩)) rfl (by simp [execOp, e1, e2, k.con, go_sem, bl, dl]) hC trivial rfl
    refine steps_cons (step_go rfl fun ev w1 hC k => ?_) ?_
    · have e1 : ev (.tmp 18) = .pointer (some ⟨b, 2 + c, none⟩) := k.inn 18 rfl rfl
      obtain ⟨n, rfl⟩ := hC
      exact good_of (v := .float .f32 (g.con c)) rfl (by simp [execOp, e1, go_sem, m1]) ⟨n, rfl⟩ trivial rfl
    refine steps_cons (step_go rfl fun ev w1 hC k => ?_) ?_
    · have e1 : ev (.tmp 0) = .pointer (some ⟨b, 0, none⟩) := k.out 0 rfl rfl rfl
      exact good_of (v := .pointer (some ⟨b, 0, none⟩)) rfl (by simp [execOp, e1, k.con, go_sem]) hC trivial rfl
    refine steps_cons (step_go rfl fun ev w1 hC k => ?_) ?_
    · have e1 : ev (.tmp 7) = .int .i64 d := k.out 7 rfl rfl rfl
      exact good_of (v := .int .i64 d) rfl (by simp [execOp, e1, k.con, go_sem]) hC trivial rfl
    refine steps_cons (step_go rfl fun ev w1 hC k => ?_) ?_
    · have e1 : ev (.tmp 20) = .pointer (some ⟨b, 0, none⟩) := k.inn 20 rfl rfl
      exact good_of (v := .pointer (some ⟨b, 0, none⟩)) rfl (by simp [execOp, e1, k.con, go_sem]) hC trivial rfl
    refine steps_cons (step_go rfl fun ev w1 hC k => ?_) ?_
    · have e1 : ev (.tmp 22) = .pointer (some ⟨b, 0, none⟩) := k.inn 22 rfl rfl
      exact good_of (v := .pointer (some ⟨b, 2, none⟩)) rfl (by simp only [execOp, e1]; rfl) hC trivial rfl
    refine steps_cons (step_go rfl fun ev w1 hC k => ?_) ?_
    · have e1 : ev (.tmp 23) = .pointer (some ⟨b, 2, none⟩) := k.inn 23 rfl rfl
      have e2 : ev (.tmp 21) = .int .i64 d := k.inn 21 rfl rfl
      exact good_of (v := .pointer (some ⟨b, 2 + d, none⟩)) rfl (by simp [execOp, e1, e2, k.con, go_sem, bl, dl]) hC trivial rfl
    refine steps_cons (step_go rfl fun ev w1 hC k => ?_) ?_
    · have e1 : ev (.tmp 24) = .pointer (some ⟨b, 2 + d, none⟩) := k.inn 24 rfl rfl
      obtain ⟨n, rfl⟩ := hC
      exact good_of (v := .float .f32 (g.con d)) rfl (by simp [execOp, e1, go_sem, m2]) ⟨n, rfl⟩ trivial rfl
    refine steps_cons (step_go rfl fun ev w1 hC k => ?_) ?_
    · have e1 : ev (.tmp 19) = .float .f32 (g.con c) := k.inn 19 rfl rfl
      have e2 : ev (.tmp 25) = .float .f32 (g.con d) := k.inn 25 rfl rfl
      refine good_call (f := 41) (args := #[.float .f32 (g.con c), .float .f32 (g.con d)]) rfl (by simp [execOp, e1, e2, k.fn, k.con, go_sem]) ((joint_any _ _ w1).mono fun e w2 ⟨r, he, hr, q, hw⟩ => ⟨_, he, by rw [hw]; obtain ⟨n, rfl⟩ := hC; exact ⟨n + q, by simp⟩, trivial, r, rfl, hr⟩)
    refine steps_cons (step_go rfl fun ev w1 hC k => ?_) ?_
    · have e1 : ev (.tmp 0) = .pointer (some ⟨b, 0, none⟩) := k.out 0 rfl rfl rfl
      exact good_of (v := .pointer (some ⟨b, 0, none⟩)) rfl (by simp [execOp, e1, k.con, go_sem]) hC trivial rfl
    refine steps_cons (step_go rfl fun ev w1 hC k => ?_) ?_
    · have e1 : ev (.tmp 1) = .int .i64 c := k.out 1 rfl rfl rfl
      exact good_of (v := .int .i64 c) rfl (by simp [execOp, e1, k.con, go_sem]) hC trivial rfl
    refine steps_cons (step_go rfl fun ev w1 hC k => ?_) ?_
    · have e1 : ev (.tmp 27) = .pointer (some ⟨b, 0, none⟩) := k.inn 27 rfl rfl
      exact good_of (v := .pointer (some ⟨b, 0, none⟩)) rfl (by simp [execOp, e1, k.con, go_sem]) hC trivial rfl
    refine steps_cons (step_go rfl fun ev w1 hC k => ?_) ?_
    · have e1 : ev (.tmp 29) = .pointer (some ⟨b, 0, none⟩) := k.inn 29 rfl rfl
      exact good_of (v := .pointer (some ⟨b, 130, none⟩)) rfl (by simp only [execOp, e1]; rfl) hC trivial rfl
    refine steps_cons (step_go rfl fun ev w1 hC k => ?_) ?_
    · have e1 : ev (.tmp 30) = .pointer (some ⟨b, 130, none⟩) := k.inn 30 rfl rfl
      have e2 : ev (.tmp 28) = .int .i64 c := k.inn 28 rfl rfl
      exact good_of (v := .pointer (some ⟨b, 130 + c, none⟩)) rfl (by simp [execOp, e1, e2, k.con, go_sem, bl, dl]) hC trivial rfl
    refine steps_cons (step_go rfl fun ev w1 hC k => ?_) ?_
    · have e1 : ev (.tmp 31) = .pointer (some ⟨b, 130 + c, none⟩) := k.inn 31 rfl rfl
      obtain ⟨n, rfl⟩ := hC
      exact good_of (v := .float .f32 (g.hea c)) rfl (by simp [execOp, e1, go_sem, m3]) ⟨n, rfl⟩ trivial rfl
    refine steps_cons (step_go rfl fun ev w1 hC k => ?_) ?_
    · have e1 : ev (.tmp 0) = .pointer (some ⟨b, 0, none⟩) := k.out 0 rfl rfl rfl
      exact good_of (v := .pointer (some ⟨b, 0, none⟩)) rfl (by simp [execOp, e1, k.con, go_sem]) hC trivial rfl
    refine steps_cons (step_go rfl fun ev w1 hC k => ?_) ?_
    · have e1 : ev (.tmp 7) = .int .i64 d := k.out 7 rfl rfl rfl
      exact good_of (v := .int .i64 d) rfl (by simp [execOp, e1, k.con, go_sem]) hC trivial rfl
    refine steps_cons (step_go rfl fun ev w1 hC k => ?_) ?_
    · have e1 : ev (.tmp 33) = .pointer (some ⟨b, 0, none⟩) := k.inn 33 rfl rfl
      exact good_of (v := .pointer (some ⟨b, 0, none⟩)) rfl (by simp [execOp, e1, k.con, go_sem]) hC trivial rfl
    refine steps_cons (step_go rfl fun ev w1 hC k => ?_) ?_
    · have e1 : ev (.tmp 35) = .pointer (some ⟨b, 0, none⟩) := k.inn 35 rfl rfl
      exact good_of (v := .pointer (some ⟨b, 130, none⟩)) rfl (by simp only [execOp, e1]; rfl) hC trivial rfl
    refine steps_cons (step_go rfl fun ev w1 hC k => ?_) ?_
    · have e1 : ev (.tmp 36) = .pointer (some ⟨b, 130, none⟩) := k.inn 36 rfl rfl
      have e2 : ev (.tmp 34) = .int .i64 d := k.inn 34 rfl rfl
      exact good_of (v := .pointer (some ⟨b, 130 + d, none⟩)) rfl (by simp [execOp, e1, e2, k.con, go_sem, bl, dl]) hC trivial rfl
    refine steps_cons (step_go rfl fun ev w1 hC k => ?_) ?_
    · have e1 : ev (.tmp 37) = .pointer (some ⟨b, 130 + d, none⟩) := k.inn 37 rfl rfl
      obtain ⟨n, rfl⟩ := hC
      exact good_of (v := .float .f32 (g.hea d)) rfl (by simp [execOp, e1, go_sem, m4]) ⟨n, rfl⟩ trivial rfl
    refine steps_cons (step_go rfl fun ev w1 hC k => ?_) ?_
    · have e1 : ev (.tmp 32) = .float .f32 (g.hea c) := k.inn 32 rfl rfl
      have e2 : ev (.tmp 38) = .float .f32 (g.hea d) := k.inn 38 rfl rfl
      obtain ⟨n, rfl⟩ := hC
      exact good_of (v := .float .f32 (fres .sub (g.hea c) (g.hea d) (w.drewN n))) (w' := w.drewN (n + fcnt .sub (g.hea c) (g.hea d))) rfl (by simp [execOp, e1, e2, k.con, run_fsub, go_sem]) ⟨_, rfl⟩ trivial ⟨_, rfl, by rw [cn_res, fop_eq rfl rfl, cn_fop]⟩
    refine steps_cons (step_go rfl fun ev w1 hC k => ?_) ?_
    · obtain ⟨b1, e1, h1⟩ : ∃ fb, ev (.tmp 26) = .float .f32 fb ∧ cn fb = cn (joint (g.con c) (g.con d)) := k.inn 26 rfl rfl
      obtain ⟨b2, e2, h2⟩ : ∃ fb, ev (.tmp 39) = .float .f32 fb ∧ cn fb = cn (fop .sub (g.hea c) (g.hea d)) := k.inn 39 rfl rfl
      obtain ⟨n, rfl⟩ := hC
      exact good_of (v := .float .f32 (fres .mul b1 b2 (w.drewN n))) (w' := w.drewN (n + fcnt .mul b1 b2)) rfl (by simp [execOp, e1, e2, k.con, run_fmul, go_sem]) ⟨_, rfl⟩ trivial ⟨_, rfl, by rw [cn_res, fop_eq h1 h2, cn_fop]⟩
    refine steps_cons (step_go rfl fun ev w1 hC k => ?_) ?_
    · obtain ⟨b1, e1, h1⟩ : ∃ fb, ev (.tmp 40) = .float .f32 fb ∧ cn fb = cn (fop .mul (joint (g.con c) (g.con d)) (fop .sub (g.hea c) (g.hea d))) := k.inn 40 rfl rfl
      exact good_of (v := .float .f32 b1) rfl (by simp [execOp, e1, k.con, go_sem]) hC trivial ⟨_, rfl, h1⟩
    exact steps_nil
  rintro x w1 hx hC
  obtain ⟨b6, y6, g6⟩ : ∃ fb, x 6 = .float .f32 fb ∧ cn fb = cn (fop .mul (joint (g.con c) (g.con d)) (fop .sub (g.hea c) (g.hea d))) := hx 6 (by decide)
  obtain ⟨n, rfl⟩ := hC
  simp only [fill, dstsOf, List.filterMap_cons, List.filterMap_nil, List.foldl_cons, List.foldl_nil, List.set_cons_succ, List.set_cons_zero, y6]
  clear hx y6
  go_wp2_with fail
  go_ret
  exact ⟨_, rfl, by rw [g6, HX.out], _, rfl⟩

set_option maxRecDepth 100000 in
set_option maxHeartbeats 400000 in
theorem between_yes (g : Gr) (b : Nat) (c s : Nat) (hg : g.ok) (hsm : g.small) (hc : c < 64) (hs : s < 4) (hn : nbr g c s = true) (w : World) (hb : GAt w b g) :
    Calls Tryz.prog 138 #[.pointer (some ⟨b, 0, none⟩), .int .i64 c, .int .i64 s] w fun e w' => ∃ r, e = .returned (.tuple #[.float .f32 r, .int .i64 (nx g c s)]) ∧ cn r = cn (joint (g.con c) (g.con (nx g c s))) ∧ ∃ n, w' = w.drewN n := by
  have hbs := l01Beside_any g b c s hg hc hs w hb
  have hlt := nx_lt hsm c s
  rw [bes_nx hn] at hbs
  clear hn
  generalize nx g c s = d at *
  have bk : (0 : Int) ≤ c := by omega
  have bl : (c : Int) < 64 := by omega
  have dk : (0 : Int) ≤ d := by omega
  have dl : (d : Int) < 64 := by omega
  have m1 : w.cell? ⟨b, 2 + c, none⟩ = some (.float .f32 (g.con c)) := hb.getC c hc
  have m2 : w.cell? ⟨b, 2 + d, none⟩ = some (.float .f32 (g.con d)) := hb.getC d hlt
  go_enter Tryz.func138, Tryz.ntmps138
  go_wp2_with (go_at_call 167; refine hbs.mono ?_; rintro e w' ⟨rfl, hw⟩; rw [hw]; clear hw w')
  refine wp_loose (C := fun w' => ∃ n, w' = w.drewN n) (R := fun _ _ => True) (F := fun _ dd vv => match dd, vv with
    | 15, vv => vv = .pointer (some ⟨b, 0, none⟩)
    | 16, vv => vv = .int .i64 c
    | 17, vv => vv = .pointer (some ⟨b, 0, none⟩)
    | 18, vv => vv = .pointer (some ⟨b, 2, none⟩)
    | 19, vv => vv = .pointer (some ⟨b, 2 + c, none⟩)
    | 20, vv => vv = .float .f32 (g.con c)
    | 21, vv => vv = .pointer (some ⟨b, 0, none⟩)
    | 22, vv => vv = .int .i64 d
    | 23, vv => vv = .pointer (some ⟨b, 0, none⟩)
    | 24, vv => vv = .pointer (some ⟨b, 2, none⟩)
    | 25, vv => vv = .pointer (some ⟨b, 2 + d, none⟩)
    | 26, vv => vv = .float .f32 (g.con d)
    | 27, vv => ∃ fb, vv = .float .f32 fb ∧ cn fb = cn (joint (g.con c) (g.con d))
    | 28, vv => vv = .int .i64 d
    | 6, vv => ∃ fb, vv = .float .f32 fb ∧ cn fb = cn (joint (g.con c) (g.con d))
    | 7, vv => vv = .int .i64 d
    | _, _ => True) (fun _ _ _ _ _ h => h) (by kernel_rfl) (by kernel_rfl) (by kernel_rfl) ⟨1, rfl⟩ ?_ ?_
  · refine steps_cons (step_go rfl fun ev w1 hC k => ?_) ?_
    · have e1 : ev (.tmp 0) = .pointer (some ⟨b, 0, none⟩) := k.out 0 rfl rfl rfl
      exact good_of (v := .pointer (some ⟨b, 0, none⟩)) rfl (by simp [execOp, e1, k.con, go_sem]) hC trivial rfl
    refine steps_cons (step_go rfl fun ev w1 hC k => ?_) ?_
    · have e1 : ev (.tmp 1) = .int .i64 c := k.out 1 rfl rfl rfl
      exact good_of (v := .int .i64 c) rfl (by simp [execOp, e1, k.con, go_sem]) hC trivial rfl
    refine steps_cons (step_go rfl fun ev w1 hC k => ?_) ?_
    · have e1 : ev (.tmp 15) = .pointer (some ⟨b, 0, none⟩) := k.inn 15 rfl rfl
      exact good_of (v := .pointer (some ⟨b, 0, none⟩)) rfl (by simp [execOp, e1, k.con, go_sem]) hC trivial rfl
    refine steps_cons (step_go rfl fun ev w1 hC k => ?_) ?_
    · have e1 : ev (.tmp 17) = .pointer (some ⟨b, 0, none⟩) := k.inn 17 rfl rfl
      exact good_of (v := .pointer (some ⟨b, 2, none⟩)) rfl (by simp only [execOp, e1]; rfl) hC trivial rfl
    refine steps_cons (step_go rfl fun ev w1 hC k => ?_) ?_
    · have e1 : ev (.tmp 18) = .pointer (some ⟨b, 2, none⟩) := k.inn 18 rfl rfl
      have e2 : ev (.tmp 16) = .int .i64 c := k.inn 16 rfl rfl
      exact good_of (v := .pointer (some ⟨b, 2 + c, none⟩)) rfl (by simp [execOp, e1, e2, k.con, go_sem, bl, dl]) hC trivial rfl
    refine steps_cons (step_go rfl fun ev w1 hC k => ?_) ?_
    · have e1 : ev (.tmp 19) = .pointer (some ⟨b, 2 + c, none⟩) := k.inn 19 rfl rfl
      obtain ⟨n, rfl⟩ := hC
      exact good_of (v := .float .f32 (g.con c)) rfl (by simp [execOp, e1, go_sem, m1]) ⟨n, rfl⟩ trivial rfl
    refine steps_cons (step_go rfl fun ev w1 hC k => ?_) ?_
    · have e1 : ev (.tmp 0) = .pointer (some ⟨b, 0, none⟩) := k.out 0 rfl rfl rfl
      exact good_of (v := .pointer (some ⟨b, 0, none⟩)) rfl (by simp [execOp, e1, k.con, go_sem]) hC trivial rfl
    refine steps_cons (step_go rfl fun ev w1 hC k => ?_) ?_
    · have e1 : ev (.tmp 8) = .int .i64 d := k.out 8 rfl rfl rfl
      exact good_of (v := .int .i64 d) rfl (by simp [execOp, e1, k.con, go_sem]) hC trivial rfl
    refine steps_cons (step_go rfl fun ev w1 hC k => ?_) ?_
    · have e1 : ev (.tmp 21) = .pointer (some ⟨b, 0, none⟩) := k.inn 21 rfl rfl
      exact good_of (v := .pointer (some ⟨b, 0, none⟩)) rfl (by simp [execOp, e1, k.con, go_sem]) hC trivial rfl
    refine steps_cons (step_go rfl fun ev w1 hC k => ?_) ?_
    · have e1 : ev (.tmp 23) = .pointer (some ⟨b, 0, none⟩) := k.inn 23 rfl rfl
      exact good_of (v := .pointer (some ⟨b, 2, none⟩)) rfl (by simp only [execOp, e1]; rfl) hC trivial rfl
    refine steps_cons (step_go rfl fun ev w1 hC k => ?_) ?_
    · have e1 : ev (.tmp 24) = .pointer (some ⟨b, 2, none⟩) := k.inn 24 rfl rfl
      have e2 : ev (.tmp 22) = .int .i64 d := k.inn 22 rfl rfl
      exact good_of (v := .pointer (some ⟨b, 2 + d, none⟩)) rfl (by simp [execOp, e1, e2, k.con, go_sem, bl, dl]) hC trivial rfl
    refine steps_cons (step_go rfl fun ev w1 hC k => ?_) ?_
    · have e1 : ev (.tmp 25) = .pointer (some ⟨b, 2 + d, none⟩) := k.inn 25 rfl rfl
      obtain ⟨n, rfl⟩ := hC
      exact good_of (v := .float .f32 (g.con d)) rfl (by simp [execOp, e1, go_sem, m2]) ⟨n, rfl⟩ trivial rfl
    refine steps_cons (step_go rfl fun ev w1 hC k => ?_) ?_
    · have e1 : ev (.tmp 20) = .float .f32 (g.con c) := k.inn 20 rfl rfl
      have e2 : ev (.tmp 26) = .float .f32 (g.con d) := k.inn 26 rfl rfl
      refine good_call (f := 168) (args := #[.float .f32 (g.con c), .float .f32 (g.con d)]) rfl (by simp [execOp, e1, e2, k.fn, k.con, go_sem]) ((l01Joint_any _ _ w1).mono fun e w2 ⟨r, he, hr, q, hw⟩ => ⟨_, he, by rw [hw]; obtain ⟨n, rfl⟩ := hC; exact ⟨n + q, by simp⟩, trivial, r, rfl, hr⟩)
    refine steps_cons (step_go rfl fun ev w1 hC k => ?_) ?_
    · have e1 : ev (.tmp 8) = .int .i64 d := k.out 8 rfl rfl rfl
      exact good_of (v := .int .i64 d) rfl (by simp [execOp, e1, k.con, go_sem]) hC trivial rfl
    refine steps_cons (step_go rfl fun ev w1 hC k => ?_) ?_
    · obtain ⟨b1, e1, h1⟩ : ∃ fb, ev (.tmp 27) = .float .f32 fb ∧ cn fb = cn (joint (g.con c) (g.con d)) := k.inn 27 rfl rfl
      exact good_of (v := .float .f32 b1) rfl (by simp [execOp, e1, k.con, go_sem]) hC trivial ⟨_, rfl, h1⟩
    refine steps_cons (step_go rfl fun ev w1 hC k => ?_) ?_
    · have e1 : ev (.tmp 28) = .int .i64 d := k.inn 28 rfl rfl
      exact good_of (v := .int .i64 d) rfl (by simp [execOp, e1, k.con, go_sem]) hC trivial rfl
    exact steps_nil
  rintro x w1 hx hC
  obtain ⟨b6, y6, g6⟩ : ∃ fb, x 6 = .float .f32 fb ∧ cn fb = cn (joint (g.con c) (g.con d)) := hx 6 (by decide)
  have y7 : x 7 = .int .i64 d := hx 7 (by decide)
  obtain ⟨n, rfl⟩ := hC
  simp only [fill, dstsOf, List.filterMap_cons, List.filterMap_nil, List.foldl_cons, List.foldl_nil, List.set_cons_succ, List.set_cons_zero, y6, y7]
  clear hx y6 y7
  go_wp2_with fail
  go_ret2
  exact ⟨_, rfl, g6, _, rfl⟩
set_option maxRecDepth 100000 in
set_option maxHeartbeats 400000 in
theorem between_no (g : Gr) (b : Nat) (c s : Nat) (hg : g.ok) (hsm : g.small) (hc : c < 64) (hs : s < 4) (hn : nbr g c s = false) (w : World) (hb : GAt w b g) :
    Calls Tryz.prog 138 #[.pointer (some ⟨b, 0, none⟩), .int .i64 c, .int .i64 s] w fun e w' => e = .returned (.tuple #[.float .f32 0, .int .i64 (-1)]) ∧ w' = w := by
  have hbs := l01Beside_any g b c s hg hc hs w hb
  have e0 : bes g c s = -1 := by
    have := bes_lt hsm c s; unfold nbr at hn; simp at hn; omega
  rw [e0] at hbs
  clear hn e0
  go_enter Tryz.func138, Tryz.ntmps138
  go_wp2_with (go_at_call 167; refine hbs.mono ?_; rintro e w' ⟨rfl, hw⟩; rw [hw]; clear hw w')
  go_ret2
  exact ⟨rfl, rfl⟩
set_option maxRecDepth 100000 in
set_option maxHeartbeats 400000 in
theorem l01Flow_any (g : Gr) (b : Nat) (c s : Nat) (hg : g.ok) (hsm : g.small) (hc : c < 64) (hs : s < 4) (hn : nbr g c s = true) (w : World) (hb : GAt w b g) :
    Calls Tryz.prog 99 #[.pointer (some ⟨b, 0, none⟩), .int .i64 c, .int .i64 s] w fun e w' => ∃ r, e = .returned (.float .f32 r) ∧ cn r = cn (flw g c s) ∧ ∃ n, w' = w.drewN n := by
  have hbs := between_yes g b c s hg hsm hc hs hn w hb
  have hlt := nx_lt hsm c s
  have HX : Hid (flw g c s = fop .mul (joint (g.con c) (g.con (nx g c s))) (fop .sub (g.hea c) (g.hea (nx g c s)))) := Lib.hid rfl
  clear hn
  generalize nx g c s = d at *
  have bk : (0 : Int) ≤ c := by omega
  have bl : (c : Int) < 64 := by omega
  have dk : (0 : Int) ≤ d := by omega
  have dl : (d : Int) < 64 := by omega
  go_enter Tryz.func99, Tryz.ntmps99
  go_wp2_with (go_at_call 138; refine hbs.mono ?_; rintro e w' ⟨r, rfl, hr, q, hw⟩; rw [hw]; clear hw w')
  have hb2 := hb.drewN q
  obtain ⟨W, hW⟩ : ∃ W, W = w.drewN q := ⟨_, rfl⟩
  rw [← hW] at hb2 ⊢
  have HW := Lib.hid hW
  clear hW
  have m3 : W.cell? ⟨b, 130 + c, none⟩ = some (.float .f32 (g.hea c)) := hb2.getH c hc
  have m4 : W.cell? ⟨b, 130 + d, none⟩ = some (.float .f32 (g.hea d)) := hb2.getH d hlt
  refine wp_loose (C := fun w' => ∃ n, w' = W.drewN n) (R := fun _ _ => True) (F := fun _ dd vv => match dd, vv with
    | 18, vv => vv = .float .f32 r
    | 19, vv => vv = .pointer (some ⟨b, 0, none⟩)
    | 20, vv => vv = .int .i64 c
    | 21, vv => vv = .pointer (some ⟨b, 0, none⟩)
    | 22, vv => vv = .pointer (some ⟨b, 130, none⟩)
    | 23, vv => vv = .pointer (some ⟨b, 130 + c, none⟩)
    | 24, vv => vv = .float .f32 (g.hea c)
    | 25, vv => vv = .pointer (some ⟨b, 0, none⟩)
    | 26, vv => vv = .int .i64 d
    | 27, vv => vv = .pointer (some ⟨b, 0, none⟩)
    | 28, vv => vv = .pointer (some ⟨b, 130, none⟩)
    | 29, vv => vv = .pointer (some ⟨b, 130 + d, none⟩)
    | 30, vv => vv = .float .f32 (g.hea d)
    | 31, vv => ∃ fb, vv = .float .f32 fb ∧ cn fb = cn (fop .sub (g.hea c) (g.hea d))
    | 32, vv => ∃ fb, vv = .float .f32 fb ∧ cn fb = cn (fop .mul r (fop .sub (g.hea c) (g.hea d)))
    | 6, vv => ∃ fb, vv = .float .f32 fb ∧ cn fb = cn (fop .mul r (fop .sub (g.hea c) (g.hea d)))
    | _, _ => True) (fun _ _ _ _ _ h => h) (by kernel_rfl) (by kernel_rfl) (by kernel_rfl) ⟨1, rfl⟩ ?_ ?_
  · refine steps_cons (step_go rfl fun ev w1 hC k => ?_) ?_
    · have e1 : ev (.tmp 7) = .float .f32 r := k.out 7 rfl rfl rfl
      exact good_of (v := .float .f32 r) rfl (by simp [execOp, e1, k.con, go_sem]) hC trivial rfl
    refine steps_cons (step_go rfl fun ev w1 hC k => ?_) ?_
    · have e1 : ev (.tmp 0) = .pointer (some ⟨b, 0, none⟩) := k.out 0 rfl rfl rfl
      exact good_of (v := .pointer (some ⟨b, 0, none⟩)) rfl (by simp [execOp, e1, k.con, go_sem]) hC trivial rfl
    refine steps_cons (step_go rfl fun ev w1 hC k => ?_) ?_
    · have e1 : ev (.tmp 1) = .int .i64 c := k.out 1 rfl rfl rfl
      exact good_of (v := .int .i64 c) rfl (by simp [execOp, e1, k.con, go_sem]) hC trivial rfl
    refine steps_cons (step_go rfl fun ev w1 hC k => ?_) ?_
    · have e1 : ev (.tmp 19) = .pointer (some ⟨b, 0, none⟩) := k.inn 19 rfl rfl
      exact good_of (v := .pointer (some ⟨b, 0, none⟩)) rfl (by simp [execOp, e1, k.con, go_sem]) hC trivial rfl
    refine steps_cons (step_go rfl fun ev w1 hC k => ?_) ?_
    · have e1 : ev (.tmp 21) = .pointer (some ⟨b, 0, none⟩) := k.inn 21 rfl rfl
      exact good_of (v := .pointer (some ⟨b, 130, none⟩)) rfl (by simp only [execOp, e1]; rfl) hC trivial rfl
    refine steps_cons (step_go rfl fun ev w1 hC k => ?_) ?_
    · have e1 : ev (.tmp 22) = .pointer (some ⟨b, 130, none⟩) := k.inn 22 rfl rfl
      have e2 : ev (.tmp 20) = .int .i64 c := k.inn 20 rfl rfl
      exact good_of (v := .pointer (some ⟨b, 130 + c, none⟩)) rfl (by simp [execOp, e1, e2, k.con, go_sem, bl, dl]) hC trivial rfl
    refine steps_cons (step_go rfl fun ev w1 hC k => ?_) ?_
    · have e1 : ev (.tmp 23) = .pointer (some ⟨b, 130 + c, none⟩) := k.inn 23 rfl rfl
      obtain ⟨n, rfl⟩ := hC
      exact good_of (v := .float .f32 (g.hea c)) rfl (by simp [execOp, e1, go_sem, m3]) ⟨n, rfl⟩ trivial rfl
    refine steps_cons (step_go rfl fun ev w1 hC k => ?_) ?_
    · have e1 : ev (.tmp 0) = .pointer (some ⟨b, 0, none⟩) := k.out 0 rfl rfl rfl
      exact good_of (v := .pointer (some ⟨b, 0, none⟩)) rfl (by simp [execOp, e1, k.con, go_sem]) hC trivial rfl
    refine steps_cons (step_go rfl fun ev w1 hC k => ?_) ?_
    · have e1 : ev (.tmp 8) = .int .i64 d := k.out 8 rfl rfl rfl
      exact good_of (v := .int .i64 d) rfl (by simp [execOp, e1, k.con, go_sem]) hC trivial rfl
    refine steps_cons (step_go rfl fun ev w1 hC k => ?_) ?_
    · have e1 : ev (.tmp 25) = .pointer (some ⟨b, 0, none⟩) := k.inn 25 rfl rfl
      exact good_of (v := .pointer (some ⟨b, 0, none⟩)) rfl (by simp [execOp, e1, k.con, go_sem]) hC trivial rfl
    refine steps_cons (step_go rfl fun ev w1 hC k => ?_) ?_
    · have e1 : ev (.tmp 27) = .pointer (some ⟨b, 0, none⟩) := k.inn 27 rfl rfl
      exact good_of (v := .pointer (some ⟨b, 130, none⟩)) rfl (by simp only [execOp, e1]; rfl) hC trivial rfl
    refine steps_cons (step_go rfl fun ev w1 hC k => ?_) ?_
    · have e1 : ev (.tmp 28) = .pointer (some ⟨b, 130, none⟩) := k.inn 28 rfl rfl
      have e2 : ev (.tmp 26) = .int .i64 d := k.inn 26 rfl rfl
      exact good_of (v := .pointer (some ⟨b, 130 + d, none⟩)) rfl (by simp [execOp, e1, e2, k.con, go_sem, bl, dl]) hC trivial rfl
    refine steps_cons (step_go rfl fun ev w1 hC k => ?_) ?_
    · have e1 : ev (.tmp 29) = .pointer (some ⟨b, 130 + d, none⟩) := k.inn 29 rfl rfl
      obtain ⟨n, rfl⟩ := hC
      exact good_of (v := .float .f32 (g.hea d)) rfl (by simp [execOp, e1, go_sem, m4]) ⟨n, rfl⟩ trivial rfl
    refine steps_cons (step_go rfl fun ev w1 hC k => ?_) ?_
    · have e1 : ev (.tmp 24) = .float .f32 (g.hea c) := k.inn 24 rfl rfl
      have e2 : ev (.tmp 30) = .float .f32 (g.hea d) := k.inn 30 rfl rfl
      obtain ⟨n, rfl⟩ := hC
      exact good_of (v := .float .f32 (fres .sub (g.hea c) (g.hea d) (W.drewN n))) (w' := W.drewN (n + fcnt .sub (g.hea c) (g.hea d))) rfl (by simp [execOp, e1, e2, k.con, run_fsub, go_sem]) ⟨_, rfl⟩ trivial ⟨_, rfl, by rw [cn_res, fop_eq rfl rfl, cn_fop]⟩
    refine steps_cons (step_go rfl fun ev w1 hC k => ?_) ?_
    · have e1 : ev (.tmp 18) = .float .f32 r := k.inn 18 rfl rfl
      obtain ⟨b2, e2, h2⟩ : ∃ fb, ev (.tmp 31) = .float .f32 fb ∧ cn fb = cn (fop .sub (g.hea c) (g.hea d)) := k.inn 31 rfl rfl
      obtain ⟨n, rfl⟩ := hC
      exact good_of (v := .float .f32 (fres .mul r b2 (W.drewN n))) (w' := W.drewN (n + fcnt .mul r b2)) rfl (by simp [execOp, e1, e2, k.con, run_fmul, go_sem]) ⟨_, rfl⟩ trivial ⟨_, rfl, by rw [cn_res, fop_eq rfl h2, cn_fop]⟩
    refine steps_cons (step_go rfl fun ev w1 hC k => ?_) ?_
    · obtain ⟨b1, e1, h1⟩ : ∃ fb, ev (.tmp 32) = .float .f32 fb ∧ cn fb = cn (fop .mul r (fop .sub (g.hea c) (g.hea d))) := k.inn 32 rfl rfl
      exact good_of (v := .float .f32 b1) rfl (by simp [execOp, e1, k.con, go_sem]) hC trivial ⟨_, rfl, h1⟩
    exact steps_nil
  rintro x w1 hx hC
  obtain ⟨b6, y6, g6⟩ : ∃ fb, x 6 = .float .f32 fb ∧ cn fb = cn (fop .mul r (fop .sub (g.hea c) (g.hea d))) := hx 6 (by decide)
  obtain ⟨n, rfl⟩ := hC
  simp only [fill, dstsOf, List.filterMap_cons, List.filterMap_nil, List.foldl_cons, List.foldl_nil, List.set_cons_succ, List.set_cons_zero, y6]
  clear hx y6
  go_wp2_with fail
  go_ret
  exact ⟨_, rfl, by rw [g6, HX.out, fop_eq hr rfl], _, by rw [HW.out]; exact World.drewN_drewN _ _ _⟩

end Go.Proofs.YtdnnjahdcabdmaaGreatDoor
