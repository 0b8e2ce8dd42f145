import Derived.Test.YtdnnjahdcabdmaaGreatDoorMD10
/- Settled heads: the walks through the program's function and the reference's. -/
namespace Go.Proofs.YtdnnjahdcabdmaaGreatDoor
open Go.ChangeShapes Go.WideShapes Go.ChangeAt Go.RowKit
set_option linter.unusedVariables false
set_option linter.unusedSimpArgs false
attribute [local irreducible] Calls

theorem bes_no {g : Gr} {c s : Nat} (hsm : g.small) (h : nbr g c s = false) : bes g c s = -1 := by
  have := bes_lt hsm c s; unfold nbr at h; simp at h; omega

set_option maxRecDepth 100000 in
set_option maxHeartbeats 400000 in
theorem settled_any (g : Gr) (b : Nat) (c : Nat) (hg : g.ok) (hsm : g.small) (hc : c < 64) (w : World) (hb : GAt w b g) :
    Calls Tryz.prog 171 #[.pointer (some ⟨b, 0, none⟩), .int .i64 c] w fun e w' => ∃ r, e = .returned (.float .f32 r) ∧ cn r = cn (sett g c) ∧ ∃ n, w' = w.drewN n := by
  have bk : (0 : Int) ≤ c := by omega
  have bl : (c : Int) < 64 := by omega
  have m1 : w.cell? ⟨b, 66 + c, none⟩ = some (.float .f32 (g.gai c)) := hb.getG c hc
  go_enter Tryz.func171, Tryz.ntmps171
  go_wp2_with fail
  clear m1
  go_loopw [5, 6, 16] (fun a d i wr => ∃ (k x y q : Nat), k ≤ 4 ∧ i = .int .i64 k ∧ a = .float .f32 x ∧ d = .float .f32 y ∧ Hid (cn x = cn (aboveTo g c k)) ∧ Hid (cn y = cn (belowTo g c k)) ∧ wr = w.drewN q) (fun _ _ i _ => 4 - (intOf i).toNat)
  case atStart => exact ⟨0, g.gai c, 0, 0, by omega, rfl, rfl, rfl, Lib.hid (by unfold aboveTo; rw [cn_cn]), Lib.hid rfl, rfl⟩
  case round =>
    obtain ⟨k, x, y, q, hk, rfl, rfl, rfl, hx, hy, rfl⟩ := hrel
    by_cases hlt : k < 4
    · have bk2 : (0 : Int) ≤ k := by omega
      have bl2 : (k : Int) < 4 := by omega
      have hbs := fun w' h => beside_any g b c k hg hc hlt w' h
      have HS1 : Hid (aboveTo g c (k + 1) = if nbr g c k then fop .add (aboveTo g c k) (fop .mul (joint (g.con c) (g.con (nx g c k))) (g.hea (nx g c k))) else aboveTo g c k) := Lib.hid rfl
      have HS2 : Hid (belowTo g c (k + 1) = if nbr g c k then fop .add (belowTo g c k) (joint (g.con c) (g.con (nx g c k))) else belowTo g c k) := Lib.hid rfl
      cases hn : nbr g c k
      · rw [bes_no hsm hn] at hbs
        have HN := Lib.hid hn
        clear hn
        go_wp2_with (go_at_call 95; refine (hbs _ (hb.drewN _)).mono ?_; rintro e w' ⟨rfl, hw⟩; rw [hw]; clear hw w')
        go_roundw
        case rel => exact ⟨k + 1, x, y, _, by omega, by go_num, rfl, rfl, Lib.hid (by rw [HS1.out, HN.out]; exact hx.out), Lib.hid (by rw [HS2.out, HN.out]; exact hy.out), rfl⟩
        case measure => simp [intOf]; omega
      · rw [bes_nx hn] at hbs
        have hd := nx_lt hsm c k
        have HN := Lib.hid hn
        clear hn
        generalize nx g c k = d at *
        have dk : (0 : Int) ≤ d := by omega
        have dl : (d : Int) < 64 := by omega
        go_upto_region 7 with (go_at_call 95; refine (hbs _ (hb.drewN _)).mono ?_; rintro e w' ⟨rfl, hw⟩; rw [hw]; clear hw w')
        have hb2 := hb.drewN q
        obtain ⟨W, hW⟩ : ∃ W, W = w.drewN q := ⟨_, rfl⟩
        rw [← hW] at hb2 ⊢
        have HW := Lib.hid hW
        clear hW
        have m1 : W.cell? ⟨b, 2 + c, none⟩ = some (.float .f32 (g.con c)) := hb2.getC c hc
        have m2 : W.cell? ⟨b, 2 + d, none⟩ = some (.float .f32 (g.con d)) := hb2.getC d hd
        have m3 : W.cell? ⟨b, 130 + d, none⟩ = some (.float .f32 (g.hea d)) := hb2.getH d hd
        refine wp_loose (C := fun w' => ∃ n, w' = W.drewN n) (R := fun _ _ => True) (F := fun _ dd vv => match dd, vv with
          | 25, vv => vv = .pointer (some ⟨b, 0, none⟩)
          | 26, vv => vv = .int .i64 c
          | 27, vv => vv = .pointer (some ⟨b, 0, none⟩)
          | 28, vv => vv = .pointer (some ⟨b, 2, none⟩)
          | 29, vv => vv = .pointer (some ⟨b, 2 + c, none⟩)
          | 30, vv => vv = .float .f32 (g.con c)
          | 31, vv => vv = .pointer (some ⟨b, 0, none⟩)
          | 32, vv => vv = .int .i64 d
          | 33, vv => vv = .pointer (some ⟨b, 0, none⟩)
          | 34, vv => vv = .pointer (some ⟨b, 2, none⟩)
          | 35, vv => vv = .pointer (some ⟨b, 2 + d, none⟩)
          | 36, vv => vv = .float .f32 (g.con d)
          | 37, vv => ∃ fb, vv = .float .f32 fb ∧ cn fb = cn (joint (g.con c) (g.con d))
          | 9, vv => ∃ fb, vv = .float .f32 fb ∧ cn fb = cn (joint (g.con c) (g.con d))
          | _, _ => True) (fun _ _ _ _ _ h => h) (by kernel_rfl) (by kernel_rfl) (by kernel_rfl) ⟨1, rfl⟩ ?_ ?_
        · refine steps_cons (step_go rfl fun ev w1 hC kn => ?_) ?_
          · have e1 : ev (.tmp 0) = .pointer (some ⟨b, 0, none⟩) := kn.out 0 rfl rfl rfl
            exact good_of (v := .pointer (some ⟨b, 0, none⟩)) rfl (by simp [execOp, e1, kn.con, go_sem]) hC trivial rfl
          refine steps_cons (step_go rfl fun ev w1 hC kn => ?_) ?_
          · have e1 : ev (.tmp 1) = .int .i64 c := kn.out 1 rfl rfl rfl
            exact good_of (v := .int .i64 c) rfl (by simp [execOp, e1, kn.con, go_sem]) hC trivial rfl
          refine steps_cons (step_go rfl fun ev w1 hC kn => ?_) ?_
          · have e1 : ev (.tmp 25) = .pointer (some ⟨b, 0, none⟩) := kn.inn 25 rfl rfl
            exact good_of (v := .pointer (some ⟨b, 0, none⟩)) rfl (by simp [execOp, e1, kn.con, go_sem]) hC trivial rfl
          refine steps_cons (step_go rfl fun ev w1 hC kn => ?_) ?_
          · have e1 : ev (.tmp 27) = .pointer (some ⟨b, 0, none⟩) := kn.inn 27 rfl rfl
            exact good_of (v := .pointer (some ⟨b, 2, none⟩)) rfl (by simp only [execOp, e1]; rfl) hC trivial rfl
          refine steps_cons (step_go rfl fun ev w1 hC kn => ?_) ?_
          · have e1 : ev (.tmp 28) = .pointer (some ⟨b, 2, none⟩) := kn.inn 28 rfl rfl
            have e2 : ev (.tmp 26) = .int .i64 c := kn.inn 26 rfl rfl
            exact good_of (v := .pointer (some ⟨b, 2 + c, none⟩)) rfl (by simp [execOp, e1, e2, kn.con, go_sem, bl, dl]) hC trivial rfl
          refine steps_cons (step_go rfl fun ev w1 hC kn => ?_) ?_
          · have e1 : ev (.tmp 29) = .pointer (some ⟨b, 2 + c, none⟩) := kn.inn 29 rfl rfl
            obtain ⟨nn, rfl⟩ := hC
            exact good_of (v := .float .f32 (g.con c)) rfl (by simp [execOp, e1, go_sem, m1]) ⟨nn, rfl⟩ trivial rfl
          refine steps_cons (step_go rfl fun ev w1 hC kn => ?_) ?_
          · have e1 : ev (.tmp 0) = .pointer (some ⟨b, 0, none⟩) := kn.out 0 rfl rfl rfl
            exact good_of (v := .pointer (some ⟨b, 0, none⟩)) rfl (by simp [execOp, e1, kn.con, go_sem]) hC trivial rfl
          refine steps_cons (step_go rfl fun ev w1 hC kn => ?_) ?_
          · have e1 : ev (.tmp 8) = .int .i64 d := kn.out 8 rfl rfl rfl
            exact good_of (v := .int .i64 d) rfl (by simp [execOp, e1, kn.con, go_sem]) hC trivial rfl
          refine steps_cons (step_go rfl fun ev w1 hC kn => ?_) ?_
          · have e1 : ev (.tmp 31) = .pointer (some ⟨b, 0, none⟩) := kn.inn 31 rfl rfl
            exact good_of (v := .pointer (some ⟨b, 0, none⟩)) rfl (by simp [execOp, e1, kn.con, go_sem]) hC trivial rfl
          refine steps_cons (step_go rfl fun ev w1 hC kn => ?_) ?_
          · have e1 : ev (.tmp 33) = .pointer (some ⟨b, 0, none⟩) := kn.inn 33 rfl rfl
            exact good_of (v := .pointer (some ⟨b, 2, none⟩)) rfl (by simp only [execOp, e1]; rfl) hC trivial rfl
          refine steps_cons (step_go rfl fun ev w1 hC kn => ?_) ?_
          · have e1 : ev (.tmp 34) = .pointer (some ⟨b, 2, none⟩) := kn.inn 34 rfl rfl
            have e2 : ev (.tmp 32) = .int .i64 d := kn.inn 32 rfl rfl
            exact good_of (v := .pointer (some ⟨b, 2 + d, none⟩)) rfl (by simp [execOp, e1, e2, kn.con, go_sem, bl, dl]) hC trivial rfl
          refine steps_cons (step_go rfl fun ev w1 hC kn => ?_) ?_
          · have e1 : ev (.tmp 35) = .pointer (some ⟨b, 2 + d, none⟩) := kn.inn 35 rfl rfl
            obtain ⟨nn, rfl⟩ := hC
            exact good_of (v := .float .f32 (g.con d)) rfl (by simp [execOp, e1, go_sem, m2]) ⟨nn, rfl⟩ trivial rfl
          refine steps_cons (step_go rfl fun ev w1 hC kn => ?_) ?_
          · have e1 : ev (.tmp 30) = .float .f32 (g.con c) := kn.inn 30 rfl rfl
            have e2 : ev (.tmp 36) = .float .f32 (g.con d) := kn.inn 36 rfl rfl
            refine good_call (f := 41) (args := #[.float .f32 (g.con c), .float .f32 (g.con d)]) rfl (by simp [execOp, e1, e2, kn.fn, kn.con, go_sem]) ((joint_any _ _ w1).mono fun e w2 ⟨r, he, hr, q, hw⟩ => ⟨_, he, by rw [hw]; obtain ⟨nn, rfl⟩ := hC; exact ⟨nn + q, by simp⟩, trivial, r, rfl, hr⟩)
          refine steps_cons (step_go rfl fun ev w1 hC kn => ?_) ?_
          · obtain ⟨b1, e1, h1⟩ : ∃ fb, ev (.tmp 37) = .float .f32 fb ∧ cn fb = cn (joint (g.con c) (g.con d)) := kn.inn 37 rfl rfl
            exact good_of (v := .float .f32 b1) rfl (by simp [execOp, e1, kn.con, go_sem]) hC trivial ⟨_, rfl, h1⟩
          exact steps_nil
        rintro x w1 hx hC
        obtain ⟨b9, y9, g9⟩ : ∃ fb, x 9 = .float .f32 fb ∧ cn fb = cn (joint (g.con c) (g.con d)) := hx 9 (by decide)
        obtain ⟨n, rfl⟩ := hC
        simp only [fill, dstsOf, List.filterMap_cons, List.filterMap_nil, List.foldl_cons, List.foldl_nil, List.set_cons_succ, List.set_cons_zero, y9]
        clear hx y9
        have HG := Lib.hid g9
        clear g9
        go_wp2_with fail
        go_roundw
        case rel =>
          refine ⟨k + 1, _, _, _, by omega, by go_num, rfl, rfl, Lib.hid ?_, Lib.hid ?_, by rw [HW.out]; exact World.drewN_drewN _ _ _⟩
          · rw [HS1.out, HN.out, if_pos rfl, cn_res, cn_fop, fop_res_r]
            exact fop_eq hx.out (by rw [cn_fop, cn_fop]; exact fop_eq HG.out rfl)
          · rw [HS2.out, HN.out, if_pos rfl, cn_res, cn_fop]
            exact fop_eq hy.out HG.out
        case measure => simp [intOf]; omega
    · obtain rfl : k = 4 := by omega
      have hb2 := hb.drewN q
      have m3 : (w.drewN q).cell? ⟨b, 130 + c, none⟩ = some (.float .f32 (g.hea c)) := hb2.getH c hc
      have hfx := fixed_any g b c hg hc _ hb2
      have HST : Hid (sett g c = if isFx g c || feq (belowTo g c 4) 0 then cn (g.hea c) else fop .quo (aboveTo g c 4) (belowTo g c 4)) := Lib.hid rfl
      cases hf : isFx g c <;> rw [hf] at hfx
      · have h0 := feq_eq y 0
        have hz : feq y 0 = feq (belowTo g c 4) 0 := feq_al2 hy.out rfl
        rw [hz] at h0
        cases hv : feq (belowTo g c 4) 0
        · rw [hv] at h0
          have HF := Lib.hid (And.intro hf hv)
          clear hf hv hz
          go_wp2_with (go_at_call 76; refine hfx.mono ?_; rintro e w' ⟨rfl, hw⟩; rw [hw]; clear hw w')
          go_ret
          exact ⟨_, rfl, by rw [HST.out, HF.out.1, HF.out.2, cn_res]; exact (fop_eq hx.out hy.out).trans (cn_fop _ _ _).symm, _, rfl⟩
        · rw [hv] at h0
          have HF := Lib.hid (And.intro hf hv)
          clear hf hv hz
          go_wp2_with (go_at_call 76; refine hfx.mono ?_; rintro e w' ⟨rfl, hw⟩; rw [hw]; clear hw w')
          go_ret
          exact ⟨_, rfl, by rw [HST.out, HF.out.1, HF.out.2]; exact (cn_cn _).symm, _, rfl⟩
      · have HF := Lib.hid hf
        clear hf
        go_wp2_with (go_at_call 76; refine hfx.mono ?_; rintro e w' ⟨rfl, hw⟩; rw [hw]; clear hw w')
        go_ret
        exact ⟨_, rfl, by rw [HST.out, HF.out]; exact (cn_cn _).symm, _, rfl⟩

set_option maxRecDepth 100000 in
set_option maxHeartbeats 400000 in
theorem l02Head_any (g : Gr) (b : Nat) (c : Nat) (hg : g.ok) (hsm : g.small) (hc : c < 64) (w : World) (hb : GAt w b g) :
    Calls Tryz.prog 173 #[.pointer (some ⟨b, 0, none⟩), .int .i64 c] w fun e w' => ∃ r, e = .returned (.float .f32 r) ∧ cn r = cn (sett g c) ∧ ∃ n, w' = w.drewN n := by
  have bk : (0 : Int) ≤ c := by omega
  have bl : (c : Int) < 64 := by omega
  have m1 : w.cell? ⟨b, 66 + c, none⟩ = some (.float .f32 (g.gai c)) := hb.getG c hc
  have m3 : w.cell? ⟨b, 130 + c, none⟩ = some (.float .f32 (g.hea c)) := hb.getH c hc
  have hfx := l01Fixed_any g b c hg hc w hb
  have HST : Hid (sett g c = if isFx g c || feq (belowTo g c 4) 0 then cn (g.hea c) else fop .quo (aboveTo g c 4) (belowTo g c 4)) := Lib.hid rfl
  cases hf : isFx g c <;> rw [hf] at hfx
  · have HF := Lib.hid hf
    clear hf
    go_enter Tryz.func173, Tryz.ntmps173
    go_wp2_with (go_at_call 192; refine hfx.mono ?_; rintro e w' ⟨rfl, hw⟩; rw [hw]; clear hw w')
    clear m1 m3 hfx
    go_loopw [5, 6, 7] (fun a d i wr => ∃ (k x y q : Nat), k ≤ 4 ∧ i = .int .i64 k ∧ a = .float .f32 x ∧ d = .float .f32 y ∧ Hid (cn x = cn (aboveTo g c k)) ∧ Hid (cn y = cn (belowTo g c k)) ∧ wr = w.drewN q) (fun _ _ i _ => 4 - (intOf i).toNat)
    case atStart => exact ⟨0, g.gai c, 0, 0, by omega, rfl, rfl, rfl, Lib.hid (by unfold aboveTo; rw [cn_cn]), Lib.hid rfl, rfl⟩
    case round =>
      obtain ⟨k, x, y, q, hk, rfl, rfl, rfl, hx, hy, rfl⟩ := hrel
      have hb2 := hb.drewN q
      by_cases hlt : k < 4
      · have bk2 : (0 : Int) ≤ k := by omega
        have bl2 : (k : Int) < 4 := by omega
        have HS1 : Hid (aboveTo g c (k + 1) = if nbr g c k then fop .add (aboveTo g c k) (fop .mul (joint (g.con c) (g.con (nx g c k))) (g.hea (nx g c k))) else aboveTo g c k) := Lib.hid rfl
        have HS2 : Hid (belowTo g c (k + 1) = if nbr g c k then fop .add (belowTo g c k) (joint (g.con c) (g.con (nx g c k))) else belowTo g c k) := Lib.hid rfl
        cases hn : nbr g c k
        · have hbt := between_no g b c k hg hsm hc hlt hn (w.drewN q) hb2
          have HN := Lib.hid hn
          clear hn
          go_wp2_with (go_at_call 138; refine hbt.mono ?_; rintro e w' ⟨rfl, hw⟩; rw [hw]; clear hw w')
          go_roundw
          case rel => exact ⟨k + 1, x, y, _, by omega, by go_num, rfl, rfl, Lib.hid (by rw [HS1.out, HN.out]; exact hx.out), Lib.hid (by rw [HS2.out, HN.out]; exact hy.out), rfl⟩
          case measure => simp [intOf]; omega
        · have hbt := between_yes g b c k hg hsm hc hlt hn (w.drewN q) hb2
          have hd := nx_lt hsm c k
          have HN := Lib.hid hn
          clear hn
          generalize nx g c k = d at *
          have dk : (0 : Int) ≤ d := by omega
          have dl : (d : Int) < 64 := by omega
          have m3 : w.cell? ⟨b, 130 + d, none⟩ = some (.float .f32 (g.hea d)) := hb.getH d hd
          go_wp2_with (go_at_call 138; refine hbt.mono ?_; rintro e w' ⟨r, rfl, hr, n, rfl⟩; have HG := Lib.hid hr; clear hr)
          go_roundw
          case rel =>
            refine ⟨k + 1, _, _, _, by omega, by go_num, rfl, rfl, Lib.hid ?_, Lib.hid ?_, rfl⟩
            · rw [HS1.out, HN.out, if_pos rfl, cn_res, cn_fop, fop_res_r]
              exact fop_eq hx.out (by rw [cn_fop, cn_fop]; exact fop_eq HG.out rfl)
            · rw [HS2.out, HN.out, if_pos rfl, cn_res, cn_fop]
              exact fop_eq hy.out HG.out
          case measure => simp [intOf]; omega
      · obtain rfl : k = 4 := by omega
        have m3 : w.cell? ⟨b, 130 + c, none⟩ = some (.float .f32 (g.hea c)) := hb.getH c hc
        have h0 := feq_eq y 0
        have hz : feq y 0 = feq (belowTo g c 4) 0 := feq_al2 hy.out rfl
        rw [hz] at h0
        cases hv : feq (belowTo g c 4) 0
        · rw [hv] at h0
          have HV := Lib.hid hv
          clear hv hz
          go_wp2_with fail
          go_ret
          exact ⟨_, rfl, by rw [HST.out, HF.out, HV.out, cn_res]; exact (fop_eq hx.out hy.out).trans (cn_fop _ _ _).symm, _, rfl⟩
        · rw [hv] at h0
          have HV := Lib.hid hv
          clear hv hz
          go_wp2_with fail
          go_ret
          exact ⟨_, rfl, by rw [HST.out, HF.out, HV.out]; exact (cn_cn _).symm, _, rfl⟩
  · have HF := Lib.hid hf
    clear hf
    go_enter Tryz.func173, Tryz.ntmps173
    go_wp2_with (go_at_call 192; refine hfx.mono ?_; rintro e w' ⟨rfl, hw⟩; rw [hw]; clear hw w')
    go_ret
    exact ⟨_, rfl, by rw [HST.out, HF.out]; exact (cn_cn _).symm, 0, rfl⟩
end Go.Proofs.YtdnnjahdcabdmaaGreatDoor
