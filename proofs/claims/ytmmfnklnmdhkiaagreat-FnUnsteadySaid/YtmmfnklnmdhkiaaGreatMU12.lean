import Derived.Test.YtmmfnklnmdhkiaaGreatMU11
/- Steps of a ground: the walks through the program's step and the reference's. -/
namespace Go.Proofs.YtmmfnklnmdhkiaaGreat
open Go.ChangeShapes Go.WideShapes Go.ChangeAt Go.RowKit
set_option linter.unusedVariables false
set_option linter.unusedSimpArgs false
attribute [local irreducible] Calls

theorem zero66z : ZeroTy Tryz.prog 30 zeroG.cells := zero66
theorem nodup_cells (g : Gr) (n : Nat) : (cellsTo g n).Nodup := by unfold cellsTo; exact List.Pairwise.filter _ List.nodup_range
theorem nodup_free (g : Gr) : (freeL g).Nodup := by unfold freeL freeOf; exact List.Pairwise.filter _ (nodup_cells g 64)
theorem not_take {l : List Nat} (h : l.Nodup) {j k : Nat} (hk : l[j]? = some k) : k ∉ l.take j := by
  intro hm
  obtain ⟨i, hi⟩ := List.getElem?_of_mem hm
  rw [List.getElem?_take] at hi
  by_cases hij : i < j
  · rw [if_pos hij] at hi
    have hil : i < l.length := by
      rcases Nat.lt_or_ge i l.length with h' | h'
      · exact h'
      · rw [List.getElem?_eq_none h'] at hi; cases hi
    have := (List.getElem?_inj hil h).1 (hi.trans hk.symm)
    omega
  · rw [if_neg hij] at hi; cases hi
theorem freeL_mem {g : Gr} {k : Nat} : k ∈ freeL g ↔ (k < 64 ∧ isC g k = true) ∧ isFx g k = false := by
  unfold freeL freeOf; rw [List.mem_filter, cellsTo_mem]; simp
theorem stepIs_of {g : Gr} {part : Nat} {hh : Nat → Nat} (hb : balsOk g = true) (h : ∀ k, k < 64 → cn (hh k) = cn (stepH g part k)) : validG { g with hea := hh } = stepIs g part ∧ GrEq { g with hea := hh } (stepG g part) := by
  have he : GrEq { g with hea := hh } (stepG g part) := ⟨rfl, rfl, rfl, fun _ _ => rfl, fun _ _ => rfl, h⟩
  exact ⟨by rw [validG_al he]; unfold stepIs; rw [hb]; rfl, he⟩

set_option maxRecDepth 100000 in
set_option maxHeartbeats 400000 in
theorem stepped_any (g : Gr) (b : Nat) (part : Nat) (hg : g.ok) (hsm : g.small) (w : World) (hb : GAt w b g) :
    Calls Tryz.prog 35 #[.pointer (some ⟨b, 0, none⟩), .float .f32 part] w fun e w' => e = .returned (.tuple #[.agg (stepR g part).cells, .int .i64 (stepC g part)]) ∧ Below w.heap.size w w' := by
  have lb := hb.lt
  have hbal := fun w' h => balances_any g b hg hsm w' h
  have hfr := fun w' h => free_any g b hg w' h
  have hlen : (freeL g).length ≤ 64 := Nat.le_trans (freeOf_length g _) (cellsTo_length g 64)
  have HN := Lib.hid (nodup_free g)
  have HM : Hid (∀ k, k ∈ freeL g ↔ (k < 64 ∧ isC g k = true) ∧ isFx g k = false) := Lib.hid fun k => freeL_mem
  generalize freeL g = L at *
  obtain ⟨R, hR⟩ : ∃ R, R = (stepR g part).cells := ⟨_, rfl⟩
  obtain ⟨V, hV⟩ : ∃ V, V = stepC g part := ⟨_, rfl⟩
  rw [← hR, ← hV]
  have HRV := Lib.hid (And.intro hR hV)
  clear hR hV
  go_enter Tryz.func35, Tryz.ntmps35
  go_upto_region 1 with (refine wpList_alloc_as rfl rfl zero66z ?_)
  have hS : Blk (w.alloc (.cells zeroG.cells 30)) w.heap.size zeroG.cells 30 := Blk.new _ _ _
  have hb1 := hb.alloc (.cells zeroG.cells 30)
  have hbel := below1 w (.cells zeroG.cells 30)
  generalize w.alloc (.cells zeroG.cells 30) = W at *
  have lS := hS.lt
  go_upto_region 2 with (first | (go_at_call 44; refine (hbal _ hb1).mono ?_; rintro e w1 ⟨ff, rfl, hff, hbel1⟩; have HFF := Lib.hid hff; clear hff) | (refine wpList_alloc_as rfl rfl zero64 ?_) | (refine wpList_store_last rfl rfl rfl rfl rfl (by rw [fls_size]; kernel_rfl) (by rw [fls_size, fls_size]) (List.all_eq_true.2 (fls_one _ _)) ?_))
  have hQ := Blk.new w1 (fls 64 ff).toArray 27
  have hS := (hS.below hbel1 lS).alloc (.cells (fls 64 ff).toArray 27)
  have hb1 := (hb1.below hbel1 hb1.lt).alloc (.cells (fls 64 ff).toArray 27)
  have hbel := hbel.trans (hbel1.mono hbel.size)
  have hbel := hbel.alloc hbel.size (.cells (fls 64 ff).toArray 27)
  have q1 : w.heap.size < w1.heap.size := Nat.lt_of_lt_of_le lS hbel1.size
  clear hbel1 lS hbal
  generalize w1.alloc (.cells (fls 64 ff).toArray 27) = W1 at *
  generalize w1.heap.size = q at *
  cases hok : balsOk g
  · have HOK := Lib.hid hok
    clear hok
    go_wp2_with (first | (refine wpList_zero rfl rfl built66 ?_) | (refine wpList_store_blk rfl rfl rfl rfl row66 hS zeroG.size zeroG.size zeroG.one ?_))
    have e1 : stepIs g part = false := by unfold stepIs; rw [HOK.out]; rfl
    refine bodyPost_row2 rfl rfl row66 (hS.setRow _) zeroG.size rfl ⟨?_, below_setRow hbel (by omega) _⟩
    rw [HRV.out.1, HRV.out.2]; unfold stepR stepC; rw [e1]; rfl
  · have HOK := Lib.hid hok
    have HF2 : Hid (∀ k, k < 64 → cn (ff k) = cn (balF g k)) := Lib.hid (HFF.out hok)
    clear hok HFF
    have lQ := hQ.lt
    have lS := hS.lt
    go_upto_region 5 with (first | (refine wpList_load_gat rfl rfl rfl row66 hb1 ?_) | (refine wpList_alloc_as rfl rfl zero66z ?_) | (refine wpList_store_last rfl rfl rfl rfl rfl (by rw [g.size]; kernel_rfl) (by rw [g.size, zeroG.size]) (List.all_eq_true.2 g.one) ?_))
    have hO := Blk.new W1 g.cells 30
    have hS := hS.alloc (.cells g.cells 30)
    have hQ := hQ.alloc (.cells g.cells 30)
    have hb1 := hb1.alloc (.cells g.cells 30)
    have hbel := hbel.alloc hbel.size (.cells g.cells 30)
    have r1 : q < W1.heap.size := lQ
    generalize W1.alloc (.cells g.cells 30) = W2 at *
    generalize W1.heap.size = r at *
    clear lQ lS
    have lO := hO.lt
    have lQ := hQ.lt
    have lS := hS.lt
    go_upto_region 6 with (go_at_call 46; refine (hfr _ hb1).mono ?_; rintro e w3 ⟨p, cap1, rfl, hp, hown, hbel3⟩)
    have hO := hO.below hbel3 lO
    have hQ := hQ.below hbel3 lQ
    have hS := hS.below hbel3 lS
    have hb1 := hb1.below hbel3 hb1.lt
    have hbel := hbel.trans (hbel3.mono hbel.size)
    obtain ⟨_, hcap, hc1, hc2⟩ := hown.form
    injection hcap with _ _ hcap
    subst hcap
    have p1 : r < p := by omega
    clear hbel3 hfr lO lQ lS hp
    go_loopw [25] (fun i wr => ∃ (j : Nat) (hh : Nat → Nat), j ≤ L.length ∧ i = .int .i64 j ∧ Hid (∀ k, k < 64 → cn (hh k) = cn (if k ∈ L.take j then stepH g part k else g.hea k)) ∧ Blk wr w.heap.size zeroG.cells 30 ∧ Blk wr q (fls 64 ff).toArray 27 ∧ Blk wr r ({ g with hea := hh } : Gr).cells 30 ∧ Own wr p 3 1 (.slice (some ⟨p, 0, none⟩) L.length cap1) L.length (ils L) ∧ Below w.heap.size w wr) (fun i _ => L.length - (intOf i).toNat)
    case atStart => exact ⟨0, g.hea, by omega, rfl, Lib.hid (fun k hk => by simp), hS, hQ, hO, hown, hbel⟩
    case round =>
      clear hS hQ hO hown hbel hb1
      obtain ⟨j, hh, hj, rfl, hhh, hS, hQ, hO, hown, hbel⟩ := hrel
      by_cases hlt : j < L.length
      · obtain ⟨k, hk⟩ : ∃ k, L[j]? = some k := ⟨_, List.getElem?_eq_getElem hlt⟩
        have hkm := (HM.out k).1 (List.mem_of_getElem? hk)
        have hk64 := hkm.1.1
        have HT : Hid (L.take (j + 1) = L.take j ++ [k]) := Lib.hid (by rw [List.take_add_one, hk]; rfl)
        have HNT := Lib.hid (not_take HN.out hk)
        have HKM := Lib.hid hkm
        have c0 : wr.cell? ⟨p, j, none⟩ = some (.int .i64 k) := (hown.cell _ (by omega)).trans (ils_get _ _ _ hk)
        clear hkm hk
        have bk : (0 : Int) ≤ k := by omega
        have bl : (k : Int) < 64 := by omega
        have bj : (0 : Int) ≤ j := by omega
        have c1 : wr.cell? ⟨r, 130 + k, none⟩ = some (.float .f32 (hh k)) := hO.gat.getH k hk64
        have c2 : wr.cell? ⟨q, k, none⟩ = some (.float .f32 (ff k)) := (hQ.cell _).trans (by rw [List.getElem?_toArray, fls_get 64 _ k hk64])
        have f1 := hO.free (130 + k)
        go_upto_region 8 with fail
        refine wp_tailL rfl (C := fun w' => ∃ n, w' = wr.drewN n) (R := fun _ _ => True) (F := fun _ dd vv => match dd, vv with
          | 29, vv => vv = .int .i64 k
          | 30, vv => vv = .pointer (some ⟨r, 130, none⟩)
          | 31, vv => vv = .pointer (some ⟨r, 130 + k, none⟩)
          | 32, vv => vv = .float .f32 (hh k)
          | 33, vv => vv = .float .f32 part
          | 34, vv => vv = .int .i64 k
          | 35, vv => vv = .pointer (some ⟨q, k, none⟩)
          | 36, vv => vv = .float .f32 (ff k)
          | 37, vv => ∃ fb, vv = .float .f32 fb ∧ cn fb = cn (fop .mul part (ff k))
          | 38, vv => ∃ fb, vv = .float .f32 fb ∧ cn fb = cn (fop .add (hh k) (fop .mul part (ff k)))
          | 39, vv => vv = .pointer (some ⟨r, 130, none⟩)
          | 40, vv => vv = .pointer (some ⟨r, 130 + k, none⟩)
          | _, _ => True) (fun _ _ _ _ _ h => h) (by kernel_rfl) (by kernel_rfl) rfl rfl (by kernel_rfl) ⟨1, rfl⟩ ?_ ?_
        · refine ⟨step_go rfl fun ev w1 hC kn => ?_, ?_⟩
          · have e1 : ev (.tmp 10) = .int .i64 k := kn.out 10 rfl rfl rfl
            exact good_of (v := .int .i64 k) rfl (by simp [execOp, e1, kn.con, go_sem]) hC trivial rfl
          refine ⟨step_go rfl fun ev w1 hC kn => ?_, ?_⟩
          · have e1 : ev (.tmp 8) = .pointer (some ⟨r, 0, none⟩) := kn.out 8 rfl rfl rfl
            exact good_of (v := .pointer (some ⟨r, 130, none⟩)) rfl (by simp only [execOp, e1]; rfl) hC trivial rfl
          refine ⟨step_go rfl fun ev w1 hC kn => ?_, ?_⟩
          · have e1 : ev (.tmp 30) = .pointer (some ⟨r, 130, none⟩) := kn.inn 30 rfl rfl
            have e2 : ev (.tmp 29) = .int .i64 k := kn.inn 29 rfl rfl
            exact good_of (v := .pointer (some ⟨r, 130 + k, none⟩)) rfl (by simp [execOp, e1, e2, kn.con, go_sem, bl]) hC trivial rfl
          refine ⟨step_go rfl fun ev w1 hC kn => ?_, ?_⟩
          · have e1 : ev (.tmp 31) = .pointer (some ⟨r, 130 + k, none⟩) := kn.inn 31 rfl rfl
            obtain ⟨nn, rfl⟩ := hC
            exact good_of (v := .float .f32 (hh k)) rfl (by simp [execOp, e1, go_sem, c1]) ⟨nn, rfl⟩ trivial rfl
          refine ⟨step_go rfl fun ev w1 hC kn => ?_, ?_⟩
          · have e1 : ev (.tmp 1) = .float .f32 part := kn.out 1 rfl rfl rfl
            exact good_of (v := .float .f32 part) rfl (by simp [execOp, e1, kn.con, go_sem]) hC trivial rfl
          refine ⟨step_go rfl fun ev w1 hC kn => ?_, ?_⟩
          · have e1 : ev (.tmp 10) = .int .i64 k := kn.out 10 rfl rfl rfl
            exact good_of (v := .int .i64 k) rfl (by simp [execOp, e1, kn.con, go_sem]) hC trivial rfl
          refine ⟨step_go rfl fun ev w1 hC kn => ?_, ?_⟩
          · have e1 : ev (.tmp 6) = .pointer (some ⟨q, 0, none⟩) := kn.out 6 rfl rfl rfl
            have e2 : ev (.tmp 34) = .int .i64 k := kn.inn 34 rfl rfl
            exact good_of (v := .pointer (some ⟨q, k, none⟩)) rfl (by simp [execOp, e1, e2, kn.con, go_sem, bl]) hC trivial rfl
          refine ⟨step_go rfl fun ev w1 hC kn => ?_, ?_⟩
          · have e1 : ev (.tmp 35) = .pointer (some ⟨q, k, none⟩) := kn.inn 35 rfl rfl
            obtain ⟨nn, rfl⟩ := hC
            exact good_of (v := .float .f32 (ff k)) rfl (by simp [execOp, e1, go_sem, c2]) ⟨nn, rfl⟩ trivial rfl
          refine ⟨step_go rfl fun ev w1 hC kn => ?_, ?_⟩
          · have e1 : ev (.tmp 33) = .float .f32 part := kn.inn 33 rfl rfl
            have e2 : ev (.tmp 36) = .float .f32 (ff k) := kn.inn 36 rfl rfl
            obtain ⟨nn, rfl⟩ := hC
            exact good_of (v := .float .f32 (fres .mul part (ff k) (wr.drewN nn))) (w' := wr.drewN (nn + fcnt .mul part (ff k))) rfl (by simp [execOp, e1, e2, kn.con, run_fmul, go_sem]) ⟨_, rfl⟩ trivial ⟨_, rfl, by rw [cn_res, fop_eq rfl rfl, cn_fop]⟩
          refine ⟨step_go rfl fun ev w1 hC kn => ?_, ?_⟩
          · have e1 : ev (.tmp 32) = .float .f32 (hh k) := kn.inn 32 rfl rfl
            obtain ⟨b2, e2, h2⟩ : ∃ fb, ev (.tmp 37) = .float .f32 fb ∧ cn fb = cn (fop .mul part (ff k)) := kn.inn 37 rfl rfl
            obtain ⟨nn, rfl⟩ := hC
            exact good_of (v := .float .f32 (fres .add (hh k) b2 (wr.drewN nn))) (w' := wr.drewN (nn + fcnt .add (hh k) b2)) rfl (by simp [execOp, e1, e2, kn.con, run_fadd, go_sem]) ⟨_, rfl⟩ trivial ⟨_, rfl, by rw [cn_res, fop_eq rfl h2, cn_fop]⟩
          refine ⟨step_go rfl fun ev w1 hC kn => ?_, ?_⟩
          · have e1 : ev (.tmp 8) = .pointer (some ⟨r, 0, none⟩) := kn.out 8 rfl rfl rfl
            exact good_of (v := .pointer (some ⟨r, 130, none⟩)) rfl (by simp only [execOp, e1]; rfl) hC trivial rfl
          refine ⟨step_go rfl fun ev w1 hC kn => ?_, ?_⟩
          · have e1 : ev (.tmp 39) = .pointer (some ⟨r, 130, none⟩) := kn.inn 39 rfl rfl
            have e2 : ev (.tmp 29) = .int .i64 k := kn.inn 29 rfl rfl
            exact good_of (v := .pointer (some ⟨r, 130 + k, none⟩)) rfl (by simp [execOp, e1, e2, kn.con, go_sem, bl]) hC trivial rfl
          exact trivial
        rintro x w1 hx hC
        obtain ⟨b38, y38, g38⟩ : ∃ fb, x 38 = .float .f32 fb ∧ cn fb = cn (fop .add (hh k) (fop .mul part (ff k))) := hx 38 (by decide)
        have y40 : x 40 = .pointer (some ⟨r, 130 + k, none⟩) := hx 40 (by decide)
        obtain ⟨n, rfl⟩ := hC
        simp only [fill, dstsOf, List.filterMap_cons, List.filterMap_nil, List.foldl_cons, List.foldl_nil, List.set_cons_succ, List.set_cons_zero, y38, y40]
        clear hx y38 y40
        refine ⟨(wr.drewN n).setCell ⟨r, 130 + k, none⟩ (.float .f32 b38), by simp [execOp, Act.eval, go_sem, c1, f1], ?_⟩
        go_wp2_with fail
        go_roundw
        case rel =>
          refine ⟨j + 1, upd hh k b38, by omega, by go_num, Lib.hid fun i hi => ?_, (hS.drewN n).setOther (a := ⟨r, 130 + k, none⟩) _ (by show w.heap.size ≠ r; omega), (hQ.drewN n).setOther (a := ⟨r, 130 + k, none⟩) _ (by show q ≠ r; omega), ?_, (hown.drewN n).setOther (a := ⟨r, 130 + k, none⟩) _ (by show p ≠ r; omega), (below_drewN hbel n).setCell (p := ⟨r, 130 + k, none⟩) (by show w.heap.size ≤ r; omega) _⟩
          · rw [HT.out]
            unfold Go.Proofs.YtmmfnklnmdhkiaaGreat.upd
            by_cases hik : i = k
            · subst hik
              simp only [if_true, List.mem_append, List.mem_singleton, or_true]
              rw [g38]
              have h1 := hhh.out i hi
              rw [if_neg HNT.out] at h1
              have h2 := HF2.out i hi
              unfold balF at h2
              rw [HKM.out.1.2] at h2
              simp only [if_true] at h2
              unfold stepH
              rw [HKM.out.1.2, HKM.out.2]
              simp only [Bool.not_false, Bool.and_self, if_true]
              rw [fop_eq (op := .add) h1 (congrArg cn (fop_eq (op := .mul) rfl h2))]
            · simp only [hik, if_false, List.mem_append, List.mem_singleton, or_false]; exact hhh.out i hi
          · have := (hO.drewN n).setCell (130 + k) (.float .f32 b38)
            rw [Gr.setH _ _ _ hk64] at this
            exact this
        case measure => simp [intOf]; omega
      · obtain rfl : j = L.length := by omega
        have hst := stepIs_of (g := g) (part := part) (hh := hh) HOK.out (fun k hk => by
          rw [hhh.out k hk, List.take_length]
          by_cases hm : k ∈ L
          · rw [if_pos hm]
          · rw [if_neg hm]
            have h1 : ¬ ((k < 64 ∧ isC g k = true) ∧ isFx g k = false) := fun h => hm ((HM.out k).2 h)
            unfold stepH
            rw [if_neg (by
              intro h2
              simp at h2
              exact h1 ⟨⟨hk, h2.1⟩, h2.2⟩)])
        have hvg := fun w' => validGround_any ({ g with hea := hh } : Gr) ⟨hg.wide, hg.high, hg.fix⟩ w'
        rw [hst.1] at hvg
        have HE := Lib.hid hst.2
        clear hst
        have lS := hS.lt
        have lO := hO.lt
        cases hs : stepIs g part <;> rw [hs] at hvg
        · have HS := Lib.hid hs
          clear hs
          go_wp2_with (first | (refine wpList_load_blk rfl rfl rfl row66 hO (Gr.size _) ?_) | (go_at_call 33; refine (hvg _).mono ?_; rintro e w4 ⟨rfl, hb4⟩; have hS4 := hS.below hb4 lS) | (refine wpList_zero rfl rfl built66 ?_) | (refine wpList_store_blk rfl rfl rfl rfl row66 hS4 zeroG.size zeroG.size zeroG.one ?_))
          refine bodyPost_row2 rfl rfl row66 (hS4.setRow _) zeroG.size rfl ⟨?_, below_setRow (hbel.trans (hb4.mono hbel.size)) (by omega) _⟩
          rw [HRV.out.1, HRV.out.2]; unfold stepR stepC; rw [HS.out]; rfl
        · have HS := Lib.hid hs
          clear hs
          go_wp2_with (first | (refine wpList_load_blk rfl rfl rfl row66 hO (Gr.size _) ?_) | (go_at_call 33; refine (hvg _).mono ?_; rintro e w4 ⟨rfl, hb4⟩; have hS4 := hS.below hb4 lS; have hO4 := hO.below hb4 lO) | (refine wpList_load_blk rfl rfl rfl row66 hO4 (Gr.size _) ?_) | (refine wpList_store_blk rfl rfl rfl rfl row66 hS4 zeroG.size (Gr.size _) (Gr.one _) ?_))
          refine bodyPost_row2 rfl rfl row66 (hS4.setRow _) (Gr.size _) rfl ⟨?_, below_setRow (hbel.trans (hb4.mono hbel.size)) (by omega) _⟩
          rw [HRV.out.1, HRV.out.2]; unfold stepR stepC; rw [HS.out]
          have hv : validG (stepG g part) = true := by have := HS.out; unfold stepIs at this; exact (Bool.and_eq_true_iff.1 this).2
          rw [HE.out.cells hv]; rfl
end Go.Proofs.YtmmfnklnmdhkiaaGreat
