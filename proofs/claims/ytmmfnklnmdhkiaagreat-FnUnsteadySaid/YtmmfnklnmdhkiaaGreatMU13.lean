import Derived.Test.YtmmfnklnmdhkiaaGreatMU12
/- Steps of a ground: the walk through the reference's step, and StepGround in both. -/
namespace Go.Proofs.YtmmfnklnmdhkiaaGreat
open Go.ChangeShapes Go.WideShapes Go.ChangeAt Go.RowKit
set_option linter.unusedVariables false
set_option linter.unusedSimpArgs false
attribute [local irreducible] Calls

set_option maxRecDepth 100000 in
set_option maxHeartbeats 400000 in
theorem l06Stepped_any (g : Gr) (b : Nat) (part : Nat) (hg : g.ok) (hsm : g.small) (w : World) (hb : GAt w b g) :
    Calls Tryz.prog 37 #[.pointer (some ⟨b, 0, none⟩), .float .f32 part] w fun e w' => e = .returned (.tuple #[.agg (stepR g part).cells, .int .i64 (stepC g part)]) ∧ Below w.heap.size w w' := by
  have lb := hb.lt
  have hbal := fun w' h => l01Balances_any g b hg hsm w' h
  obtain ⟨R, hR⟩ : ∃ R, R = (stepR g part).cells := ⟨_, rfl⟩
  obtain ⟨V, hV⟩ : ∃ V, V = stepC g part := ⟨_, rfl⟩
  rw [← hR, ← hV]
  have HRV := Lib.hid (And.intro hR hV)
  clear hR hV
  go_enter Tryz.func37, Tryz.ntmps37
  go_upto_region 1 with (refine wpList_alloc_as rfl rfl zero66z ?_)
  have hS : Blk (w.alloc (.cells zeroG.cells 30)) w.heap.size zeroG.cells 30 := Blk.new _ _ _
  have hb1 := hb.alloc (.cells zeroG.cells 30)
  have hbel := below1 w (.cells zeroG.cells 30)
  generalize w.alloc (.cells zeroG.cells 30) = W at *
  have lS := hS.lt
  go_upto_region 2 with (first | (go_at_call 41; refine (hbal _ hb1).mono ?_; rintro e w1 ⟨ff, rfl, hff, hbel1⟩; have HFF := Lib.hid hff; clear hff) | (refine wpList_alloc_as rfl rfl zero64 ?_) | (refine wpList_store_last rfl rfl rfl rfl rfl (by rw [fls_size]; kernel_rfl) (by rw [fls_size, fls_size]) (List.all_eq_true.2 (fls_one _ _)) ?_))
  have hQ := Blk.new w1 (fls 64 ff).toArray 27
  have hS := (hS.below hbel1 lS).alloc (.cells (fls 64 ff).toArray 27)
  have hb1 := (hb1.below hbel1 hb1.lt).alloc (.cells (fls 64 ff).toArray 27)
  have hbel := hbel.trans (hbel1.mono hbel.size)
  have hbel := hbel.alloc hbel.size (.cells (fls 64 ff).toArray 27)
  have q1 : w.heap.size < w1.heap.size := Nat.lt_of_lt_of_le lS hbel1.size
  clear hbel1 lS hbal
  generalize w1.alloc (.cells (fls 64 ff).toArray 27) = W1 at *
  generalize w1.heap.size = q at *
  cases hok : balsOk g
  · have HOK := Lib.hid hok
    clear hok
    go_wp2_with (first | (refine wpList_zero rfl rfl built66 ?_) | (refine wpList_store_blk rfl rfl rfl rfl row66 hS zeroG.size zeroG.size zeroG.one ?_))
    have e1 : stepIs g part = false := by unfold stepIs; rw [HOK.out]; rfl
    refine bodyPost_row2 rfl rfl row66 (hS.setRow _) zeroG.size rfl ⟨?_, below_setRow hbel (by omega) _⟩
    rw [HRV.out.1, HRV.out.2]; unfold stepR stepC; rw [e1]; rfl
  · have HOK := Lib.hid hok
    have HF2 : Hid (∀ k, k < 64 → cn (ff k) = cn (balF g k)) := Lib.hid (HFF.out hok)
    clear hok HFF
    have lQ := hQ.lt
    have lS := hS.lt
    go_upto_region 5 with (first | (refine wpList_load_gat rfl rfl rfl row66 hb1 ?_) | (refine wpList_alloc_as rfl rfl zero66z ?_) | (refine wpList_store_last rfl rfl rfl rfl rfl (by rw [g.size]; kernel_rfl) (by rw [g.size, zeroG.size]) (List.all_eq_true.2 g.one) ?_))
    have hO := Blk.new W1 g.cells 30
    have hS := hS.alloc (.cells g.cells 30)
    have hQ := hQ.alloc (.cells g.cells 30)
    have hb1 := hb1.alloc (.cells g.cells 30)
    have hbel := hbel.alloc hbel.size (.cells g.cells 30)
    have r1 : q < W1.heap.size := lQ
    generalize W1.alloc (.cells g.cells 30) = W2 at *
    generalize W1.heap.size = r at *
    clear lQ lS
    go_wp2_with fail
    go_loopw [9] (fun i wr => ∃ (j : Nat) (hh : Nat → Nat), j ≤ 64 ∧ i = .int .i64 j ∧ Hid (∀ k, k < 64 → cn (hh k) = cn (if k < j then stepH g part k else g.hea k)) ∧ Blk wr w.heap.size zeroG.cells 30 ∧ Blk wr q (fls 64 ff).toArray 27 ∧ Blk wr r ({ g with hea := hh } : Gr).cells 30 ∧ GAt wr b g ∧ Below w.heap.size w wr) (fun i _ => 64 - (intOf i).toNat)
    case atStart => exact ⟨0, g.hea, by omega, rfl, Lib.hid (fun k hk => by simp), hS, hQ, hO, hb1, hbel⟩
    case round =>
      clear hS hQ hO hbel hb1
      obtain ⟨k, hh, hj, rfl, hhh, hS, hQ, hO, hb, hbel⟩ := hrel
      by_cases hlt : k < 64
      · have bk : (0 : Int) ≤ k := by omega
        have bl : (k : Int) < 64 := by omega
        have his := l01Is_any g b k hg hlt wr hb
        have hfx := l01Fixed_any g b k hg hlt wr hb
        have stay : ∀ (h : stepH g part k = g.hea k), Hid (∀ i, i < 64 → cn (hh i) = cn (if i < k + 1 then stepH g part i else g.hea i)) := fun h => Lib.hid fun i hi => by
          rw [hhh.out i hi]
          by_cases hik : i = k
          · subst hik; simp only [Nat.lt_irrefl, if_false, Nat.lt_succ_self, if_true]; rw [h]
          · simp only [show i < k + 1 ↔ i < k by omega]
        cases hc : isC g k <;> rw [hc] at his
        · have HX := stay (by unfold stepH; rw [hc]; rfl)
          clear hc stay
          go_wp2_with (go_at_call 67; refine his.mono ?_; rintro e w' ⟨rfl, hw⟩; rw [hw]; clear hw w')
          go_roundw
          case rel => exact ⟨k + 1, hh, by omega, by go_num, HX, hS, hQ, hO, hb, hbel⟩
          case measure => simp [intOf]; omega
        · cases hf : isFx g k <;> rw [hf] at hfx
          · have HKM := Lib.hid (And.intro hc hf)
            clear hc hf stay
            have c1 : wr.cell? ⟨b, 130 + k, none⟩ = some (.float .f32 (g.hea k)) := hb.getH k hlt
            have c2 : wr.cell? ⟨q, k, none⟩ = some (.float .f32 (ff k)) := (hQ.cell _).trans (by rw [List.getElem?_toArray, fls_get 64 _ k hlt])
            have c3 : wr.cell? ⟨r, 130 + k, none⟩ = some (.float .f32 (hh k)) := hO.gat.getH k hlt
            have f3 := hO.free (130 + k)
            go_upto_region 9 with (first | (go_at_call 67; refine his.mono ?_; rintro e w' ⟨rfl, hw⟩; rw [hw]; clear hw w') | (go_at_call 78; refine hfx.mono ?_; rintro e w' ⟨rfl, hw⟩; rw [hw]; clear hw w'))
            refine wp_tailL rfl (C := fun w' => ∃ n, w' = wr.drewN n) (R := fun _ _ => True) (F := fun _ dd vv => match dd, vv with
              | 34, vv => vv = .int .i64 k
              | 35, vv => vv = .pointer (some ⟨b, 0, none⟩)
              | 36, vv => vv = .int .i64 k
              | 37, vv => vv = .pointer (some ⟨b, 0, none⟩)
              | 38, vv => vv = .pointer (some ⟨b, 130, none⟩)
              | 39, vv => vv = .pointer (some ⟨b, 130 + k, none⟩)
              | 40, vv => vv = .float .f32 (g.hea k)
              | 41, vv => vv = .float .f32 part
              | 42, vv => vv = .int .i64 k
              | 43, vv => vv = .pointer (some ⟨q, k, none⟩)
              | 44, vv => vv = .float .f32 (ff k)
              | 45, vv => ∃ fb, vv = .float .f32 fb ∧ cn fb = cn (fop .mul part (ff k))
              | 46, vv => ∃ fb, vv = .float .f32 fb ∧ cn fb = cn (fop .add (g.hea k) (fop .mul part (ff k)))
              | 47, vv => vv = .pointer (some ⟨r, 130, none⟩)
              | 48, vv => vv = .pointer (some ⟨r, 130 + k, none⟩)
              | _, _ => True) (fun _ _ _ _ _ h => h) (by kernel_rfl) (by kernel_rfl) rfl rfl (by kernel_rfl) ⟨1, rfl⟩ ?_ ?_
            · refine ⟨step_go rfl fun ev w1 hC kn => ?_, ?_⟩
              · have e1 : ev (.tmp 9) = .int .i64 k := kn.out 9 rfl rfl rfl
                exact good_of (v := .int .i64 k) rfl (by simp [execOp, e1, kn.con, go_sem]) hC trivial rfl
              refine ⟨step_go rfl fun ev w1 hC kn => ?_, ?_⟩
              · have e1 : ev (.tmp 0) = .pointer (some ⟨b, 0, none⟩) := kn.out 0 rfl rfl rfl
                exact good_of (v := .pointer (some ⟨b, 0, none⟩)) rfl (by simp [execOp, e1, kn.con, go_sem]) hC trivial rfl
              refine ⟨step_go rfl fun ev w1 hC kn => ?_, ?_⟩
              · have e1 : ev (.tmp 9) = .int .i64 k := kn.out 9 rfl rfl rfl
                exact good_of (v := .int .i64 k) rfl (by simp [execOp, e1, kn.con, go_sem]) hC trivial rfl
              refine ⟨step_go rfl fun ev w1 hC kn => ?_, ?_⟩
              · have e1 : ev (.tmp 35) = .pointer (some ⟨b, 0, none⟩) := kn.inn 35 rfl rfl
                exact good_of (v := .pointer (some ⟨b, 0, none⟩)) rfl (by simp [execOp, e1, kn.con, go_sem]) hC trivial rfl
              refine ⟨step_go rfl fun ev w1 hC kn => ?_, ?_⟩
              · have e1 : ev (.tmp 37) = .pointer (some ⟨b, 0, none⟩) := kn.inn 37 rfl rfl
                exact good_of (v := .pointer (some ⟨b, 130, none⟩)) rfl (by simp only [execOp, e1]; rfl) hC trivial rfl
              refine ⟨step_go rfl fun ev w1 hC kn => ?_, ?_⟩
              · have e1 : ev (.tmp 38) = .pointer (some ⟨b, 130, none⟩) := kn.inn 38 rfl rfl
                have e2 : ev (.tmp 36) = .int .i64 k := kn.inn 36 rfl rfl
                exact good_of (v := .pointer (some ⟨b, 130 + k, none⟩)) rfl (by simp [execOp, e1, e2, kn.con, go_sem, bl]) hC trivial rfl
              refine ⟨step_go rfl fun ev w1 hC kn => ?_, ?_⟩
              · have e1 : ev (.tmp 39) = .pointer (some ⟨b, 130 + k, none⟩) := kn.inn 39 rfl rfl
                obtain ⟨nn, rfl⟩ := hC
                exact good_of (v := .float .f32 (g.hea k)) rfl (by simp [execOp, e1, go_sem, c1]) ⟨nn, rfl⟩ trivial rfl
              refine ⟨step_go rfl fun ev w1 hC kn => ?_, ?_⟩
              · have e1 : ev (.tmp 1) = .float .f32 part := kn.out 1 rfl rfl rfl
                exact good_of (v := .float .f32 part) rfl (by simp [execOp, e1, kn.con, go_sem]) hC trivial rfl
              refine ⟨step_go rfl fun ev w1 hC kn => ?_, ?_⟩
              · have e1 : ev (.tmp 9) = .int .i64 k := kn.out 9 rfl rfl rfl
                exact good_of (v := .int .i64 k) rfl (by simp [execOp, e1, kn.con, go_sem]) hC trivial rfl
              refine ⟨step_go rfl fun ev w1 hC kn => ?_, ?_⟩
              · have e1 : ev (.tmp 6) = .pointer (some ⟨q, 0, none⟩) := kn.out 6 rfl rfl rfl
                have e2 : ev (.tmp 42) = .int .i64 k := kn.inn 42 rfl rfl
                exact good_of (v := .pointer (some ⟨q, k, none⟩)) rfl (by simp [execOp, e1, e2, kn.con, go_sem, bl]) hC trivial rfl
              refine ⟨step_go rfl fun ev w1 hC kn => ?_, ?_⟩
              · have e1 : ev (.tmp 43) = .pointer (some ⟨q, k, none⟩) := kn.inn 43 rfl rfl
                obtain ⟨nn, rfl⟩ := hC
                exact good_of (v := .float .f32 (ff k)) rfl (by simp [execOp, e1, go_sem, c2]) ⟨nn, rfl⟩ trivial rfl
              refine ⟨step_go rfl fun ev w1 hC kn => ?_, ?_⟩
              · have e1 : ev (.tmp 41) = .float .f32 part := kn.inn 41 rfl rfl
                have e2 : ev (.tmp 44) = .float .f32 (ff k) := kn.inn 44 rfl rfl
                obtain ⟨nn, rfl⟩ := hC
                exact good_of (v := .float .f32 (fres .mul part (ff k) (wr.drewN nn))) (w' := wr.drewN (nn + fcnt .mul part (ff k))) rfl (by simp [execOp, e1, e2, kn.con, run_fmul, go_sem]) ⟨_, rfl⟩ trivial ⟨_, rfl, by rw [cn_res, fop_eq rfl rfl, cn_fop]⟩
              refine ⟨step_go rfl fun ev w1 hC kn => ?_, ?_⟩
              · have e1 : ev (.tmp 40) = .float .f32 (g.hea k) := kn.inn 40 rfl rfl
                obtain ⟨b2, e2, h2⟩ : ∃ fb, ev (.tmp 45) = .float .f32 fb ∧ cn fb = cn (fop .mul part (ff k)) := kn.inn 45 rfl rfl
                obtain ⟨nn, rfl⟩ := hC
                exact good_of (v := .float .f32 (fres .add (g.hea k) b2 (wr.drewN nn))) (w' := wr.drewN (nn + fcnt .add (g.hea k) b2)) rfl (by simp [execOp, e1, e2, kn.con, run_fadd, go_sem]) ⟨_, rfl⟩ trivial ⟨_, rfl, by rw [cn_res, fop_eq rfl h2, cn_fop]⟩
              refine ⟨step_go rfl fun ev w1 hC kn => ?_, ?_⟩
              · have e1 : ev (.tmp 8) = .pointer (some ⟨r, 0, none⟩) := kn.out 8 rfl rfl rfl
                exact good_of (v := .pointer (some ⟨r, 130, none⟩)) rfl (by simp only [execOp, e1]; rfl) hC trivial rfl
              refine ⟨step_go rfl fun ev w1 hC kn => ?_, ?_⟩
              · have e1 : ev (.tmp 47) = .pointer (some ⟨r, 130, none⟩) := kn.inn 47 rfl rfl
                have e2 : ev (.tmp 34) = .int .i64 k := kn.inn 34 rfl rfl
                exact good_of (v := .pointer (some ⟨r, 130 + k, none⟩)) rfl (by simp [execOp, e1, e2, kn.con, go_sem, bl]) hC trivial rfl
              exact trivial
            rintro x w1 hx hC
            obtain ⟨b46, y46, g46⟩ : ∃ fb, x 46 = .float .f32 fb ∧ cn fb = cn (fop .add (g.hea k) (fop .mul part (ff k))) := hx 46 (by decide)
            have y48 : x 48 = .pointer (some ⟨r, 130 + k, none⟩) := hx 48 (by decide)
            obtain ⟨n, rfl⟩ := hC
            simp only [fill, dstsOf, List.filterMap_cons, List.filterMap_nil, List.foldl_cons, List.foldl_nil, List.set_cons_succ, List.set_cons_zero, y46, y48]
            clear hx y46 y48
            refine ⟨(wr.drewN n).setCell ⟨r, 130 + k, none⟩ (.float .f32 b46), by simp [execOp, Act.eval, go_sem, c3, f3], ?_⟩
            go_wp2_with fail
            go_roundw
            case rel =>
              refine ⟨k + 1, upd hh k b46, by omega, by go_num, Lib.hid fun i hi => ?_, (hS.drewN n).setOther (a := ⟨r, 130 + k, none⟩) _ (by show w.heap.size ≠ r; omega), (hQ.drewN n).setOther (a := ⟨r, 130 + k, none⟩) _ (by show q ≠ r; omega), ?_, (hb.drewN n).move (heap_setCell_other _ ⟨r, 130 + k, none⟩ b _ (by show b ≠ r; omega)), (below_drewN hbel n).setCell (p := ⟨r, 130 + k, none⟩) (by show w.heap.size ≤ r; omega) _⟩
              · unfold Go.Proofs.YtmmfnklnmdhkiaaGreat.upd
                by_cases hik : i = k
                · subst hik
                  simp only [if_true, Nat.lt_succ_self]
                  rw [g46]
                  have h2 := HF2.out i hi
                  unfold balF at h2
                  rw [HKM.out.1] at h2
                  simp only [if_true] at h2
                  unfold stepH
                  rw [HKM.out.1, HKM.out.2]
                  simp only [Bool.not_false, Bool.and_self, if_true]
                  rw [fop_eq (op := .add) rfl (congrArg cn (fop_eq (op := .mul) rfl h2))]
                · simp only [hik, if_false, show i < k + 1 ↔ i < k by omega]; exact hhh.out i hi
              · have := (hO.drewN n).setCell (130 + k) (.float .f32 b46)
                rw [Gr.setH _ _ _ hlt] at this
                exact this
            case measure => simp [intOf]; omega
          · have HX := stay (by unfold stepH; rw [hf, Bool.not_true, Bool.and_false]; rfl)
            clear hc hf stay
            go_wp2_with (first | (go_at_call 67; refine his.mono ?_; rintro e w' ⟨rfl, hw⟩; rw [hw]; clear hw w') | (go_at_call 78; refine hfx.mono ?_; rintro e w' ⟨rfl, hw⟩; rw [hw]; clear hw w'))
            go_roundw
            case rel => exact ⟨k + 1, hh, by omega, by go_num, HX, hS, hQ, hO, hb, hbel⟩
            case measure => simp [intOf]; omega
      · obtain rfl : k = 64 := by omega
        have hst := stepIs_of (g := g) (part := part) (hh := hh) HOK.out (fun k hk => by rw [hhh.out k hk, if_pos hk])
        have hvg := l01Ok_any ({ g with hea := hh } : Gr) r ⟨hg.wide, hg.high, hg.fix⟩ wr hO.gat
        rw [hst.1] at hvg
        have HE := Lib.hid hst.2
        clear hst
        cases hs : stepIs g part <;> rw [hs] at hvg
        · have HS := Lib.hid hs
          clear hs
          go_wp2_with (first | (go_at_call 39; refine hvg.mono ?_; rintro e w4 ⟨rfl, m4, rfl⟩) | (refine wpList_zero rfl rfl built66 ?_) | (refine wpList_store_blk rfl rfl rfl rfl row66 (hS.drewN _) zeroG.size zeroG.size zeroG.one ?_))
          refine bodyPost_row2 rfl rfl row66 ((hS.drewN _).setRow _) zeroG.size rfl ⟨?_, below_setRow (below_drewN hbel _) (by omega) _⟩
          rw [HRV.out.1, HRV.out.2]; unfold stepR stepC; rw [HS.out]; rfl
        · have HS := Lib.hid hs
          clear hs
          go_wp2_with (first | (go_at_call 39; refine hvg.mono ?_; rintro e w4 ⟨rfl, m4, rfl⟩) | (refine wpList_load_blk rfl rfl rfl row66 (hO.drewN _) (Gr.size _) ?_) | (refine wpList_store_blk rfl rfl rfl rfl row66 (hS.drewN _) zeroG.size (Gr.size _) (Gr.one _) ?_))
          refine bodyPost_row2 rfl rfl row66 ((hS.drewN _).setRow _) (Gr.size _) rfl ⟨?_, below_setRow (below_drewN hbel _) (by omega) _⟩
          rw [HRV.out.1, HRV.out.2]; unfold stepR stepC; rw [HS.out]
          have hv : validG (stepG g part) = true := by have := HS.out; unfold stepIs at this; exact (Bool.and_eq_true_iff.1 this).2
          rw [HE.out.cells hv]; rfl

/-- May these be a ground and a part? -/
def askOk (g : Gr) (part : Nat) : Bool := validG g && plain part
def stepGR (g : Gr) (part : Nat) : Gr := if askOk g part then stepR g part else zeroG
def stepGC (g : Gr) (part : Nat) : Int := if askOk g part then stepC g part else 1

set_option maxRecDepth 100000 in
set_option maxHeartbeats 400000 in
theorem l06Asked_any (g : Gr) (b : Nat) (part : Nat) (hg : g.ok) (w : World) (hb : GAt w b g) :
    Calls Tryz.prog 36 #[.pointer (some ⟨b, 0, none⟩), .float .f32 part] w fun e w' => e = .returned (.int .i64 (if askOk g part then 0 else 1)) ∧ ∃ n, w' = w.drewN n := by
  have hok := l01Ok_any g b hg w hb
  have hpl := fun w' => l01Plain_any part w'
  unfold askOk
  cases h1 : validG g <;> rw [h1] at hok
  · go_enter Tryz.func36, Tryz.ntmps36
    go_wp2_with (go_at_call 39; refine hok.mono ?_; rintro e w4 ⟨rfl, m4, rfl⟩)
    go_ret
    exact ⟨rfl, _, rfl⟩
  · cases h2 : plain part <;> rw [h2] at hpl
    · go_enter Tryz.func36, Tryz.ntmps36
      go_wp2_with (first | (go_at_call 39; refine hok.mono ?_; rintro e w4 ⟨rfl, m4, rfl⟩) | (go_at_call 47; refine (hpl _).mono ?_; rintro e w' ⟨rfl, hw⟩; rw [hw]; clear hw w'))
      go_ret
      exact ⟨rfl, _, rfl⟩
    · go_enter Tryz.func36, Tryz.ntmps36
      go_wp2_with (first | (go_at_call 39; refine hok.mono ?_; rintro e w4 ⟨rfl, m4, rfl⟩) | (go_at_call 47; refine (hpl _).mono ?_; rintro e w' ⟨rfl, hw⟩; rw [hw]; clear hw w'))
      go_ret
      exact ⟨rfl, _, rfl⟩

set_option maxRecDepth 100000 in
set_option maxHeartbeats 400000 in
theorem specStepGround_any (g : Gr) (part : Nat) (hg : g.ok) (w : World) :
    Calls Tryz.prog 8 #[.agg g.cells, .float .f32 part] w fun e w' => e = .returned (.tuple #[.agg (stepGR g part).cells, .int .i64 (stepGC g part)]) ∧ Below w.heap.size w w' := by
  have hask := fun w' b h => l06Asked_any g b part hg w' h
  have hst := fun hsm w' b h => l06Stepped_any g b part hg hsm w' h
  obtain ⟨R, hR⟩ : ∃ R, R = (stepGR g part).cells := ⟨_, rfl⟩
  obtain ⟨V, hV⟩ : ∃ V, V = stepGC g part := ⟨_, rfl⟩
  rw [← hR, ← hV]
  unfold stepGR at hR
  unfold stepGC at hV
  go_enter Tryz.func8, Tryz.ntmps8
  go_upto_region 1 with (first | (refine wpList_box_as rfl rfl rfl ?_) | (refine wpList_alloc_as rfl rfl zero66z ?_))
  have hA : Blk ((w.alloc (.cells g.cells 30)).alloc (.cells zeroG.cells 30)) w.heap.size g.cells 30 := (Blk.new _ _ _).alloc _
  have hS : Blk ((w.alloc (.cells g.cells 30)).alloc (.cells zeroG.cells 30)) (w.heap.size + 1) zeroG.cells 30 := Blk.new1 _ _ _ _
  have hbel := below2 w (.cells g.cells 30) (.cells zeroG.cells 30)
  generalize ((w.alloc (.cells g.cells 30)).alloc (.cells zeroG.cells 30)) = W at *
  cases ha : askOk g part
  · rw [ha] at hask hR hV
    have HRV := Lib.hid (And.intro hR hV)
    clear hR hV ha
    go_wp2_with (first | (go_at_call 36; refine (hask _ _ hA.gat).mono ?_; rintro e w4 ⟨rfl, m4, rfl⟩) | (refine wpList_zero rfl rfl built66 ?_) | (refine wpList_store_blk rfl rfl rfl rfl row66 (hS.drewN _) zeroG.size zeroG.size zeroG.one ?_))
    refine bodyPost_row2 rfl rfl row66 ((hS.drewN _).setRow _) zeroG.size rfl ⟨?_, below_setRow (below_drewN hbel _) (by omega) _⟩
    rw [HRV.out.1, HRV.out.2]; rfl
  · rw [ha] at hask hR hV
    have hsm := validG_small (g := g) (by unfold askOk at ha; exact (Bool.and_eq_true_iff.1 ha).1)
    have HRV := Lib.hid (And.intro hR hV)
    clear hR hV ha
    have hst := hst hsm
    have lS := hS.lt
    go_wp2_with (first | (go_at_call 36; refine (hask _ _ hA.gat).mono ?_; rintro e w4 ⟨rfl, m4, rfl⟩) | (go_at_call 37; refine (hst _ _ (hA.drewN _).gat).mono ?_; rintro e w5 ⟨rfl, hb5⟩; have hS5 := (hS.drewN m4).below hb5 lS) | (refine wpList_store_blk rfl rfl rfl rfl row66 hS5 zeroG.size (Gr.size _) (Gr.one _) ?_))
    refine bodyPost_row2 rfl rfl row66 (hS5.setRow _) (Gr.size _) rfl ⟨?_, below_setRow ((below_drewN hbel _).trans (hb5.mono (below_drewN hbel _).size)) (by omega) _⟩
    rw [HRV.out.1, HRV.out.2]; rfl

set_option maxRecDepth 100000 in
set_option maxHeartbeats 400000 in
theorem stepGround_any (g : Gr) (part : Nat) (hg : g.ok) (w : World) :
    Calls Tryz.prog 7 #[.agg g.cells, .float .f32 part] w fun e w' => e = .returned (.tuple #[.agg (stepGR g part).cells, .int .i64 (stepGC g part)]) ∧ Below w.heap.size w w' := by
  have hvg := fun w' => validGround_any g hg w'
  have hpl := fun w' => isPlain_any part w'
  have hst := fun hsm w' b h => stepped_any g b part hg hsm w' h
  obtain ⟨R, hR⟩ : ∃ R, R = (stepGR g part).cells := ⟨_, rfl⟩
  obtain ⟨V, hV⟩ : ∃ V, V = stepGC g part := ⟨_, rfl⟩
  rw [← hR, ← hV]
  unfold stepGR askOk at hR
  unfold stepGC askOk at hV
  go_enter Tryz.func7, Tryz.ntmps7
  go_upto_region 1 with (first | (refine wpList_box_as rfl rfl rfl ?_) | (refine wpList_alloc_as rfl rfl zero66z ?_))
  have hA : Blk ((w.alloc (.cells g.cells 30)).alloc (.cells zeroG.cells 30)) w.heap.size g.cells 30 := (Blk.new _ _ _).alloc _
  have hS : Blk ((w.alloc (.cells g.cells 30)).alloc (.cells zeroG.cells 30)) (w.heap.size + 1) zeroG.cells 30 := Blk.new1 _ _ _ _
  have hbel := below2 w (.cells g.cells 30) (.cells zeroG.cells 30)
  generalize ((w.alloc (.cells g.cells 30)).alloc (.cells zeroG.cells 30)) = W at *
  have lS := hS.lt
  have lA := hA.lt
  cases h1 : validG g
  · rw [h1] at hvg hR hV
    have HRV := Lib.hid (And.intro hR hV)
    clear hR hV h1
    go_wp2_with (first | (refine wpList_load_blk rfl rfl rfl row66 hA g.size ?_) | (go_at_call 33; refine (hvg _).mono ?_; rintro e w4 ⟨rfl, hb4⟩; have hS4 := hS.below hb4 lS) | (refine wpList_zero rfl rfl built66 ?_) | (refine wpList_store_blk rfl rfl rfl rfl row66 hS4 zeroG.size zeroG.size zeroG.one ?_))
    refine bodyPost_row2 rfl rfl row66 (hS4.setRow _) zeroG.size rfl ⟨?_, below_setRow (hbel.trans (hb4.mono hbel.size)) (by omega) _⟩
    rw [HRV.out.1, HRV.out.2]; rfl
  · have hsm := validG_small h1
    rw [h1] at hvg hR hV
    clear h1
    cases h2 : plain part
    · rw [h2] at hpl hR hV
      have HRV := Lib.hid (And.intro hR hV)
      clear hR hV h2
      go_wp2_with (first | (refine wpList_load_blk rfl rfl rfl row66 hA g.size ?_) | (go_at_call 33; refine (hvg _).mono ?_; rintro e w4 ⟨rfl, hb4⟩; have hS4 := hS.below hb4 lS) | (go_at_call 34; refine (hpl _).mono ?_; rintro e w' ⟨rfl, hw⟩; rw [hw]; clear hw w') | (refine wpList_zero rfl rfl built66 ?_) | (refine wpList_store_blk rfl rfl rfl rfl row66 hS4 zeroG.size zeroG.size zeroG.one ?_))
      refine bodyPost_row2 rfl rfl row66 (hS4.setRow _) zeroG.size rfl ⟨?_, below_setRow (hbel.trans (hb4.mono hbel.size)) (by omega) _⟩
      rw [HRV.out.1, HRV.out.2]; rfl
    · rw [h2] at hpl hR hV
      have HRV := Lib.hid (And.intro hR hV)
      clear hR hV h2
      have hst := hst hsm
      go_wp2_with (first | (refine wpList_load_blk rfl rfl rfl row66 hA g.size ?_) | (go_at_call 33; refine (hvg _).mono ?_; rintro e w4 ⟨rfl, hb4⟩; have hS4 := hS.below hb4 lS; have hA4 := hA.below hb4 lA; have lS4 := hS4.lt) | (go_at_call 34; refine (hpl _).mono ?_; rintro e w' ⟨rfl, hw⟩; rw [hw]; clear hw w') | (go_at_call 35; refine (hst _ _ hA4.gat).mono ?_; rintro e w5 ⟨rfl, hb5⟩; have hS5 := hS4.below hb5 lS4) | (refine wpList_store_blk rfl rfl rfl rfl row66 hS5 zeroG.size (Gr.size _) (Gr.one _) ?_))
      have hbel4 := hbel.trans (hb4.mono hbel.size)
      refine bodyPost_row2 rfl rfl row66 (hS5.setRow _) (Gr.size _) rfl ⟨?_, below_setRow (hbel4.trans (hb5.mono hbel4.size)) (by omega) _⟩
      rw [HRV.out.1, HRV.out.2]; rfl
end Go.Proofs.YtmmfnklnmdhkiaaGreat
