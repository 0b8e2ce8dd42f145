/- ReadWells, in the program: the walk, continued. -/
import Derived.Test.YtcojgmgoiopboaaGreatDoorRdWlI
namespace Go.Proofs.YtcojgmgoiopboaaGreatDoor
open Go.ChangeShapes Go.WideShapes Go.ChangeAt Go.RowKit
set_option linter.unusedVariables false
set_option linter.unusedSimpArgs false
attribute [local irreducible] Calls

theorem rows_ofW {w0 W : World} {l : List UInt8} {v : Value} {ok : Bool} (h : LinesRet w0 l 3 12 W v ok) :
    ∃ a n cap, v = .slice a n cap ∧ n ≤ 12 ∧ n ≤ cap ∧ ((goodTo l 3 12 (linesL l).length ∧ ok = true ∧ n = (linesL l).length) ∨ (¬ goodTo l 3 12 (linesL l).length ∧ ok = false ∧ n = 0)) ∧ (n = 0 ∨ ∃ g, a = some ⟨g, 0, none⟩ ∧ g < W.heap.size ∧ ∀ j, j < n → RowAt w0.heap.size W g j (lineWs ((linesL l).getD j []))) := by
  rcases h with ⟨hg, hok, g, vs, hg1, hO, hr⟩ | ⟨hg, hok, rfl⟩
  · obtain ⟨cap, rfl, hc1, hc2⟩ := hO.form
    refine ⟨_, _, _, rfl, hg.1, hc1, .inl ⟨hg, hok, rfl⟩, .inr ⟨g, rfl, hO.lt, fun j hj => ?_⟩⟩
    obtain ⟨b, u, h1, h2, h3⟩ := hr j hj
    have h3n := hg.2 j hj
    rw [h3n] at h3
    obtain ⟨cap3, rfl, hc3, hc4⟩ := h3.form
    have hget := fun i (hi : i < 3) => (h3.cell i (by omega)).trans (strs_getD (L := lineWs ((linesL l).getD j [])) (i := i) (by omega))
    exact ⟨b, cap3, (hO.cell j (by omega)).trans h1, hc3, h3.lt, hget 0 (by omega), hget 1 (by omega), hget 2 (by omega)⟩
  · exact ⟨none, 0, 0, rfl, by omega, by omega, .inr ⟨hg, hok, rfl⟩, .inl rfl⟩
set_option maxRecDepth 100000 in
set_option maxHeartbeats 4000000 in
theorem readWellsI_any (s : ByteArray) (hs : s.size ≤ 1048576) (w : World) (hV : NumVars w) (htab : Lib.TabIs Tryz.prog w "internal/strconv.uint64pow10" .u64 Lib.pow10Tab) (m : Int) (hm : w.cell? ⟨1, 0, none⟩ = some (.int .i64 m)) :
    Calls Tryz.prog 6 #[.string s] w fun e w' => ∃ v, e = .returned (.tuple #[v, .int .i64 (wlC s.data.toList)]) ∧ ∃ r, w.heap.size ≤ r ∧ ResW w' r v (wlM s.data.toList) (rdL s.data.toList) ∧ Below w.heap.size w w' := by
  have hlw : Calls Tryz.prog 15 #[.string s, .int .i64 3, .int .i64 12] w fun e w' => ∃ v ok, e = .returned (.tuple #[v, .bool ok]) ∧ Below w.heap.size w w' ∧ LinesRet w s.data.toList 3 12 w' v ok := lineWords_any s hs 3 12 (by decide) (by decide) w m hm
  have hst : (⟨s.data.toList.toArray⟩ : ByteArray) = s := rfl
  have hll : s.data.toList.length = s.size := rfl
  have HST := Lib.hid hst
  have HV := Lib.hid hV
  have HT := Lib.hid htab
  clear hst hV htab
  generalize s.data.toList = l at *
  have hll2 : l.length ≤ 1048576 := by omega
  have HG := Lib.hid (goodWl_I l)
  have HS := Lib.hid (fun h : goodWl l => goodWl_same h)
  go_enter Tryz.func6, Tryz.ntmps6
  go_upto_region 2 with (go_at_call 15; refine hlw.mono ?_; rintro e wa ⟨v4, ok, rfl, hb1, hret⟩)
  clear hlw hm
  obtain ⟨a4, n, cap4, rfl, hn12, hnc, hcase, hrows⟩ := rows_ofW hret
  clear hret
  have HR := Lib.hid hrows
  have HC := Lib.hid hcase
  clear hrows hcase
  go_upto_region 3 with fail
  have hO : Own (wa.alloc (.cells #[] 41)) wa.heap.size 41 3 (.slice (some ⟨wa.heap.size, 0, none⟩) 0 0) 0 (wls 0 (wlI l)) := by rw [wls_zero]; exact own_blk (Blk.new _ _ _) rfl (by decide) rfl
  have hbel := below1 wa (.cells #[] 41)
  have hz := hb1.size
  generalize wa.alloc (.cells #[] 41) = W at *
  go_upto_region 4 with fail
  go_loopw [6, 19] (fun vl vi wr => ∃ (k : Nat), vi = .int .i64 k ∧ k ≤ n ∧ Below wa.heap.size wa wr ∧ ∃ g, Own wr g 41 3 vl k (wls k (wlI l)) ∧ wa.heap.size ≤ g) (fun _ vi _ => n - (intOf vi).toNat)
  case atStart => exact ⟨0, rfl, by omega, hbel, _, hO, Nat.le_refl _⟩
  case round =>
    clear hO hbel
    obtain ⟨k, rfl, hk, hbel, g, hO, hg⟩ := hrel
    have bk : (0 : Int) ≤ k := by omega
    have hzr := hbel.size
    obtain ⟨cap, rfl, hcp1, hcp2⟩ := hO.form
    have hbw := hb1.trans (hbel.mono hz)
    by_cases hlt : k < n
    · have bl : (k : Int) < n := by omega
      obtain ⟨g4, rfl, l_g4, hrow⟩ := HR.out.resolve_left (by omega)
      obtain ⟨b, capb, r0, hcb, l_b0, r1, r2, r3⟩ := hrow k hlt
      have q0 := (hbel.cell (p := ⟨g4, k, none⟩) l_g4).trans r0
      have c0 := (hbel.cell (p := ⟨b, 0, none⟩) l_b0).trans r1
      have c1' := (hbel.cell (p := ⟨b, 1, none⟩) l_b0).trans r2
      have c2 := (hbel.cell (p := ⟨b, 2, none⟩) l_b0).trans r3
      have l_b : b < wr.heap.size := by omega
      clear r0 r1 r2 r3 hrow
      have hVr := HV.out.below hbw
      have hnr := readNumberI_any ⟨((lineWs ((linesL l).getD k [])).getD 2 []).toArray⟩ (by rw [size_of]; exact Nat.le_trans (lineWs_le l k 2) hll2) wr hVr
      have hn0 := fun w' (hb' : Below wr.heap.size wr w') => numberOf_any ⟨((lineWs ((linesL l).getD k [])).getD 0 []).toArray⟩ (by rw [size_of]; exact Nat.le_trans (lineWs_le l k 0) hll2) (-100) 100 w' (show ParseVars w' from ⟨(hVr.below hb').1, (hVr.below hb').2.1⟩)
      have hn1 := fun w' (hb' : Below wr.heap.size wr w') => numberOf_any ⟨((lineWs ((linesL l).getD k [])).getD 1 []).toArray⟩ (by rw [size_of]; exact Nat.le_trans (lineWs_le l k 1) hll2) (-100) 100 w' (show ParseVars w' from ⟨(hVr.below hb').1, (hVr.below hb').2.1⟩)
      rw [show (⟨((lineWs ((linesL l).getD k [])).getD 0 []).toArray⟩ : ByteArray).data.toList = (lineWs ((linesL l).getD k [])).getD 0 [] by simp] at hn0
      rw [show (⟨((lineWs ((linesL l).getD k [])).getD 1 []).toArray⟩ : ByteArray).data.toList = (lineWs ((linesL l).getD k [])).getD 1 [] by simp] at hn1
      rw [show (⟨((lineWs ((linesL l).getD k [])).getD 2 []).toArray⟩ : ByteArray).data.toList = (lineWs ((linesL l).getD k [])).getD 2 [] by simp] at hnr
      have hin := wlI_in l k
      have hcl : (wlI l k).cells = #[.int .i8 (wlI l k).px, .int .i8 (wlI l k).py, .float .f32 (wlI l k).rt] := Wl.cells_eq _
      have ho : (wlI l k).px = numZ (-100) 100 ((lineWs ((linesL l).getD k [])).getD 0 []) := rfl
      have hce : (wlI l k).py = numZ (-100) 100 ((lineWs ((linesL l).getD k [])).getD 1 []) := rfl
      have hra : (wlI l k).rt = numB ((lineWs ((linesL l).getD k [])).getD 2 []) := rfl
      rw [ho, hce, hra] at hcl
      rw [ho, hce, hra] at hin
      have HCL := Lib.hid hcl
      clear hcl ho hce hra hVr
      generalize (lineWs ((linesL l).getD k [])).getD 0 [] = s0 at *
      generalize (lineWs ((linesL l).getD k [])).getD 1 [] = s1 at *
      generalize (lineWs ((linesL l).getD k [])).getD 2 [] = s2 at *
      generalize numZ (-100) 100 s0 = x0 at *
      generalize numZ (-100) 100 s1 = x1 at *
      generalize numB s2 = r at *
      generalize numC s2 = cd at *
      obtain ⟨i1, i2, i3⟩ := hin
      clear i3
      have z0 : IntKind.i8.wrap x0 = x0 := wrap8s _ (by omega)
      have z1 : IntKind.i8.wrap x1 = x1 := wrap8s _ (by omega)
      go_upto_region 7 with (go_at_call 16; refine hnr.mono ?_; rintro e wn ⟨rfl, hbn⟩)
      have c0 := (hbn.cell (p := ⟨b, 0, none⟩) l_b).trans c0
      have c1' := (hbn.cell (p := ⟨b, 1, none⟩) l_b).trans c1'
      have hn0 := fun w' (hb' : Below wn.heap.size wn w') => hn0 w' (hbn.trans (hb'.mono hbn.size))
      have hn1 := fun w' (hb' : Below wn.heap.size wn w') => hn1 w' (hbn.trans (hb'.mono hbn.size))
      have hO := hO.below hbn hO.lt
      have hbel := hbel.trans (hbn.mono hzr)
      have hzn := hbel.size
      have l_b : b < wn.heap.size := by have := hbn.size; omega
      clear hnr hbw q0 c2 hbn
      refine wp_splitK 14 (C := fun w' => Below wn.heap.size wn w') (R := fun w w' => Below w.heap.size w w') (F := fun ww dd vv => match dd, vv with
        | 30, vv => vv = .slice (some ⟨g, 0, none⟩) k cap
        | 31, vv => vv = .slice (some ⟨b, 0, none⟩) 3 capb
        | 32, vv => vv = .pointer (some ⟨b, 0, none⟩)
        | 33, vv => vv = .string ⟨(s0).toArray⟩
        | 34, vv => vv = .int .i64 x0
        | 35, vv => vv = .int .i8 x0
        | 36, vv => vv = .slice (some ⟨b, 0, none⟩) 3 capb
        | 37, vv => vv = .pointer (some ⟨b, 1, none⟩)
        | 38, vv => vv = .string ⟨(s1).toArray⟩
        | 39, vv => vv = .int .i64 x1
        | 40, vv => vv = .int .i8 x1
        | 41, vv => vv = .float .f32 r
        | 42, vv => vv = .agg (#[.int .i8 x0, .int .i8 x1, .float .f32 r])
        | 43, vv => ∃ q, wn.heap.size ≤ q ∧ vv = .slice (some ⟨q, 0, none⟩) 1 1 ∧ Blk ww q #[.int .i8 x0, .int .i8 x1, .float .f32 r] 41
        | _, _ => True) (fun wa wb d v hRR => by split <;> intro hFF <;> first | exact hFF | (obtain ⟨q, h1, h2, h3⟩ := hFF; exact ⟨q, h1, h2, h3.below hRR h3.lt⟩)) (by kernel_rfl) (by kernel_rfl) (by kernel_rfl) (Below.refl _ _).drew ?_ ?_
      · refine ⟨step_go rfl fun ev w1 hC kn => ?_, ?_⟩
        · have e1 : ev (.tmp 6) = .slice (some ⟨g, 0, none⟩) k cap := kn.out 6 rfl rfl rfl
          exact good_of (v := .slice (some ⟨g, 0, none⟩) k cap) rfl (by simp [execOp, e1, kn.con, go_sem]) hC (Below.refl _ _) rfl
        refine ⟨step_go rfl fun ev w1 hC kn => ?_, ?_⟩
        · have e1 : ev (.tmp 8) = .slice (some ⟨b, 0, none⟩) 3 capb := kn.out 8 rfl rfl rfl
          exact good_of (v := .slice (some ⟨b, 0, none⟩) 3 capb) rfl (by simp [execOp, e1, kn.con, go_sem]) hC (Below.refl _ _) rfl
        refine ⟨step_go rfl fun ev w1 hC kn => ?_, ?_⟩
        · have e1 : ev (.tmp 31) = .slice (some ⟨b, 0, none⟩) 3 capb := kn.inn 31 rfl rfl
          exact good_of (v := .pointer (some ⟨b, 0, none⟩)) rfl (by simp [execOp, e1, kn.con, go_sem]) hC (Below.refl _ _) rfl
        refine ⟨step_go rfl fun ev w1 hC kn => ?_, ?_⟩
        · have e1 : ev (.tmp 32) = .pointer (some ⟨b, 0, none⟩) := kn.inn 32 rfl rfl
          have c1 := (hC.cell (p := ⟨b, 0, none⟩) l_b).trans c0
          exact good_of (v := .string ⟨(s0).toArray⟩) rfl (by simp [execOp, e1, go_sem, c1]) hC (Below.refl _ _) rfl
        refine ⟨step_go rfl fun ev w1 hC kn => ?_, ?_⟩
        · have e1 : ev (.tmp 33) = .string ⟨(s0).toArray⟩ := kn.inn 33 rfl rfl
          refine good_call (f := 17) (args := #[.string ⟨(s0).toArray⟩, .int .i64 (-100), .int .i64 100]) rfl (by simp [execOp, e1, kn.fn, kn.con, go_sem]) ((hn0 w1 hC).mono fun e w2 ⟨he, hb⟩ => ⟨_, he, hC.trans (hb.mono hC.size), hb, rfl⟩)
        refine ⟨step_go rfl fun ev w1 hC kn => ?_, ?_⟩
        · have e1 : ev (.tmp 34) = .int .i64 x0 := kn.inn 34 rfl rfl
          exact good_of (v := .int .i8 x0) rfl (by simp [execOp, e1, go_sem, z0]) hC (Below.refl _ _) rfl
        refine ⟨step_go rfl fun ev w1 hC kn => ?_, ?_⟩
        · have e1 : ev (.tmp 8) = .slice (some ⟨b, 0, none⟩) 3 capb := kn.out 8 rfl rfl rfl
          exact good_of (v := .slice (some ⟨b, 0, none⟩) 3 capb) rfl (by simp [execOp, e1, kn.con, go_sem]) hC (Below.refl _ _) rfl
        refine ⟨step_go rfl fun ev w1 hC kn => ?_, ?_⟩
        · have e1 : ev (.tmp 36) = .slice (some ⟨b, 0, none⟩) 3 capb := kn.inn 36 rfl rfl
          exact good_of (v := .pointer (some ⟨b, 1, none⟩)) rfl (by simp [execOp, e1, kn.con, go_sem]) hC (Below.refl _ _) rfl
        refine ⟨step_go rfl fun ev w1 hC kn => ?_, ?_⟩
        · have e1 : ev (.tmp 37) = .pointer (some ⟨b, 1, none⟩) := kn.inn 37 rfl rfl
          have c1 := (hC.cell (p := ⟨b, 1, none⟩) l_b).trans c1'
          exact good_of (v := .string ⟨(s1).toArray⟩) rfl (by simp [execOp, e1, go_sem, c1]) hC (Below.refl _ _) rfl
        refine ⟨step_go rfl fun ev w1 hC kn => ?_, ?_⟩
        · have e1 : ev (.tmp 38) = .string ⟨(s1).toArray⟩ := kn.inn 38 rfl rfl
          refine good_call (f := 17) (args := #[.string ⟨(s1).toArray⟩, .int .i64 (-100), .int .i64 100]) rfl (by simp [execOp, e1, kn.fn, kn.con, go_sem]) ((hn1 w1 hC).mono fun e w2 ⟨he, hb⟩ => ⟨_, he, hC.trans (hb.mono hC.size), hb, rfl⟩)
        refine ⟨step_go rfl fun ev w1 hC kn => ?_, ?_⟩
        · have e1 : ev (.tmp 39) = .int .i64 x1 := kn.inn 39 rfl rfl
          exact good_of (v := .int .i8 x1) rfl (by simp [execOp, e1, go_sem, z1]) hC (Below.refl _ _) rfl
        refine ⟨step_go rfl fun ev w1 hC kn => ?_, ?_⟩
        · have e1 : ev (.tmp 9) = .float .f32 r := kn.out 9 rfl rfl rfl
          exact good_of (v := .float .f32 r) rfl (by simp [execOp, e1, kn.con, go_sem]) hC (Below.refl _ _) rfl
        refine ⟨step_go rfl fun ev w1 hC kn => ?_, ?_⟩
        · have e1 : ev (.tmp 35) = .int .i8 x0 := kn.inn 35 rfl rfl
          have e2 : ev (.tmp 40) = .int .i8 x1 := kn.inn 40 rfl rfl
          have e3 : ev (.tmp 41) = .float .f32 r := kn.inn 41 rfl rfl
          exact good_of (v := .agg (#[.int .i8 x0, .int .i8 x1, .float .f32 r])) rfl (by simp [execOp, e1, e2, e3, go_sem]) hC (Below.refl _ _) rfl
        refine ⟨step_go rfl fun ev w1 hC kn => ?_, ?_⟩
        · have e1 : ev (.tmp 42) = .agg (#[.int .i8 x0, .int .i8 x1, .float .f32 r]) := kn.inn 42 rfl rfl
          exact good_of (v := .slice (some ⟨w1.heap.size, 0, none⟩) 1 1) (w' := w1.alloc (.cells #[.int .i8 x0, .int .i8 x1, .float .f32 r] 41)) rfl (by simp [execOp, e1, go_sem]) (hC.alloc hC.size _) (below1 _ _) ⟨_, hC.size, rfl, Blk.new _ _ _⟩
        exact trivial
      rintro xv w1 hxv hC
      have y30 : xv 30 = .slice (some ⟨g, 0, none⟩) k cap := hxv 30 (by decide)
      obtain ⟨q43, lq43, y43, bq43⟩ : ∃ q, wn.heap.size ≤ q ∧ xv 43 = .slice (some ⟨q, 0, none⟩) 1 1 ∧ Blk w1 q #[.int .i8 x0, .int .i8 x1, .float .f32 r] 41 := hxv 43 (by decide)
      simp only [fill, dstsOf, List.filterMap_cons, List.filterMap_nil, List.foldl_cons, List.foldl_nil, List.set_cons_succ, List.set_cons_zero, List.take_succ_cons, List.take_zero, List.drop_succ_cons, List.drop_zero, y30, y43]
      clear hxv y30 y43
      have hO := hO.below hC hO.lt
      have hbel := hbel.trans (hC.mono hzn)
      have hzs := hbel.size
      clear c0 c1' hn0 hn1 hC
      go_wp2_with (at_builtin; refine wpList_app elWl rfl rfl rfl rfl (by decide) hO bq43 rfl ?_ ?_ ?_ ?_; (· intro u hu; simp at hu; rcases hu with rfl | rfl | rfl <;> rfl); (· unfold maxLen; omega); (· omega); intro v1 w3 g1 hown hgr hg1)
      have hb3 := hbel.grown hgr (by omega) (fun q hq => by injection hq with hq; omega)
      go_roundw
      case rel => exact ⟨k + 1, by go_num, by omega, hb3, g1, by rw [wls_succ, HCL.out]; exact hown, by omega⟩
      case measure => simp [intOf]; omega
    · obtain rfl : k = n := by omega
      rcases HC.out with ⟨hgt, rfl, hN⟩ | ⟨hgt, rfl, hN⟩
      · have hbd := fun i (hi : i < k) => wlI_in l i
        have hvr := containsWl_any badL 19 #[] k (wlI l) (.slice (some ⟨g, 0, none⟩) k cap) wr hO.wsl callBadWell (fun i w' hi hb => badWell_any (wlI l i) (hbd i hi).1 (hbd i hi).2.1 w')
        cases hT : anyTo badL (wlI l) k <;> rw [hT] at hvr
        rotate_left
        · have hgd : ¬ goodWl l := fun q => by have := (HG.out.1 q).2.1; rw [← hN, hT] at this; cases this
          have HBD := Lib.hid (wl_bad hgd)
          clear hgt hN hgd hT hbd
          go_wp2_with (go_at_call 18; refine hvr.mono ?_; rintro e w2 ⟨rfl, hb2⟩)
          go_ret2
          exact ⟨_, congrArg (fun x => Ending.returned (.tuple #[_, .int .i64 x])) HBD.out.1.symm, _, Nat.le_refl _, by rw [HBD.out.2]; exact .inl ⟨rfl, _, _, rfl, by decide⟩, hbw.trans (hb2.mono hbw.size)⟩
        · have hpt := fun w2 (hb2 : Below wr.heap.size wr w2) => wellsText_any k hn12 (wlI l) hbd (.slice (some ⟨g, 0, none⟩) k cap) w2 (hO.wsl.below hb2) ((HV.out.below hbw).below hb2) (tab_below (tab_below HT.out hbw) hb2)
          by_cases he : txtWl (wlI l) k = l
          · have hgd : goodWl l := HG.out.2 ⟨hgt, by rw [← hN]; exact hT, by rw [← hN]; exact he⟩
            have HGD := Lib.hid (wl_good hgd)
            have hsm := HS.out hgd
            have HRES : Hid (wlM l = k ∧ wls k (rdL l) = wls k (wlI l)) := Lib.hid ⟨by rw [HGD.out.2, hsm.1, ← hN], wls_congr fun i hi => hsm.2 i (by rw [hsm.1, ← hN]; exact hi)⟩
            have hs' : (⟨(txtWl (wlI l) k).toArray⟩ : ByteArray) = s := by rw [he]; exact HST.out
            rw [hs'] at hpt
            clear hgt hN hgd hsm hs' he hT hbd
            go_wp2_with (first | (go_at_call 18; refine hvr.mono ?_; rintro e w2 ⟨rfl, hb2⟩) | (go_at_call 20; refine (hpt _ hb2).mono ?_; rintro e w3 ⟨rfl, hb3⟩))
            go_ret2
            have hb4 := hb2.trans (hb3.mono hb2.size)
            exact ⟨_, congrArg (fun x => Ending.returned (.tuple #[_, .int .i64 x])) HGD.out.1.symm, g, by omega, by rw [HRES.out.1]; right; rw [HRES.out.2]; exact hO.below hb4 hO.lt, hbw.trans (hb4.mono hbw.size)⟩
          · have hgd : ¬ goodWl l := fun q => he (by have := (HG.out.1 q).2.2; rw [← hN] at this; exact this)
            have HBD := Lib.hid (wl_bad hgd)
            have hne : ((⟨(txtWl (wlI l) k).toArray⟩ : ByteArray).toList == s.toList) = false := by
              rw [← HST.out, ByteArray.toList_mk, ByteArray.toList_mk]
              simpa using he
            generalize (⟨(txtWl (wlI l) k).toArray⟩ : ByteArray) = T at *
            clear hgt hN hgd he hT hbd
            go_wp2_with (first | (go_at_call 18; refine hvr.mono ?_; rintro e w2 ⟨rfl, hb2⟩) | (go_at_call 20; refine (hpt _ hb2).mono ?_; rintro e w3 ⟨rfl, hb3⟩))
            go_ret2
            have hb4 := hb2.trans (hb3.mono hb2.size)
            exact ⟨_, congrArg (fun x => Ending.returned (.tuple #[_, .int .i64 x])) HBD.out.1.symm, _, Nat.le_refl _, by rw [HBD.out.2]; exact .inl ⟨rfl, _, _, rfl, by decide⟩, hbw.trans (hb4.mono hbw.size)⟩
      · have hgd : ¬ goodWl l := fun q => hgt (HG.out.1 q).1
        have HBD := Lib.hid (wl_bad hgd)
        clear hgt hN hgd
        go_wp2_with fail
        go_ret2
        exact ⟨_, congrArg (fun x => Ending.returned (.tuple #[_, .int .i64 x])) HBD.out.1.symm, _, Nat.le_refl _, by rw [HBD.out.2]; exact .inl ⟨rfl, _, _, rfl, by decide⟩, hbw⟩
end Go.Proofs.YtcojgmgoiopboaaGreatDoor
