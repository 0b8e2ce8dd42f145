import Derived.Test.YtglimhkpndfjgaaGreatDoorMW20
import Derived.Test.YtglimhkpndfjgaaGreatDoorMW25
import Derived.Test.YtglimhkpndfjgaaGreatDoorMW19
import Derived.Test.YtglimhkpndfjgaaGreatDoorMW10
/- ReadWells, in the program: the walk, continued. -/
namespace Go.Proofs.YtglimhkpndfjgaaGreatDoor
open Go.ChangeShapes Go.WideShapes Go.ChangeAt Go.RowKit
set_option linter.unusedVariables false
set_option linter.unusedSimpArgs false
attribute [local irreducible] Calls

theorem rows_ofW {w0 W : World} {l : List UInt8} {v : Value} {ok : Bool} (h : LinesRet w0 l 3 12 W v ok) :
    ∃ a n cap, v = .slice a n cap ∧ n ≤ 12 ∧ n ≤ cap ∧ ((goodTo l 3 12 (linesL l).length ∧ ok = true ∧ n = (linesL l).length) ∨ (¬ goodTo l 3 12 (linesL l).length ∧ ok = false ∧ n = 0)) ∧ (n = 0 ∨ ∃ g, a = some ⟨g, 0, none⟩ ∧ g < W.heap.size ∧ ∀ j, j < n → RowAt w0.heap.size W g j (lineWs ((linesL l).getD j []))) := by
  rcases h with ⟨hg, hok, g, vs, hg1, hO, hr⟩ | ⟨hg, hok, rfl⟩
  · obtain ⟨cap, rfl, hc1, hc2⟩ := hO.form
    refine ⟨_, _, _, rfl, hg.1, hc1, .inl ⟨hg, hok, rfl⟩, .inr ⟨g, rfl, hO.lt, fun j hj => ?_⟩⟩
    obtain ⟨b, u, h1, h2, h3⟩ := hr j hj
    have h3n := hg.2 j hj
    rw [h3n] at h3
    obtain ⟨cap3, rfl, hc3, hc4⟩ := h3.form
    have hget := fun i (hi : i < 3) => (h3.cell i (by omega)).trans (strs_getD (L := lineWs ((linesL l).getD j [])) (i := i) (by omega))
    exact ⟨b, cap3, (hO.cell j (by omega)).trans h1, hc3, h3.lt, hget 0 (by omega), hget 1 (by omega), hget 2 (by omega)⟩
  · exact ⟨none, 0, 0, rfl, by omega, by omega, .inr ⟨hg, hok, rfl⟩, .inl rfl⟩
set_option maxRecDepth 100000 in
set_option maxHeartbeats 4000000 in
theorem readWellsI_any (s : ByteArray) (hs : s.size ≤ 1048576) (w : World) (hV : NumVars w) (htab : Lib.TabIs Tryz.prog w "internal/strconv.uint64pow10" .u64 Lib.pow10Tab) (m : Int) (hm : w.cell? ⟨3, 0, none⟩ = some (.int .i64 m)) :
    Calls Tryz.prog 9 #[.string s] w fun e w' => ∃ v, e = .returned (.tuple #[v, .int .i64 (wlC s.data.toList)]) ∧ ∃ r, w.heap.size ≤ r ∧ ResW w' r v (wlM s.data.toList) (rdL s.data.toList) ∧ Below w.heap.size w w' := by
  have hlw : Calls Tryz.prog 59 #[.string s, .int .i64 3, .int .i64 12] w fun e w' => ∃ v ok, e = .returned (.tuple #[v, .bool ok]) ∧ Below w.heap.size w w' ∧ LinesRet w s.data.toList 3 12 w' v ok := lineWords_any s hs 3 12 (by decide) (by decide) w m hm
  have hst : (⟨s.data.toList.toArray⟩ : ByteArray) = s := rfl
  have hll : s.data.toList.length = s.size := rfl
  have HST := Lib.hid hst
  have HV := Lib.hid hV
  have HT := Lib.hid htab
  clear hst hV htab
  generalize s.data.toList = l at *
  have hll2 : l.length ≤ 1048576 := by omega
  have HG := Lib.hid (goodWl_I l)
  have HS := Lib.hid (fun h : goodWl l => goodWl_same h)
  go_enter Tryz.func9, Tryz.ntmps9
  go_upto_region 2 with (go_at_call 59; refine hlw.mono ?_; rintro e wa ⟨v4, ok, rfl, hb1, hret⟩)
  clear hlw hm
  obtain ⟨a4, n, cap4, rfl, hn12, hnc, hcase, hrows⟩ := rows_ofW hret
  clear hret
  have HR := Lib.hid hrows
  have HC := Lib.hid hcase
  clear hrows hcase
  go_upto_region 3 with fail
  have hO : Own (wa.alloc (.cells #[] 51)) wa.heap.size 51 3 (.slice (some ⟨wa.heap.size, 0, none⟩) 0 0) 0 (lws 0 (wlI l)) := by rw [lws_zero]; exact own_blk (Blk.new _ _ _) rfl (by decide) rfl
  have hbel := below1 wa (.cells #[] 51)
  have hz := hb1.size
  generalize wa.alloc (.cells #[] 51) = W at *
  go_upto_region 4 with fail
  go_loopw [6, 19] (fun vl vi wr => ∃ (k : Nat), vi = .int .i64 k ∧ k ≤ n ∧ Below wa.heap.size wa wr ∧ ∃ g, Own wr g 51 3 vl k (lws k (wlI l)) ∧ wa.heap.size ≤ g) (fun _ vi _ => n - (intOf vi).toNat)
  case atStart => exact ⟨0, rfl, by omega, hbel, _, hO, Nat.le_refl _⟩
  case round =>
    clear hO hbel
    obtain ⟨k, rfl, hk, hbel, g, hO, hg⟩ := hrel
    have bk : (0 : Int) ≤ k := by omega
    have hzr := hbel.size
    obtain ⟨cap, rfl, hcp1, hcp2⟩ := hO.form
    have hbw := hb1.trans (hbel.mono hz)
    by_cases hlt : k < n
    · have bl : (k : Int) < n := by omega
      obtain ⟨g4, rfl, l_g4, hrow⟩ := HR.out.resolve_left (by omega)
      obtain ⟨b, capb, r0, hcb, l_b0, r1, r2, r3⟩ := hrow k hlt
      have q0 := (hbel.cell (p := ⟨g4, k, none⟩) l_g4).trans r0
      have c0 := (hbel.cell (p := ⟨b, 0, none⟩) l_b0).trans r1
      have c1' := (hbel.cell (p := ⟨b, 1, none⟩) l_b0).trans r2
      have c2 := (hbel.cell (p := ⟨b, 2, none⟩) l_b0).trans r3
      have l_b : b < wr.heap.size := by omega
      clear r0 r1 r2 r3 hrow
      have hVr := HV.out.below hbw
      have hnr := readNumberI_any ⟨((lineWs ((linesL l).getD k [])).getD 2 []).toArray⟩ (by rw [size_of]; exact Nat.le_trans (lineWs_le l k 2) hll2) wr hVr
      have hn0 := fun w' (hb' : Below wr.heap.size wr w') => numberOf_any ⟨((lineWs ((linesL l).getD k [])).getD 0 []).toArray⟩ (by rw [size_of]; exact Nat.le_trans (lineWs_le l k 0) hll2) (-100) 100 w' (show ParseVars w' from ⟨(hVr.below hb').1, (hVr.below hb').2.1⟩)
      have hn1 := fun w' (hb' : Below wr.heap.size wr w') => numberOf_any ⟨((lineWs ((linesL l).getD k [])).getD 1 []).toArray⟩ (by rw [size_of]; exact Nat.le_trans (lineWs_le l k 1) hll2) (-100) 100 w' (show ParseVars w' from ⟨(hVr.below hb').1, (hVr.below hb').2.1⟩)
      rw [show (⟨((lineWs ((linesL l).getD k [])).getD 0 []).toArray⟩ : ByteArray).data.toList = (lineWs ((linesL l).getD k [])).getD 0 [] by simp] at hn0
      rw [show (⟨((lineWs ((linesL l).getD k [])).getD 1 []).toArray⟩ : ByteArray).data.toList = (lineWs ((linesL l).getD k [])).getD 1 [] by simp] at hn1
      rw [show (⟨((lineWs ((linesL l).getD k [])).getD 2 []).toArray⟩ : ByteArray).data.toList = (lineWs ((linesL l).getD k [])).getD 2 [] by simp] at hnr
      have hin := wlI_in l k
      have hcl : (wlI l k).cells = #[.int .i8 (wlI l k).px, .int .i8 (wlI l k).py, .float .f32 (wlI l k).rt] := Wl.cells_eq _
      have ho : (wlI l k).px = numZ (-100) 100 ((lineWs ((linesL l).getD k [])).getD 0 []) := rfl
      have hce : (wlI l k).py = numZ (-100) 100 ((lineWs ((linesL l).getD k [])).getD 1 []) := rfl
      have hra : (wlI l k).rt = numB ((lineWs ((linesL l).getD k [])).getD 2 []) := rfl
      rw [ho, hce, hra] at hcl
      rw [ho, hce, hra] at hin
      have HCL := Lib.hid hcl
      clear hcl ho hce hra hVr
      generalize (lineWs ((linesL l).getD k [])).getD 0 [] = s0 at *
      generalize (lineWs ((linesL l).getD k [])).getD 1 [] = s1 at *
      generalize (lineWs ((linesL l).getD k [])).getD 2 [] = s2 at *
      generalize numZ (-100) 100 s0 = x0 at *
      generalize numZ (-100) 100 s1 = x1 at *
      generalize numB s2 = r at *
      generalize numC s2 = cd at *
      obtain ⟨i1, i2, i3⟩ := hin
      clear i3
      have z0 : IntKind.i8.wrap x0 = x0 := wrap8s _ (by omega)
      have z1 : IntKind.i8.wrap x1 = x1 := wrap8s _ (by omega)
      go_upto_region 7 with (go_at_call 60; refine hnr.mono ?_; rintro e wn ⟨rfl, hbn⟩)
      have c0 := (hbn.cell (p := ⟨b, 0, none⟩) l_b).trans c0
      have c1' := (hbn.cell (p := ⟨b, 1, none⟩) l_b).trans c1'
      have hn0 := fun w' (hb' : Below wn.heap.size wn w') => hn0 w' (hbn.trans (hb'.mono hbn.size))
      have hn1 := fun w' (hb' : Below wn.heap.size wn w') => hn1 w' (hbn.trans (hb'.mono hbn.size))
      have hO := hO.below hbn hO.lt
      have hbel := hbel.trans (hbn.mono hzr)
      have hzn := hbel.size
      have l_b : b < wn.heap.size := by have := hbn.size; omega
      clear hnr hbw q0 c2 hbn
      refine wp_splitK 14 (C := fun w' => Below wn.heap.size wn w') (R := fun w w' => Below w.heap.size w w') (F := fun ww dd vv => match dd, vv with
        | 30, vv => vv = .slice (some ⟨g, 0, none⟩) k cap
        | 31, vv => vv = .slice (some ⟨b, 0, none⟩) 3 capb
        | 32, vv => vv = .pointer (some ⟨b, 0, none⟩)
        | 33, vv => vv = .string ⟨(s0).toArray⟩
        | 34, vv => vv = .int .i64 x0
        | 35, vv => vv = .int .i8 x0
        | 36, vv => vv = .slice (some ⟨b, 0, none⟩) 3 capb
        | 37, vv => vv = .pointer (some ⟨b, 1, none⟩)
        | 38, vv => vv = .string ⟨(s1).toArray⟩
        | 39, vv => vv = .int .i64 x1
        | 40, vv => vv = .int .i8 x1
        | 41, vv => vv = .float .f32 r
        | 42, vv => vv = .agg (#[.int .i8 x0, .int .i8 x1, .float .f32 r])
        | 43, vv => ∃ q, wn.heap.size ≤ q ∧ vv = .slice (some ⟨q, 0, none⟩) 1 1 ∧ Blk ww q #[.int .i8 x0, .int .i8 x1, .float .f32 r] 51
        | _, _ => True) (fun wa wb d v hRR => by split <;> intro hFF <;> first | exact hFF | (obtain ⟨q, h1, h2, h3⟩ := hFF; exact ⟨q, h1, h2, h3.below hRR h3.lt⟩)) (by kernel_rfl) (by kernel_rfl) (by kernel_rfl) (Below.refl _ _).drew ?_ ?_
      · refine ⟨step_go rfl fun ev w1 hC kn => ?_, ?_⟩
        · have e1 : ev (.tmp 6) = .slice (some ⟨g, 0, none⟩) k cap := kn.out 6 rfl rfl rfl
          exact good_of (v := .slice (some ⟨g, 0, none⟩) k cap) rfl (by simp [execOp, e1, kn.con, go_sem]) hC (Below.refl _ _) rfl
        refine ⟨step_go rfl fun ev w1 hC kn => ?_, ?_⟩
        · have e1 : ev (.tmp 8) = .slice (some ⟨b, 0, none⟩) 3 capb := kn.out 8 rfl rfl rfl
          exact good_of (v := .slice (some ⟨b, 0, none⟩) 3 capb) rfl (by simp [execOp, e1, kn.con, go_sem]) hC (Below.refl _ _) rfl
        refine ⟨step_go rfl fun ev w1 hC kn => ?_, ?_⟩
        · have e1 : ev (.tmp 31) = .slice (some ⟨b, 0, none⟩) 3 capb := kn.inn 31 rfl rfl
          exact good_of (v := .pointer (some ⟨b, 0, none⟩)) rfl (by simp [execOp, e1, kn.con, go_sem]) hC (Below.refl _ _) rfl
        refine ⟨step_go rfl fun ev w1 hC kn => ?_, ?_⟩
        · have e1 : ev (.tmp 32) = .pointer (some ⟨b, 0, none⟩) := kn.inn 32 rfl rfl
          have c1 := (hC.cell (p := ⟨b, 0, none⟩) l_b).trans c0
          exact good_of (v := .string ⟨(s0).toArray⟩) rfl (by simp [execOp, e1, go_sem, c1]) hC (Below.refl _ _) rfl
        refine ⟨step_go rfl fun ev w1 hC kn => ?_, ?_⟩
        · have e1 : ev (.tmp 33) = .string ⟨(s0).toArray⟩ := kn.inn 33 rfl rfl
          refine good_call (f := 61) (args := #[.string ⟨(s0).toArray⟩, .int .i64 (-100), .int .i64 100]) rfl (by simp [execOp, e1, kn.fn, kn.con, go_sem]) ((hn0 w1 hC).mono fun e w2 ⟨he, hb⟩ => ⟨_, he, hC.trans (hb.mono hC.size), hb, rfl⟩)
        refine ⟨step_go rfl fun ev w1 hC kn => ?_, ?_⟩
        · have e1 : ev (.tmp 34) = .int .i64 x0 := kn.inn 34 rfl rfl
          exact good_of (v := .int .i8 x0) rfl (by simp [execOp, e1, go_sem, z0]) hC (Below.refl _ _) rfl
        refine ⟨step_go rfl fun ev w1 hC kn => ?_, ?_⟩
        · have e1 : ev (.tmp 8) = .slice (some ⟨b, 0, none⟩) 3 capb := kn.out 8 rfl rfl rfl
          exact good_of (v := .slice (some ⟨b, 0, none⟩) 3 capb) rfl (by simp [execOp, e1, kn.con, go_sem]) hC (Below.refl _ _) rfl
        refine ⟨step_go rfl fun ev w1 hC kn => ?_, ?_⟩
        · have e1 : ev (.tmp 36) = .slice (some ⟨b, 0, none⟩) 3 capb := kn.inn 36 rfl rfl
          exact good_of (v := .pointer (some ⟨b, 1, none⟩)) rfl (by simp [execOp, e1, kn.con, go_sem]) hC (Below.refl _ _) rfl
        refine ⟨step_go rfl fun ev w1 hC kn => ?_, ?_⟩
        · have e1 : ev (.tmp 37) = .pointer (some ⟨b, 1, none⟩) := kn.inn 37 rfl rfl
          have c1 := (hC.cell (p := ⟨b, 1, none⟩) l_b).trans c1'
          exact good_of (v := .string ⟨(s1).toArray⟩) rfl (by simp [execOp, e1, go_sem, c1]) hC (Below.refl _ _) rfl
        refine ⟨step_go rfl fun ev w1 hC kn => ?_, ?_⟩
        · have e1 : ev (.tmp 38) = .string ⟨(s1).toArray⟩ := kn.inn 38 rfl rfl
          refine good_call (f := 61) (args := #[.string ⟨(s1).toArray⟩, .int .i64 (-100), .int .i64 100]) rfl (by simp [execOp, e1, kn.fn, kn.con, go_sem]) ((hn1 w1 hC).mono fun e w2 ⟨he, hb⟩ => ⟨_, he, hC.trans (hb.mono hC.size), hb, rfl⟩)
        refine ⟨step_go rfl fun ev w1 hC kn => ?_, ?_⟩
        · have e1 : ev (.tmp 39) = .int .i64 x1 := kn.inn 39 rfl rfl
          exact good_of (v := .int .i8 x1) rfl (by simp [execOp, e1, go_sem, z1]) hC (Below.refl _ _) rfl
        refine ⟨step_go rfl fun ev w1 hC kn => ?_, ?_⟩
        · have e1 : ev (.tmp 9) = .float .f32 r := kn.out 9 rfl rfl rfl
          exact good_of (v := .float .f32 r) rfl (by simp [execOp, e1, kn.con, go_sem]) hC (Below.refl _ _) rfl
        refine ⟨step_go rfl fun ev w1 hC kn => ?_, ?_⟩
        · have e1 : ev (.tmp 35) = .int .i8 x0 := kn.inn 35 rfl rfl
          have e2 : ev (.tmp 40) = .int .i8 x1 := kn.inn 40 rfl rfl
          have e3 : ev (.tmp 41) = .float .f32 r := kn.inn 41 rfl rfl
          exact good_of (v := .agg (#[.int .i8 x0, .int .i8 x1, .float .f32 r])) rfl (by simp [execOp, e1, e2, e3, go_sem]) hC (Below.refl _ _) rfl
        refine ⟨step_go rfl fun ev w1 hC kn => ?_, ?_⟩
        · have e1 : ev (.tmp 42) = .agg (#[.int .i8 x0, .int .i8 x1, .float .f32 r]) := kn.inn 42 rfl rfl
          exact good_of (v := .slice (some ⟨w1.heap.size, 0, none⟩) 1 1) (w' := w1.alloc (.cells #[.int .i8 x0, .int .i8 x1, .float .f32 r] 51)) rfl (by simp [execOp, e1, go_sem]) (hC.alloc hC.size _) (below1 _ _) ⟨_, hC.size, rfl, Blk.new _ _ _⟩
        exact trivial
      rintro xv w1 hxv hC
      have y30 : xv 30 = .slice (some ⟨g, 0, none⟩) k cap := hxv 30 (by decide)
      obtain ⟨q43, lq43, y43, bq43⟩ : ∃ q, wn.heap.size ≤ q ∧ xv 43 = .slice (some ⟨q, 0, none⟩) 1 1 ∧ Blk w1 q #[.int .i8 x0, .int .i8 x1, .float .f32 r] 51 := hxv 43 (by decide)
      simp only [fill, dstsOf, List.filterMap_cons, List.filterMap_nil, List.foldl_cons, List.foldl_nil, List.set_cons_succ, List.set_cons_zero, List.take_succ_cons, List.take_zero, List.drop_succ_cons, List.drop_zero, y30, y43]
      clear hxv y30 y43
      have hO := hO.below hC hO.lt
      have hbel := hbel.trans (hC.mono hzn)
      have hzs := hbel.size
      clear c0 c1' hn0 hn1 hC
      go_wp2_with (at_builtin; refine wpList_app elWl rfl rfl rfl rfl (by decide) hO bq43 rfl ?_ ?_ ?_ ?_; (· intro u hu; simp at hu; rcases hu with rfl | rfl | rfl <;> rfl); (· unfold maxLen; omega); (· omega); intro v1 w3 g1 hown hgr hg1)
      have hb3 := hbel.grown hgr (by omega) (fun q hq => by injection hq with hq; omega)
      go_roundw
      case rel => exact ⟨k + 1, by go_num, by omega, hb3, g1, by rw [lws_succ, HCL.out]; exact hown, by omega⟩
      case measure => simp [intOf]; omega
    · obtain rfl : k = n := by omega
      rcases HC.out with ⟨hgt, rfl, hN⟩ | ⟨hgt, rfl, hN⟩
      · have hbd := fun i (hi : i < k) => wlI_in l i
        have hvr := containsWl_any badL 63 #[] k (wlI l) (.slice (some ⟨g, 0, none⟩) k cap) wr hO.lsl callBadWell (fun i w' hi hb => badWell_any (wlI l i) (hbd i hi).1 (hbd i hi).2.1 w')
        cases hT : anyTo badL (wlI l) k <;> rw [hT] at hvr
        rotate_left
        · have hgd : ¬ goodWl l := fun q => by have := (HG.out.1 q).2.1; rw [← hN, hT] at this; cases this
          have HBD := Lib.hid (wl_bad hgd)
          clear hgt hN hgd hT hbd
          go_wp2_with (go_at_call 62; refine hvr.mono ?_; rintro e w2 ⟨rfl, hb2⟩)
          go_ret2
          exact ⟨_, congrArg (fun x => Ending.returned (.tuple #[_, .int .i64 x])) HBD.out.1.symm, _, Nat.le_refl _, by rw [HBD.out.2]; exact .inl ⟨rfl, _, _, rfl, by decide⟩, hbw.trans (hb2.mono hbw.size)⟩
        · have hpt := fun w2 (hb2 : Below wr.heap.size wr w2) => wellsText_any k hn12 (wlI l) hbd (.slice (some ⟨g, 0, none⟩) k cap) w2 (hO.lsl.below hb2) ((HV.out.below hbw).below hb2) (tab_below (tab_below HT.out hbw) hb2)
          by_cases he : txtWl (wlI l) k = l
          · have hgd : goodWl l := HG.out.2 ⟨hgt, by rw [← hN]; exact hT, by rw [← hN]; exact he⟩
            have HGD := Lib.hid (wl_good hgd)
            have hsm := HS.out hgd
            have HRES : Hid (wlM l = k ∧ lws k (rdL l) = lws k (wlI l)) := Lib.hid ⟨by rw [HGD.out.2, hsm.1, ← hN], lws_congr fun i hi => hsm.2 i (by rw [hsm.1, ← hN]; exact hi)⟩
            have hs' : (⟨(txtWl (wlI l) k).toArray⟩ : ByteArray) = s := by rw [he]; exact HST.out
            rw [hs'] at hpt
            clear hgt hN hgd hsm hs' he hT hbd
            go_wp2_with (first | (go_at_call 62; refine hvr.mono ?_; rintro e w2 ⟨rfl, hb2⟩) | (go_at_call 64; refine (hpt _ hb2).mono ?_; rintro e w3 ⟨rfl, hb3⟩))
            go_ret2
            have hb4 := hb2.trans (hb3.mono hb2.size)
            exact ⟨_, congrArg (fun x => Ending.returned (.tuple #[_, .int .i64 x])) HGD.out.1.symm, g, by omega, by rw [HRES.out.1]; right; rw [HRES.out.2]; exact hO.below hb4 hO.lt, hbw.trans (hb4.mono hbw.size)⟩
          · have hgd : ¬ goodWl l := fun q => he (by have := (HG.out.1 q).2.2; rw [← hN] at this; exact this)
            have HBD := Lib.hid (wl_bad hgd)
            have hne : ((⟨(txtWl (wlI l) k).toArray⟩ : ByteArray).toList == s.toList) = false := by
              rw [← HST.out, ByteArray.toList_mk, ByteArray.toList_mk]
              simpa using he
            generalize (⟨(txtWl (wlI l) k).toArray⟩ : ByteArray) = T at *
            clear hgt hN hgd he hT hbd
            go_wp2_with (first | (go_at_call 62; refine hvr.mono ?_; rintro e w2 ⟨rfl, hb2⟩) | (go_at_call 64; refine (hpt _ hb2).mono ?_; rintro e w3 ⟨rfl, hb3⟩))
            go_ret2
            have hb4 := hb2.trans (hb3.mono hb2.size)
            exact ⟨_, congrArg (fun x => Ending.returned (.tuple #[_, .int .i64 x])) HBD.out.1.symm, _, Nat.le_refl _, by rw [HBD.out.2]; exact .inl ⟨rfl, _, _, rfl, by decide⟩, hbw.trans (hb4.mono hbw.size)⟩
      · have hgd : ¬ goodWl l := fun q => hgt (HG.out.1 q).1
        have HBD := Lib.hid (wl_bad hgd)
        clear hgt hN hgd
        go_wp2_with fail
        go_ret2
        exact ⟨_, congrArg (fun x => Ending.returned (.tuple #[_, .int .i64 x])) HBD.out.1.symm, _, Nat.le_refl _, by rw [HBD.out.2]; exact .inl ⟨rfl, _, _, rfl, by decide⟩, hbw⟩
end Go.Proofs.YtglimhkpndfjgaaGreatDoor
/- Wells that are the same, the text of wells: the program's walks. -/
namespace Go.Proofs.YtglimhkpndfjgaaGreatDoor
open Go.ChangeShapes Go.WideShapes Go.ChangeAt Go.RowKit
set_option linter.unusedVariables false
set_option linter.unusedSimpArgs false
attribute [local irreducible] Calls
set_option maxRecDepth 100000 in
set_option maxHeartbeats 1000000 in
theorem sameWell_one (x y : Int) (r : Nat) (w : World) :
    Calls Tryz.prog 72 #[.agg #[.int .i8 x, .int .i8 y, .float .f32 r], .agg #[.int .i8 x, .int .i8 y, .float .f32 r]] w fun e w' => e = .returned (.bool true) ∧ Below w.heap.size w w' := by
  have hs := fun w' => sameNumberI_cn (x := r) (y := r) rfl w'
  have n1 : (x == x) = true := by simp
  have n2 : (y == y) = true := by simp
  go_enter Tryz.func72, Tryz.ntmps72
  go_wp2_with (go_at_call 73; refine (hs _).mono ?_; rintro e w' ⟨rfl, hw⟩; rw [hw]; clear hw w')
  go_ret
  exact ⟨rfl, below2 _ _ _⟩
theorem callSameWell : Callable Tryz.prog 72 := ⟨_, Tryz.func72, by kernel_rfl, by kernel_rfl⟩
set_option maxRecDepth 100000 in
set_option maxHeartbeats 1000000 in
theorem equalFuncWl_one (n : Nat) (P : Nat → Wl) (v1 v2 : Value) (w : World) (h1 : LSl w v1 n P) (h2 : LSl w v2 n P) :
    Calls Tryz.prog 71 #[v1, v2, .func (.func 72) #[] #[]] w fun e w' => e = .returned (.bool true) ∧ Below w.heap.size w w' := by
  obtain ⟨a1, c1, rfl, hc1, hc2, h1⟩ := h1
  obtain ⟨a2, c2, rfl, hc3, hc4, h2⟩ := h2
  unfold maxLen at hc2 hc4
  have HC := Lib.hid h1
  have HC2 := Lib.hid h2
  have hnn : ((n : Int) != n) = false := by simp
  clear h1 h2
  go_enter Tryz.func71, Tryz.ntmps71
  go_wp2_with fail
  go_loopw [17] (fun i wr => ∃ k : Nat, k ≤ n ∧ i = .int .i64 k ∧ Below w.heap.size w wr) (fun i _ => n - (intOf i).toNat)
  case atStart => exact ⟨0, by omega, rfl, Below.refl _ _⟩
  case round =>
    obtain ⟨k, hk, rfl, hbel⟩ := hrel
    have bk : (0 : Int) ≤ k := by omega
    by_cases hlt : k < n
    · have bl : (k : Int) < n := by omega
      obtain ⟨b, o, rfl, hb, hcell⟩ := HC.out.resolve_left (by omega)
      obtain ⟨b', o', rfl, hb', hcell'⟩ := HC2.out.resolve_left (by omega)
      have e0 : wr.cell? ⟨b, o + k * 3, none⟩ = some (.int .i8 (P k).px) := (hbel.cell (p := ⟨b, _, none⟩) hb).trans ((hcell k 0 hlt (by omega)).trans (P k).get0)
      have e1 : wr.cell? ⟨b, o + k * 3 + 1, none⟩ = some (.int .i8 (P k).py) := (hbel.cell (p := ⟨b, _, none⟩) hb).trans ((hcell k 1 hlt (by omega)).trans (P k).get1)
      have e2 : wr.cell? ⟨b, o + k * 3 + 2, none⟩ = some (.float .f32 (P k).rt) := (hbel.cell (p := ⟨b, _, none⟩) hb).trans ((hcell k 2 hlt (by omega)).trans (P k).get2)
      have hbA := hbel.alloc hbel.size (.cells #[.int .i8 (P k).px, .int .i8 (P k).py, .float .f32 (P k).rt] 51)
      have f0 := (hbA.cell (p := ⟨b', o' + k * 3, none⟩) hb').trans ((hcell' k 0 hlt (by omega)).trans (P k).get0)
      have f1 := (hbA.cell (p := ⟨b', o' + k * 3 + 1, none⟩) hb').trans ((hcell' k 1 hlt (by omega)).trans (P k).get1)
      have f2 := (hbA.cell (p := ⟨b', o' + k * 3 + 2, none⟩) hb').trans ((hcell' k 2 hlt (by omega)).trans (P k).get2)
      have hcl := fun w' => sameWell_one (P k).px (P k).py (P k).rt w'
      clear hcell hcell'
      go_upto_region 6 with fail
      have hX := Blk.new wr #[.int .i8 (P k).px, .int .i8 (P k).py, .float .f32 (P k).rt] 51
      generalize wr.alloc (.cells #[.int .i8 (P k).px, .int .i8 (P k).py, .float .f32 (P k).rt] 51) = W at *
      go_upto_region 7 with fail
      have hY := Blk.new W #[.int .i8 (P k).px, .int .i8 (P k).py, .float .f32 (P k).rt] 51
      have hX2 := hX.alloc (.cells #[.int .i8 (P k).px, .int .i8 (P k).py, .float .f32 (P k).rt] 51)
      have hbB := hbA.alloc hbA.size (.cells #[.int .i8 (P k).px, .int .i8 (P k).py, .float .f32 (P k).rt] 51)
      generalize W.alloc (.cells #[.int .i8 (P k).px, .int .i8 (P k).py, .float .f32 (P k).rt] 51) = W2 at *
      go_wp2_with (first | (refine wpList_load_blk rfl rfl rfl rowWl hX2 rfl ?_) | (refine wpList_load_blk rfl rfl rfl rowWl hY rfl ?_) | (refine wpList_callv (cap := #[]) (l := [.agg #[.int .i8 (P k).px, .int .i8 (P k).py, .float .f32 (P k).rt], .agg #[.int .i8 (P k).px, .int .i8 (P k).py, .float .f32 (P k).rt]]) rfl rfl rfl rfl callSameWell ?_; refine (hcl _).mono ?_; rintro e w1 ⟨rfl, hb1⟩; refine ⟨_, rfl, ?_⟩))
      go_roundw
      case rel => exact ⟨k + 1, by omega, by go_num, hbB.trans (hb1.mono hbB.size)⟩
      case measure => simp [intOf]; omega
    · obtain rfl : k = n := by omega
      go_wp2_with fail
      go_ret
      exact ⟨rfl, hbel⟩
set_option maxRecDepth 100000 in
set_option maxHeartbeats 400000 in
theorem sameWells_one (n : Nat) (P : Nat → Wl) (v1 v2 : Value) (w : World) (h1 : LSl w v1 n P) (h2 : LSl w v2 n P) :
    Calls Tryz.prog 18 #[v1, v2] w fun e w' => e = .returned (.bool true) ∧ Below w.heap.size w w' := by
  have h := equalFuncWl_one n P v1 v2 w h1 h2
  go_enter Tryz.func18, Tryz.ntmps18
  go_wp2_with (go_at_call 71; refine h.mono ?_; rintro e w1 ⟨rfl, hb⟩)
  go_ret
  exact ⟨rfl, hb⟩
set_option maxRecDepth 100000 in
set_option maxHeartbeats 400000 in
theorem wellsTextD_any (n : Nat) (hn : n ≤ 12) (P : Nat → Wl) (hP : ∀ i, i < n → WlD (P i)) (v : Value) (w : World) (hv : LSl w v n P) (hV : NumVars w) (htab : Lib.TabIs Tryz.prog w "internal/strconv.uint64pow10" .u64 Lib.pow10Tab) :
    Calls Tryz.prog 10 #[v] w fun e w' => e = .returned (.string ⟨(txtWl P n).toArray⟩) ∧ Below w.heap.size w w' := by
  obtain ⟨a, c, rfl, _⟩ := id hv
  have hcw := containsWl_any badL 63 #[] n P (.slice a n c) w hv callBadWell (fun i w'' hi hb => badWell_any (P i) (hP i hi).ok.1 (hP i hi).ok.2.1 w'')
  rw [noBad hP] at hcw
  have htx := fun w' (hb : Below w.heap.size w w') => wellsText_any n hn P (fun i hi => ⟨(hP i hi).ok.1, (hP i hi).ok.2.1, (hP i hi).ok.2.2.2⟩) (.slice a n c) w' (hv.below hb) (hV.below hb) (tab_below htab hb)
  have bn : (n : Int) ≤ 12 := by omega
  generalize txtWl P n = T at *
  clear hV htab hP hv
  go_enter Tryz.func10, Tryz.ntmps10
  go_wp2_with (first | (go_at_call 62; refine hcw.mono ?_; rintro e w1 ⟨rfl, hb1⟩) | (go_at_call 64; refine (htx _ hb1).mono ?_; rintro e w2 ⟨rfl, hb2⟩))
  go_ret
  exact ⟨rfl, hb1.trans (hb2.mono hb1.size)⟩
end Go.Proofs.YtglimhkpndfjgaaGreatDoor
/- Draws of the sixth week: an aquifer, wells. -/
namespace Go.Proofs.YtglimhkpndfjgaaGreatDoor
open Go.ChangeShapes Go.WideShapes Go.ChangeAt Go.RowKit
set_option linter.unusedVariables false
set_option linter.unusedSimpArgs false
attribute [local irreducible] Calls
theorem zeroAq : ZeroTy Tryz.prog 26 #[.float .f32 0, .float .f32 0] := by unfold ZeroTy; kernel_rfl
theorem rowAqD : RowTy Tryz.prog 26 2 := ⟨_, Tryz.underlying26, rfl, by kernel_rfl⟩
theorem bytes_alloc {w : World} {v : Value} {n : Nat} (hv : Bytes w w.heap.size v n) (o : Obj) : Bytes (w.alloc o) (w.alloc o).heap.size v n := by
  obtain ⟨a, c, h1, h2, h3⟩ := hv.move (w' := w.alloc o) (fun r hr => heap_alloc_old w _ hr)
  refine ⟨a, c, h1, h2, fun j hj => ?_⟩
  obtain ⟨r, o', x, g1, g2, g3⟩ := h3 j hj
  exact ⟨r, o', x, g1, by simp; omega, g3⟩
set_option maxRecDepth 100000 in
set_option maxHeartbeats 400000 in
theorem p6Aquifer_any (v : Value) (n : Nat) (w : World) (hv : Bytes w w.heap.size v n) :
    Calls Tryz.prog 6 #[v] w fun e w' => ∃ T S : Nat, AqD T S ∧ e = .returned (.agg #[.float .f32 T, .float .f32 S]) ∧ Below w.heap.size w w' := by
  go_enter Tryz.func6, Tryz.ntmps6
  go_upto_region 1 with (refine wpList_alloc_as rfl rfl zeroAq ?_)
  have hb0 : Blk (w.alloc (.cells #[.float .f32 0, .float .f32 0] 26)) w.heap.size #[.float .f32 0, .float .f32 0] 26 := Blk.new _ _ _
  have hbel := below1 w (.cells #[.float .f32 0, .float .f32 0] 26)
  have hv1 := bytes_alloc hv (.cells #[.float .f32 0, .float .f32 0] 26)
  change Code.wp _ _ _ _ (w.alloc (.cells #[.float .f32 0, .float .f32 0] 26))
  generalize w.alloc (.cells #[.float .f32 0, .float .f32 0] 26) = W at *
  have lW := hb0.lt
  have hs := src_new hv1
  have hfr := l00From_any v n W hv1
  have hbs : Below w.heap.size w (W.alloc (.cells #[v, .int .i64 0, .int .u64 0] 128)) := hbel.alloc (by omega) _
  have hb0 := hb0.alloc (.cells #[v, .int .i64 0, .int .u64 0] 128)
  generalize W.alloc (.cells #[v, .int .i64 0, .int .u64 0] 128) = W1 at *
  generalize hq : W.heap.size = q at *
  have hp := pick_any q 0 800 (by omega) (by omega) (by omega) W1 hs
  clear hs hv1 hv
  go_upto_region 3 with (first | (go_at_call 56; refine hfr.mono ?_; rintro e w1 ⟨rfl, hw⟩; subst hw) | (go_at_call 57; refine hp.mono ?_; rintro e w2 ⟨x, ⟨x0, x1⟩, rfl, hs2, hg2⟩))
  obtain ⟨m, rfl⟩ : ∃ m : Nat, x = m := ⟨x.toNat, by omega⟩
  have hf := aqT_is (x := m) (by omega)
  rw [fcnt_some hf]
  rw [fres_some hf]
  have hp2 := pick_any q (0 + 2) 500 (by omega) (by omega) (by omega) w2 hs2
  clear hs2 hp
  have hb2 := hb0.grown hg2 (fun e => by injection e; omega)
  have hbs2 := hbs.grown hg2 (by have := hbs.size; omega) (fun k e => by injection e; omega)
  have h1 : ∀ l : Nat, ∀ u ∈ (#[.float .f32 (aqT m), .float .f32 (aqS l)] : Array Value).toList, u.oneCell' = true := fun l u hu => by simp at hu; rcases hu with rfl | rfl <;> rfl
  go_wp2_with (first | (go_at_call 57; refine hp2.mono ?_; rintro e w3 ⟨y, ⟨y0, y1⟩, rfl, hs3, hg3⟩; obtain ⟨l, rfl⟩ : ∃ m : Nat, y = m := ⟨y.toNat, by omega⟩; obtain ⟨c2, r2⟩ := Opr.told (aqS_is (x := l) (by omega)); have hb3 := hb2.grown hg3 (fun e => by injection e; omega)) | (refine wpList_store_blk rfl rfl rfl rfl rowAqD hb3 rfl rfl (h1 l) ?_))
  exact bodyPost_row rfl rfl rowAqD (hb3.setRow _) rfl rfl ⟨_, _, aqD_of (x := m) (y := l) (by omega) (by omega), rfl, below_setRow (hbs2.grown hg3 (by have := hbs2.size; omega) (fun k e => by injection e; omega)) (Nat.le_refl _) _⟩
/-- What P6Wells gives. -/
def GaveW (w : World) (e : Ending) (w' : World) : Prop := ∃ (x : Value) (r m : Nat) (Q : Nat → Wl), m ≤ 4 ∧ e = .returned x ∧ w.heap.size ≤ r ∧ (∀ i, i < m → WlD (Q i)) ∧ Own w' r 51 3 x m (lws m Q) ∧ Below w.heap.size w w'
theorem szF32W : (Tryz.prog.info? 24).map (·.size) = some 1 := by kernel_rfl
set_option maxRecDepth 100000 in
set_option maxHeartbeats 1000000 in
theorem p6Wells_any (v : Value) (n : Nat) (w : World) (hv : Bytes w w.heap.size v n) :
    Calls Tryz.prog 7 #[v] w (GaveW w) := by
  have hs := src_new hv
  have hfr := l00From_any v n w hv
  have hbs := below1 w (.cells #[v, .int .i64 0, .int .u64 0] 128)
  generalize w.alloc (.cells #[v, .int .i64 0, .int .u64 0] 128) = W1 at *
  obtain ⟨b, hb⟩ : ∃ b, w.heap.size = b := ⟨_, rfl⟩
  rw [hb] at hs hfr
  have lb := hs.lt
  clear hv
  go_enter Tryz.func7, Tryz.ntmps7
  go_upto_region 3 with (go_at_call 56; refine hfr.mono ?_; rintro e w1 ⟨rfl, hw⟩; subst hw)
  have hs2 : Src (w1.alloc (.cells #[] 51)) b 0 := hs.move fun r hr => heap_alloc_old w1 _ (by omega)
  have hG : Own (w1.alloc (.cells #[] 51)) w1.heap.size 51 3 (.slice (some ⟨w1.heap.size, 0, none⟩) 0 0) 0 (lws 0 (fun _ => ⟨0, 0, 0⟩)) := own_blk (Blk.new _ _ _) rfl (by decide) (by rw [lws_zero])
  have hbs := hbs.alloc hbs.size (.cells #[] 51)
  have hq0 := hbs.size
  generalize w1.alloc (.cells #[] 51) = W2 at *
  generalize w1.heap.size = q at *
  have lq : b < q := lb
  have hp := fun (n : Int) (j : Nat) (h1 : 1 ≤ n) (h2 : n ≤ 1099511627776) (hj : j < 900000) (w' : World) (hs : Src w' b j) => pick_any b j n (by omega) h1 h2 w' hs
  go_upto_region 4 with (go_at_call 57; refine (hp 5 0 (by decide) (by decide) (by omega) _ hs2).mono ?_; rintro e w3 ⟨x, ⟨x0, x1⟩, rfl, hs3, hg3⟩)
  have hG := hG.grown hg3 (fun e => by injection e; omega)
  have hbs := hbs.grown hg3 (by have := hbs.size; omega) (fun k e => by injection e; omega)
  obtain ⟨X, hX⟩ : ∃ X : Nat, (X : Int) = x := ⟨x.toNat, by omega⟩
  subst hX
  have hX3 : X ≤ 4 := by omega
  clear hs hs2 hg3 x0 x1 hfr
  go_loopw [4, 5] (fun y i wr => ∃ (j m gb : Nat) (Q : Nat → Wl), j + m ≤ 4 ∧ i = .int .i64 j ∧ Own wr gb 51 3 y m (lws m Q) ∧ (∀ i, i < m → WlD (Q i)) ∧ Src wr b (2 + 8 * m) ∧ q ≤ gb ∧ Below w.heap.size w wr) (fun _ i _ => (intOf i).toNat)
  case atStart => exact ⟨X, 0, q, _, by omega, rfl, hG, fun i hi => by omega, hs3, Nat.le_refl _, hbs⟩
  case round =>
    clear hG hs3 hbs hX3
    obtain ⟨j, m, gb, Q, hjm, rfl, hG, hQ, hsr, hgb, hbs⟩ := hrel
    by_cases hlt : 0 < j
    · have bj : (0 : Int) < j := by omega
      have HQ := Lib.hid hQ
      clear hQ
      have eb := hbs.size
      have lsr := hsr.lt
      have lG := hG.lt
      go_upto_region 7 with (first | (go_at_call 57; refine (hp 16 (2 + 8 * m) (by decide) (by decide) (by omega) _ hsr).mono ?_; rintro e w4 ⟨x, ⟨x0, x1⟩, rfl, hs4, hg4⟩; clear hsr) | (go_at_call 57; refine (hp 16 (2 + 8 * m + 2) (by decide) (by decide) (by omega) _ hs4).mono ?_; rintro e w5 ⟨y, ⟨y0, y1⟩, rfl, hs5, hg5⟩))
      have e4 := hg4.size
      have e5 := hg5.size
      have l5 := hs5.lt
      have hB5 := Blk.new w5 #[.int .i8 (x - 4), .int .i8 (y - 4), .float .f32 0] 51
      have hs6 : Src (w5.alloc (.cells #[.int .i8 (x - 4), .int .i8 (y - 4), .float .f32 0] 51)) b (2 + 8 * m + 4) := (hs5.mono (by omega)).move fun r hr => heap_alloc_old w5 _ (by omega)
      have hG5 := ((hG.grown hg4 (fun e => by injection e; omega)).grown hg5 (fun e => by injection e; omega)).alloc (.cells #[.int .i8 (x - 4), .int .i8 (y - 4), .float .f32 0] 51)
      have hbs5 := (((hbs.grown hg4 eb (fun k e => by injection e; omega)).grown hg5 (by omega) (fun k e => by injection e; omega)).alloc (by omega) (.cells #[.int .i8 (x - 4), .int .i8 (y - 4), .float .f32 0] 51))
      have s5 : w5.heap.size < (w5.alloc (.cells #[.int .i8 (x - 4), .int .i8 (y - 4), .float .f32 0] 51)).heap.size := hB5.lt
      generalize w5.alloc (.cells #[.int .i8 (x - 4), .int .i8 (y - 4), .float .f32 0] 51) = W5 at *
      obtain ⟨r, hr⟩ : ∃ r, w5.heap.size = r := ⟨_, rfl⟩
      rw [hr] at hB5 s5 ⊢
      have lbr : b < r := by omega
      have lgr : gb < r := by omega
      have l0r : w.heap.size ≤ r := by omega
      have hnum := l03Number_any b (2 + 8 * m + 4) (by omega) W5 hs6
      clear hs4 hs5 hs6 hg4 hg5 e4 e5 l5 hG hbs
      go_upto_region 8 with (first | (go_at_call 58; refine hnum.mono ?_; rintro e w6 ⟨z, ⟨t, ht, rfl⟩, rfl, hs7, hg6⟩; have hB6 := hB5.grown hg6 (fun e => by injection e; omega)) | (refine wpList_store_abs (v := .float .f32 (numOf t)) rfl rfl rfl rfl szF32W rfl rfl hB6 (by simp) ?_; intro W6 hB7 hgB))
      have hB8 : Blk W6 r #[.int .i8 (x - 4), .int .i8 (y - 4), .float .f32 (numOf t)] 51 := hB7
      have hG7 := (hG5.grown hg6 (fun e => by injection e; omega)).grown hgB (fun e => by injection e; omega)
      have l7 := hB8.lt
      have e7 := hgB.size
      go_wp2_with (first | (refine wpList_load_blk rfl rfl rfl rowWl hB8 rfl ?_) | (at_builtin; refine wpList_app elWl rfl rfl rfl rfl (by decide) (hG7.alloc _) (Blk.new _ _ _) rfl ?_ ?_ ?_ ?_; (· intro u hu; simp at hu; rcases hu with rfl | rfl | rfl <;> rfl); (· unfold maxLen; omega); (· omega); intro v1 w7 g2 hown1 hgr1 hg1))
      have e6 := hg6.size
      have ls := hs7.lt
      go_roundw
      case rel =>
        refine ⟨j - 1, m + 1, g2, fun i => if i = m then ⟨x - 4, y - 4, numOf t⟩ else Q i, by omega, by rw [show ((j : Int) - 1) = ((j - 1 : Nat) : Int) by omega], ?_, ?_, ?_, ?_, ?_⟩
        · rw [lws_succ, if_pos rfl, lws_congr (P' := Q) (fun i hi => if_neg (by omega)), Wl.cells_eq]
          exact hown1
        · intro i hi
          by_cases him : i = m
          · simp only [him, if_true]; exact ⟨⟨by show -4 ≤ x - 4; omega, by show x - 4 ≤ 11; omega⟩, ⟨by show -4 ≤ y - 4; omega, by show y - 4 ≤ 11; omega⟩, t, ht, rfl⟩
          · simp only [him, if_false]; exact HQ.out i (by omega)
        · exact ((hs7.move fun r' hr' => hgB.block r' (by omega) (fun e => by injection e; omega)).mono (by omega)).move fun r' hr' => (hgr1.block r' (by simp; omega) (fun e => by injection e; omega)).trans (heap_alloc_old W6 _ (by omega))
        · rcases hg1 with h | h
          · omega
          · rw [h]; simp; omega
        · exact (((hbs5.grown hg6 (by have := hbs5.size; omega) (fun k e => by injection e; omega)).grown hgB (by have := hbs5.size; omega) (fun k e => by injection e; omega)).alloc (by omega) _).grown hgr1 (by simp; omega) (fun k e => by injection e; omega)
      case measure => simp [intOf]; omega
    · obtain rfl : j = 0 := by omega
      go_wp2_with fail
      go_ret
      exact ⟨_, gb, m, Q, by omega, rfl, by omega, hQ, hG, hbs⟩
end Go.Proofs.YtglimhkpndfjgaaGreatDoor
