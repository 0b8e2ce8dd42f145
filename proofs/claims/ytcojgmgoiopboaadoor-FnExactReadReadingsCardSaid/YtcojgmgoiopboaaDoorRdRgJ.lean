/- ReadReadings, in the program: the walk, continued. -/
import Derived.Test.YtcojgmgoiopboaaDoorRdRgI
namespace Go.Proofs.YtcojgmgoiopboaaDoor
open Go.ChangeShapes Go.WideShapes Go.ChangeAt Go.RowKit
set_option linter.unusedVariables false
set_option linter.unusedSimpArgs false
attribute [local irreducible] Calls

/-- The words of row j lie in memory. -/
def RowAtG (W : World) (g j : Nat) (ws : List (List UInt8)) : Prop :=
  ∃ b cap, W.cell? ⟨g, j, none⟩ = some (.slice (some ⟨b, 0, none⟩) 2 cap) ∧ 2 ≤ cap ∧ b < W.heap.size ∧ W.cell? ⟨b, 0, none⟩ = some (.string ⟨(ws.getD 0 []).toArray⟩) ∧ W.cell? ⟨b, 1, none⟩ = some (.string ⟨(ws.getD 1 []).toArray⟩)
theorem rows_ofG {w0 W : World} {l : List UInt8} {v : Value} {ok : Bool} (h : LinesRet w0 l 2 40 W v ok) :
    ∃ a n cap, v = .slice a n cap ∧ n ≤ 40 ∧ n ≤ cap ∧ ((goodTo l 2 40 (linesL l).length ∧ ok = true ∧ n = (linesL l).length) ∨ (¬ goodTo l 2 40 (linesL l).length ∧ ok = false ∧ n = 0)) ∧ (n = 0 ∨ ∃ g, a = some ⟨g, 0, none⟩ ∧ g < W.heap.size ∧ ∀ j, j < n → RowAtG W g j (lineWs ((linesL l).getD j []))) := by
  rcases h with ⟨hg, hok, g, vs, hg1, hO, hr⟩ | ⟨hg, hok, rfl⟩
  · obtain ⟨cap, rfl, hc1, hc2⟩ := hO.form
    refine ⟨_, _, _, rfl, hg.1, hc1, .inl ⟨hg, hok, rfl⟩, .inr ⟨g, rfl, hO.lt, fun j hj => ?_⟩⟩
    obtain ⟨b, u, h1, h2, h3⟩ := hr j hj
    have h3n := hg.2 j hj
    rw [h3n] at h3
    obtain ⟨cap3, rfl, hc3, hc4⟩ := h3.form
    have hget := fun i (hi : i < 2) => (h3.cell i (by omega)).trans (strs_getD (L := lineWs ((linesL l).getD j [])) (i := i) (by omega))
    exact ⟨b, cap3, (hO.cell j (by omega)).trans h1, hc3, h3.lt, hget 0 (by omega), hget 1 (by omega)⟩
  · exact ⟨none, 0, 0, rfl, by omega, by omega, .inr ⟨hg, hok, rfl⟩, .inl rfl⟩
set_option maxRecDepth 100000 in
set_option maxHeartbeats 4000000 in
theorem readReadingsI_any (s : ByteArray) (hs : s.size ≤ 1048576) (w : World) (hV : ParseVars w) (htab : Lib.TabIs Tryd.prog w "internal/strconv.uint64pow10" .u64 Lib.pow10Tab) (m : Int) (hm : w.cell? ⟨3, 0, none⟩ = some (.int .i64 m)) :
    Calls Tryd.prog 16 #[.string s] w fun e w' => ∃ v, e = .returned (.tuple #[v, .int .i64 (rgC s.data.toList)]) ∧ ∃ r, w.heap.size ≤ r ∧ ResR w' r v (rgM s.data.toList) (rdG s.data.toList) ∧ Below w.heap.size w w' := by
  have hlw : Calls Tryd.prog 30 #[.string s, .int .i64 2, .int .i64 40] w fun e w' => ∃ v ok, e = .returned (.tuple #[v, .bool ok]) ∧ Below w.heap.size w w' ∧ LinesRet w s.data.toList 2 40 w' v ok := lineWords_any s hs 2 40 (by decide) (by decide) w m hm
  have hst : (⟨s.data.toList.toArray⟩ : ByteArray) = s := rfl
  have hll : s.data.toList.length = s.size := rfl
  have HST := Lib.hid hst
  have HV := Lib.hid hV
  have HT := Lib.hid htab
  clear hst hV htab
  generalize s.data.toList = l at *
  have hll2 : l.length ≤ 1048576 := by omega
  have HG := Lib.hid (goodRg_I l)
  have HS := Lib.hid (fun h : goodRg l => goodRg_same h)
  go_enter Tryd.func16, Tryd.ntmps16
  go_upto_region 2 with (go_at_call 30; refine hlw.mono ?_; rintro e wa ⟨v4, ok, rfl, hb1, hret⟩)
  clear hlw hm
  obtain ⟨a4, n, cap4, rfl, hn40, hnc, hcase, hrows⟩ := rows_ofG hret
  clear hret
  have HR := Lib.hid hrows
  have HC := Lib.hid hcase
  clear hrows hcase
  go_upto_region 3 with fail
  have hO : Own (wa.alloc (.cells #[] 66)) wa.heap.size 66 2 (.slice (some ⟨wa.heap.size, 0, none⟩) 0 0) 0 (rgs 0 (rgI l)) := by rw [rgs_zero]; exact own_blk (Blk.new _ _ _) rfl (by decide) rfl
  have hbel := below1 wa (.cells #[] 66)
  have hz := hb1.size
  generalize wa.alloc (.cells #[] 66) = W at *
  go_upto_region 4 with fail
  go_loopw [6, 17] (fun vl vi wr => ∃ (k : Nat), vi = .int .i64 k ∧ k ≤ n ∧ Below wa.heap.size wa wr ∧ ∃ g, Own wr g 66 2 vl k (rgs k (rgI l)) ∧ wa.heap.size ≤ g) (fun _ vi _ => n - (intOf vi).toNat)
  case atStart => exact ⟨0, rfl, by omega, hbel, _, hO, Nat.le_refl _⟩
  case round =>
    clear hO hbel
    obtain ⟨k, rfl, hk, hbel, g, hO, hg⟩ := hrel
    have bk : (0 : Int) ≤ k := by omega
    have hzr := hbel.size
    obtain ⟨cap, rfl, hcp1, hcp2⟩ := hO.form
    have hbw := hb1.trans (hbel.mono hz)
    by_cases hlt : k < n
    · have bl : (k : Int) < n := by omega
      obtain ⟨g4, rfl, l_g4, hrow⟩ := HR.out.resolve_left (by omega)
      obtain ⟨b, capb, r0, hcb, l_b0, r1, r2⟩ := hrow k hlt
      have q0 := (hbel.cell (p := ⟨g4, k, none⟩) l_g4).trans r0
      have c0 := (hbel.cell (p := ⟨b, 0, none⟩) l_b0).trans r1
      have c1' := (hbel.cell (p := ⟨b, 1, none⟩) l_b0).trans r2
      have l_b : b < wr.heap.size := by omega
      clear r0 r1 r2 hrow
      have hVr := HV.out.below hbw
      have hn0 := fun w' (hb' : Below wr.heap.size wr w') => numberOf_any ⟨((lineWs ((linesL l).getD k [])).getD 0 []).toArray⟩ (by rw [size_of]; exact Nat.le_trans (lineWs_le l k 0) hll2) 1 100000 w' (hVr.below hb')
      have hn1 := fun w' (hb' : Below wr.heap.size wr w') => numberOf_any ⟨((lineWs ((linesL l).getD k [])).getD 1 []).toArray⟩ (by rw [size_of]; exact Nat.le_trans (lineWs_le l k 1) hll2) (-32768) 32767 w' (hVr.below hb')
      rw [show (⟨((lineWs ((linesL l).getD k [])).getD 0 []).toArray⟩ : ByteArray).data.toList = (lineWs ((linesL l).getD k [])).getD 0 [] by simp] at hn0
      rw [show (⟨((lineWs ((linesL l).getD k [])).getD 1 []).toArray⟩ : ByteArray).data.toList = (lineWs ((linesL l).getD k [])).getD 1 [] by simp] at hn1
      have hin := rgI_in l k
      have hcl : (rgI l k).cells = #[.int .i64 (rgI l k).tim, .int .i16 (rgI l k).lev] := Rg.cells_eq _
      have ho : (rgI l k).tim = numZ 1 100000 ((lineWs ((linesL l).getD k [])).getD 0 []) := rfl
      have hce : (rgI l k).lev = numZ (-32768) 32767 ((lineWs ((linesL l).getD k [])).getD 1 []) := rfl
      rw [ho, hce] at hcl
      rw [ho, hce] at hin
      have HCL := Lib.hid hcl
      clear hcl ho hce hVr
      generalize (lineWs ((linesL l).getD k [])).getD 0 [] = s0 at *
      generalize (lineWs ((linesL l).getD k [])).getD 1 [] = s1 at *
      generalize numZ 1 100000 s0 = x0 at *
      generalize numZ (-32768) 32767 s1 = x1 at *
      have z1 : IntKind.i16.wrap x1 = x1 := wrap16s _ (by omega)
      go_upto_region 6 with fail
      refine wp_splitK 12 (C := fun w' => Below wr.heap.size wr w') (R := fun w w' => Below w.heap.size w w') (F := fun ww dd vv => match dd, vv with
        | 21, vv => vv = .slice (some ⟨g, 0, none⟩) k cap
        | 22, vv => vv = .slice (some ⟨b, 0, none⟩) 2 capb
        | 23, vv => vv = .pointer (some ⟨b, 0, none⟩)
        | 24, vv => vv = .string ⟨(s0).toArray⟩
        | 25, vv => vv = .int .i64 x0
        | 26, vv => vv = .slice (some ⟨b, 0, none⟩) 2 capb
        | 27, vv => vv = .pointer (some ⟨b, 1, none⟩)
        | 28, vv => vv = .string ⟨(s1).toArray⟩
        | 29, vv => vv = .int .i64 x1
        | 30, vv => vv = .int .i16 x1
        | 31, vv => vv = .agg (#[.int .i64 x0, .int .i16 x1])
        | 32, vv => ∃ q, wr.heap.size ≤ q ∧ vv = .slice (some ⟨q, 0, none⟩) 1 1 ∧ Blk ww q #[.int .i64 x0, .int .i16 x1] 66
        | _, _ => True) (fun wa wb d v hRR => by split <;> intro hFF <;> first | exact hFF | (obtain ⟨q, h1, h2, h3⟩ := hFF; exact ⟨q, h1, h2, h3.below hRR h3.lt⟩)) (by kernel_rfl) (by kernel_rfl) (by kernel_rfl) (Below.refl _ _).drew ?_ ?_
      · refine ⟨step_go rfl fun ev w1 hC kn => ?_, ?_⟩
        · have e1 : ev (.tmp 6) = .slice (some ⟨g, 0, none⟩) k cap := kn.out 6 rfl rfl rfl
          exact good_of (v := .slice (some ⟨g, 0, none⟩) k cap) rfl (by simp [execOp, e1, kn.con, go_sem]) hC (Below.refl _ _) rfl
        refine ⟨step_go rfl fun ev w1 hC kn => ?_, ?_⟩
        · have e1 : ev (.tmp 8) = .slice (some ⟨b, 0, none⟩) 2 capb := kn.out 8 rfl rfl rfl
          exact good_of (v := .slice (some ⟨b, 0, none⟩) 2 capb) rfl (by simp [execOp, e1, kn.con, go_sem]) hC (Below.refl _ _) rfl
        refine ⟨step_go rfl fun ev w1 hC kn => ?_, ?_⟩
        · have e1 : ev (.tmp 22) = .slice (some ⟨b, 0, none⟩) 2 capb := kn.inn 22 rfl rfl
          exact good_of (v := .pointer (some ⟨b, 0, none⟩)) rfl (by simp [execOp, e1, kn.con, go_sem]) hC (Below.refl _ _) rfl
        refine ⟨step_go rfl fun ev w1 hC kn => ?_, ?_⟩
        · have e1 : ev (.tmp 23) = .pointer (some ⟨b, 0, none⟩) := kn.inn 23 rfl rfl
          have c1 := (hC.cell (p := ⟨b, 0, none⟩) l_b).trans c0
          exact good_of (v := .string ⟨(s0).toArray⟩) rfl (by simp [execOp, e1, go_sem, c1]) hC (Below.refl _ _) rfl
        refine ⟨step_go rfl fun ev w1 hC kn => ?_, ?_⟩
        · have e1 : ev (.tmp 24) = .string ⟨(s0).toArray⟩ := kn.inn 24 rfl rfl
          refine good_call (f := 31) (args := #[.string ⟨(s0).toArray⟩, .int .i64 1, .int .i64 100000]) rfl (by simp [execOp, e1, kn.fn, kn.con, go_sem]) ((hn0 w1 hC).mono fun e w2 ⟨he, hb⟩ => ⟨_, he, hC.trans (hb.mono hC.size), hb, rfl⟩)
        refine ⟨step_go rfl fun ev w1 hC kn => ?_, ?_⟩
        · have e1 : ev (.tmp 8) = .slice (some ⟨b, 0, none⟩) 2 capb := kn.out 8 rfl rfl rfl
          exact good_of (v := .slice (some ⟨b, 0, none⟩) 2 capb) rfl (by simp [execOp, e1, kn.con, go_sem]) hC (Below.refl _ _) rfl
        refine ⟨step_go rfl fun ev w1 hC kn => ?_, ?_⟩
        · have e1 : ev (.tmp 26) = .slice (some ⟨b, 0, none⟩) 2 capb := kn.inn 26 rfl rfl
          exact good_of (v := .pointer (some ⟨b, 1, none⟩)) rfl (by simp [execOp, e1, kn.con, go_sem]) hC (Below.refl _ _) rfl
        refine ⟨step_go rfl fun ev w1 hC kn => ?_, ?_⟩
        · have e1 : ev (.tmp 27) = .pointer (some ⟨b, 1, none⟩) := kn.inn 27 rfl rfl
          have c1 := (hC.cell (p := ⟨b, 1, none⟩) l_b).trans c1'
          exact good_of (v := .string ⟨(s1).toArray⟩) rfl (by simp [execOp, e1, go_sem, c1]) hC (Below.refl _ _) rfl
        refine ⟨step_go rfl fun ev w1 hC kn => ?_, ?_⟩
        · have e1 : ev (.tmp 28) = .string ⟨(s1).toArray⟩ := kn.inn 28 rfl rfl
          refine good_call (f := 31) (args := #[.string ⟨(s1).toArray⟩, .int .i64 (-32768), .int .i64 32767]) rfl (by simp [execOp, e1, kn.fn, kn.con, go_sem]) ((hn1 w1 hC).mono fun e w2 ⟨he, hb⟩ => ⟨_, he, hC.trans (hb.mono hC.size), hb, rfl⟩)
        refine ⟨step_go rfl fun ev w1 hC kn => ?_, ?_⟩
        · have e1 : ev (.tmp 29) = .int .i64 x1 := kn.inn 29 rfl rfl
          exact good_of (v := .int .i16 x1) rfl (by simp [execOp, e1, go_sem, z1]) hC (Below.refl _ _) rfl
        refine ⟨step_go rfl fun ev w1 hC kn => ?_, ?_⟩
        · have e1 : ev (.tmp 25) = .int .i64 x0 := kn.inn 25 rfl rfl
          have e2 : ev (.tmp 30) = .int .i16 x1 := kn.inn 30 rfl rfl
          exact good_of (v := .agg (#[.int .i64 x0, .int .i16 x1])) rfl (by simp [execOp, e1, e2, go_sem]) hC (Below.refl _ _) rfl
        refine ⟨step_go rfl fun ev w1 hC kn => ?_, ?_⟩
        · have e1 : ev (.tmp 31) = .agg (#[.int .i64 x0, .int .i16 x1]) := kn.inn 31 rfl rfl
          exact good_of (v := .slice (some ⟨w1.heap.size, 0, none⟩) 1 1) (w' := w1.alloc (.cells #[.int .i64 x0, .int .i16 x1] 66)) rfl (by simp [execOp, e1, go_sem]) (hC.alloc hC.size _) (below1 _ _) ⟨_, hC.size, rfl, Blk.new _ _ _⟩
        exact trivial
      rintro xv w1 hxv hC
      have y21 : xv 21 = .slice (some ⟨g, 0, none⟩) k cap := hxv 21 (by decide)
      obtain ⟨q32, lq32, y32, bq32⟩ : ∃ q, wr.heap.size ≤ q ∧ xv 32 = .slice (some ⟨q, 0, none⟩) 1 1 ∧ Blk w1 q #[.int .i64 x0, .int .i16 x1] 66 := hxv 32 (by decide)
      simp only [fill, dstsOf, List.filterMap_cons, List.filterMap_nil, List.foldl_cons, List.foldl_nil, List.set_cons_succ, List.set_cons_zero, List.take_succ_cons, List.take_zero, List.drop_succ_cons, List.drop_zero, y21, y32]
      clear hxv y21 y32
      have hO := hO.below hC hO.lt
      have hbel := hbel.trans (hC.mono hzr)
      have hzs := hbel.size
      clear c0 c1' q0 hbw hn0 hn1 hC
      go_wp2_with (at_builtin; refine wpList_app elRg rfl rfl rfl rfl (by decide) hO bq32 rfl ?_ ?_ ?_ ?_; (· intro u hu; simp at hu; rcases hu with rfl | rfl <;> rfl); (· unfold maxLen; omega); (· omega); intro v1 w3 g1 hown hgr hg1)
      have hb3 := hbel.grown hgr (by omega) (fun q hq => by injection hq with hq; omega)
      go_roundw
      case rel => exact ⟨k + 1, by go_num, by omega, hb3, g1, by rw [rgs_succ, HCL.out]; exact hown, by omega⟩
      case measure => simp [intOf]; omega
    · obtain rfl : k = n := by omega
      rcases HC.out with ⟨hgt, rfl, hN⟩ | ⟨hgt, rfl, hN⟩
      · have hvr := validReadings_any k hn40 (rgI l) (.slice (some ⟨g, 0, none⟩) k cap) wr hO.rsl
        cases hT : okT (rgI l) k <;> rw [hT] at hvr
        · have hgd : ¬ goodRg l := fun q => by have := (HG.out.1 q).2.1; rw [← hN, hT] at this; cases this
          have HBD := Lib.hid (rg_bad hgd)
          clear hgt hN hgd hT
          go_wp2_with (go_at_call 35; refine hvr.mono ?_; rintro e w2 ⟨rfl, hb2⟩)
          go_ret2
          exact ⟨_, congrArg (fun x => Ending.returned (.tuple #[_, .int .i64 x])) HBD.out.1.symm, _, Nat.le_refl _, by rw [HBD.out.2]; exact .inl ⟨rfl, _, _, rfl, by decide⟩, hbw.trans (hb2.mono hbw.size)⟩
        · have hbd := fun i (hi : i < k) => And.intro (okT_in hT i hi) (rgI_in l i).2
          have hpt := fun w2 (hb2 : Below wr.heap.size wr w2) => readingsText_any k hn40 (rgI l) hbd (.slice (some ⟨g, 0, none⟩) k cap) w2 (hO.rsl.below hb2) (tab_below (tab_below HT.out hbw) hb2)
          by_cases he : txtRg (rgI l) k = l
          · have hgd : goodRg l := HG.out.2 ⟨hgt, by rw [← hN]; exact hT, by rw [← hN]; exact he⟩
            have HGD := Lib.hid (rg_good hgd)
            have hsm := HS.out hgd
            have HRES : Hid (rgM l = k ∧ rgs k (rdG l) = rgs k (rgI l)) := Lib.hid ⟨by rw [HGD.out.2, hsm.1, ← hN], rgs_congr fun i hi => hsm.2 i (by rw [hsm.1, ← hN]; exact hi)⟩
            have hs' : (⟨(txtRg (rgI l) k).toArray⟩ : ByteArray) = s := by rw [he]; exact HST.out
            rw [hs'] at hpt
            clear hgt hN hgd hsm hs' he hT hbd
            go_wp2_with (first | (go_at_call 35; refine hvr.mono ?_; rintro e w2 ⟨rfl, hb2⟩) | (go_at_call 36; refine (hpt _ hb2).mono ?_; rintro e w3 ⟨rfl, hb3⟩))
            go_ret2
            have hb4 := hb2.trans (hb3.mono hb2.size)
            exact ⟨_, congrArg (fun x => Ending.returned (.tuple #[_, .int .i64 x])) HGD.out.1.symm, g, by omega, by rw [HRES.out.1]; right; rw [HRES.out.2]; exact hO.below hb4 hO.lt, hbw.trans (hb4.mono hbw.size)⟩
          · have hgd : ¬ goodRg l := fun q => he (by have := (HG.out.1 q).2.2; rw [← hN] at this; exact this)
            have HBD := Lib.hid (rg_bad hgd)
            have hne : ((⟨(txtRg (rgI l) k).toArray⟩ : ByteArray).toList == s.toList) = false := by
              rw [← HST.out, ByteArray.toList_mk, ByteArray.toList_mk]
              simpa using he
            generalize (⟨(txtRg (rgI l) k).toArray⟩ : ByteArray) = T at *
            clear hgt hN hgd he hT hbd
            go_wp2_with (first | (go_at_call 35; refine hvr.mono ?_; rintro e w2 ⟨rfl, hb2⟩) | (go_at_call 36; refine (hpt _ hb2).mono ?_; rintro e w3 ⟨rfl, hb3⟩))
            go_ret2
            have hb4 := hb2.trans (hb3.mono hb2.size)
            exact ⟨_, congrArg (fun x => Ending.returned (.tuple #[_, .int .i64 x])) HBD.out.1.symm, _, Nat.le_refl _, by rw [HBD.out.2]; exact .inl ⟨rfl, _, _, rfl, by decide⟩, hbw.trans (hb4.mono hbw.size)⟩
      · have hgd : ¬ goodRg l := fun q => hgt (HG.out.1 q).1
        have HBD := Lib.hid (rg_bad hgd)
        clear hgt hN hgd
        go_wp2_with fail
        go_ret2
        exact ⟨_, congrArg (fun x => Ending.returned (.tuple #[_, .int .i64 x])) HBD.out.1.symm, _, Nat.le_refl _, by rw [HBD.out.2]; exact .inl ⟨rfl, _, _, rfl, by decide⟩, hbw⟩
end Go.Proofs.YtcojgmgoiopboaaDoor
