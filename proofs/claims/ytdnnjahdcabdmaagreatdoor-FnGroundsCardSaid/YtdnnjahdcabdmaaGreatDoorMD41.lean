import Derived.Test.YtdnnjahdcabdmaaGreatDoorMD39
import Derived.Test.YtdnnjahdcabdmaaGreatDoorMD40
import Derived.Test.YtdnnjahdcabdmaaGreatDoorMD18
/- ReadPermits, in the program: the walk. -/
namespace Go.Proofs.YtdnnjahdcabdmaaGreatDoor
open Go.ChangeShapes Go.WideShapes Go.ChangeAt Go.RowKit
set_option linter.unusedVariables false
set_option linter.unusedSimpArgs false
attribute [local irreducible] Calls

/-- The words of row j lie in memory. -/
def RowAt (B : Nat) (W : World) (g j : Nat) (ws : List (List UInt8)) : Prop :=
  ∃ b cap, W.cell? ⟨g, j, none⟩ = some (.slice (some ⟨b, 0, none⟩) 3 cap) ∧ 3 ≤ cap ∧ b < W.heap.size ∧ W.cell? ⟨b, 0, none⟩ = some (.string ⟨(ws.getD 0 []).toArray⟩) ∧ W.cell? ⟨b, 1, none⟩ = some (.string ⟨(ws.getD 1 []).toArray⟩) ∧ W.cell? ⟨b, 2, none⟩ = some (.string ⟨(ws.getD 2 []).toArray⟩)
theorem rows_of {w0 W : World} {l : List UInt8} {v : Value} {ok : Bool} (h : LinesRet w0 l 3 6 W v ok) :
    ∃ a n cap, v = .slice a n cap ∧ n ≤ 6 ∧ n ≤ cap ∧ ((goodTo l 3 6 (linesL l).length ∧ ok = true ∧ n = (linesL l).length) ∨ (¬ goodTo l 3 6 (linesL l).length ∧ ok = false ∧ n = 0)) ∧ (n = 0 ∨ ∃ g, a = some ⟨g, 0, none⟩ ∧ g < W.heap.size ∧ ∀ j, j < n → RowAt w0.heap.size W g j (lineWs ((linesL l).getD j []))) := by
  rcases h with ⟨hg, hok, g, vs, hg1, hO, hr⟩ | ⟨hg, hok, rfl⟩
  · obtain ⟨cap, rfl, hc1, hc2⟩ := hO.form
    refine ⟨_, _, _, rfl, hg.1, hc1, .inl ⟨hg, hok, rfl⟩, .inr ⟨g, rfl, hO.lt, fun j hj => ?_⟩⟩
    obtain ⟨b, u, h1, h2, h3⟩ := hr j hj
    have h3n := hg.2 j hj
    rw [h3n] at h3
    obtain ⟨cap3, rfl, hc3, hc4⟩ := h3.form
    have hget := fun i (hi : i < 3) => (h3.cell i (by omega)).trans (strs_getD (L := lineWs ((linesL l).getD j [])) (i := i) (by omega))
    exact ⟨b, cap3, (hO.cell j (by omega)).trans h1, hc3, h3.lt, hget 0 (by omega), hget 1 (by omega), hget 2 (by omega)⟩
  · exact ⟨none, 0, 0, rfl, by omega, by omega, .inr ⟨hg, hok, rfl⟩, .inl rfl⟩
theorem lineWs_le (l : List UInt8) (j i : Nat) : ((lineWs ((linesL l).getD j [])).getD i []).length ≤ l.length := by
  have h1 := splitL_get_le 32 (Lib.trimSuffix ((linesL l).getD j []) [10]) i
  have h2 : (Lib.trimSuffix ((linesL l).getD j []) [10]).length ≤ ((linesL l).getD j []).length := by
    unfold Lib.trimSuffix; split
    · simp
    · exact Nat.le_refl _
  have h3 : ((linesL l).getD j []).length ≤ l.length := by
    rw [List.getD_eq_getElem?_getD]
    by_cases hj : j < (linesL l).length
    · rw [List.getElem?_eq_getElem hj]
      have h := (leftL_step hj).1
      have hlen := leftL_len l j
      rw [h] at hlen; simp at hlen
      show (linesL l)[j].length ≤ _
      omega
    · rw [List.getElem?_eq_none (by omega)]; simp
  exact Nat.le_trans h1 (Nat.le_trans h2 h3)
set_option maxRecDepth 100000 in
set_option maxHeartbeats 4000000 in
theorem readPermitsI_any (s : ByteArray) (hs : s.size ≤ 1048576) (w : World) (hV : ParseVars w) (htab : Lib.TabIs Tryz.prog w "internal/strconv.uint64pow10" .u64 Lib.pow10Tab) (m : Int) (hm : w.cell? ⟨1, 0, none⟩ = some (.int .i64 m)) :
    Calls Tryz.prog 8 #[.string s] w fun e w' => ∃ v, e = .returned (.tuple #[v, .int .i64 (rdC s.data.toList)]) ∧ ∃ r, w.heap.size ≤ r ∧ Res w' r v (rdM s.data.toList) (rdP s.data.toList) ∧ Below w.heap.size w w' := by
  have hlw : Calls Tryz.prog 46 #[.string s, .int .i64 3, .int .i64 6] w fun e w' => ∃ v ok, e = .returned (.tuple #[v, .bool ok]) ∧ Below w.heap.size w w' ∧ LinesRet w s.data.toList 3 6 w' v ok := lineWords_any s hs 3 6 (by decide) (by decide) w m hm
  have hst : (⟨s.data.toList.toArray⟩ : ByteArray) = s := rfl
  have hll : s.data.toList.length = s.size := rfl
  have HST := Lib.hid hst
  have HV := Lib.hid hV
  have HT := Lib.hid htab
  clear hst hV htab
  generalize s.data.toList = l at *
  have hll2 : l.length ≤ 1048576 := by omega
  have HG := Lib.hid (goodPm_I l)
  have HS := Lib.hid (fun h : goodPm l => goodPm_same h)
  go_enter Tryz.func8, Tryz.ntmps8
  go_upto_region 2 with (go_at_call 46; refine hlw.mono ?_; rintro e wa ⟨v4, ok, rfl, hb1, hret⟩)
  clear hlw hm
  obtain ⟨a4, n, cap4, rfl, hn6, hnc, hcase, hrows⟩ := rows_of hret
  clear hret
  have HR := Lib.hid hrows
  have HC := Lib.hid hcase
  clear hrows hcase
  go_upto_region 3 with fail
  have hO : Own (wa.alloc (.cells #[] 59)) wa.heap.size 59 3 (.slice (some ⟨wa.heap.size, 0, none⟩) 0 0) 0 (pls 0 (pmI l)) := by rw [pls_zero]; exact own_blk (Blk.new _ _ _) rfl (by decide) rfl
  have hbel := below1 wa (.cells #[] 59)
  have hz := hb1.size
  generalize wa.alloc (.cells #[] 59) = W at *
  go_upto_region 4 with fail
  go_loopw [6, 17] (fun vl vi wr => ∃ (k : Nat), vi = .int .i64 k ∧ k ≤ n ∧ Below wa.heap.size wa wr ∧ ∃ g, Own wr g 59 3 vl k (pls k (pmI l)) ∧ wa.heap.size ≤ g) (fun _ vi _ => n - (intOf vi).toNat)
  case atStart => exact ⟨0, rfl, by omega, hbel, _, hO, Nat.le_refl _⟩
  case round =>
    clear hO hbel
    obtain ⟨k, rfl, hk, hbel, g, hO, hg⟩ := hrel
    have bk : (0 : Int) ≤ k := by omega
    have hzr := hbel.size
    obtain ⟨cap, rfl, hcp1, hcp2⟩ := hO.form
    have hbw := hb1.trans (hbel.mono hz)
    by_cases hlt : k < n
    · have bl : (k : Int) < n := by omega
      obtain ⟨g4, rfl, l_g4, hrow⟩ := HR.out.resolve_left (by omega)
      obtain ⟨b, capb, r0, hcb, l_b0, r1, r2, r3⟩ := hrow k hlt
      have q0 := (hbel.cell (p := ⟨g4, k, none⟩) l_g4).trans r0
      have c0 := (hbel.cell (p := ⟨b, 0, none⟩) l_b0).trans r1
      have c1' := (hbel.cell (p := ⟨b, 1, none⟩) l_b0).trans r2
      have c2 := (hbel.cell (p := ⟨b, 2, none⟩) l_b0).trans r3
      have l_b : b < wr.heap.size := by omega
      clear r0 r1 r2 r3 hrow
      have hVr := HV.out.below hbw
      have hn0 := fun w' (hb' : Below wr.heap.size wr w') => numberOf_any ⟨((lineWs ((linesL l).getD k [])).getD 0 []).toArray⟩ (by rw [size_of]; exact Nat.le_trans (lineWs_le l k 0) hll2) 0 7 w' (hVr.below hb')
      have hn1 := fun w' (hb' : Below wr.heap.size wr w') => numberOf_any ⟨((lineWs ((linesL l).getD k [])).getD 1 []).toArray⟩ (by rw [size_of]; exact Nat.le_trans (lineWs_le l k 1) hll2) 0 63 w' (hVr.below hb')
      have hn2 := fun w' (hb' : Below wr.heap.size wr w') => numberOf_any ⟨((lineWs ((linesL l).getD k [])).getD 2 []).toArray⟩ (by rw [size_of]; exact Nat.le_trans (lineWs_le l k 2) hll2) 0 400 w' (hVr.below hb')
      rw [show (⟨((lineWs ((linesL l).getD k [])).getD 0 []).toArray⟩ : ByteArray).data.toList = (lineWs ((linesL l).getD k [])).getD 0 [] by simp] at hn0
      rw [show (⟨((lineWs ((linesL l).getD k [])).getD 1 []).toArray⟩ : ByteArray).data.toList = (lineWs ((linesL l).getD k [])).getD 1 [] by simp] at hn1
      rw [show (⟨((lineWs ((linesL l).getD k [])).getD 2 []).toArray⟩ : ByteArray).data.toList = (lineWs ((linesL l).getD k [])).getD 2 [] by simp] at hn2
      have hin := pmI_in l k
      have hcl : (pmI l k).cells = #[.int .i8 (pmI l k).own, .int .i8 (pmI l k).cel, .int .i16 (pmI l k).rat] := Pm.cells_eq _
      have ho : (pmI l k).own = numZ 0 7 ((lineWs ((linesL l).getD k [])).getD 0 []) := rfl
      have hce : (pmI l k).cel = numZ 0 63 ((lineWs ((linesL l).getD k [])).getD 1 []) := rfl
      have hra : (pmI l k).rat = numZ 0 400 ((lineWs ((linesL l).getD k [])).getD 2 []) := rfl
      rw [ho, hce, hra] at hcl
      rw [ho, hce, hra] at hin
      have HCL := Lib.hid hcl
      clear hcl ho hce hra hVr
      generalize (lineWs ((linesL l).getD k [])).getD 0 [] = s0 at *
      generalize (lineWs ((linesL l).getD k [])).getD 1 [] = s1 at *
      generalize (lineWs ((linesL l).getD k [])).getD 2 [] = s2 at *
      generalize numZ 0 7 s0 = x0 at *
      generalize numZ 0 63 s1 = x1 at *
      generalize numZ 0 400 s2 = x2 at *
      have z0 : IntKind.i8.wrap x0 = x0 := wrap8 _ (by omega)
      have z1 : IntKind.i8.wrap x1 = x1 := wrap8 _ (by omega)
      have z2 : IntKind.i16.wrap x2 = x2 := wrap16 _ (by omega)
      go_upto_region 6 with fail
      refine wp_splitK 18 (C := fun w' => Below wr.heap.size wr w') (R := fun w w' => Below w.heap.size w w') (F := fun ww dd vv => match dd, vv with
        | 21, vv => vv = .slice (some ⟨g, 0, none⟩) k cap
        | 22, vv => vv = .slice (some ⟨b, 0, none⟩) 3 capb
        | 23, vv => vv = .pointer (some ⟨b, 0, none⟩)
        | 24, vv => vv = .string ⟨(s0).toArray⟩
        | 25, vv => vv = .int .i64 x0
        | 26, vv => vv = .int .i8 x0
        | 27, vv => vv = .slice (some ⟨b, 0, none⟩) 3 capb
        | 28, vv => vv = .pointer (some ⟨b, 1, none⟩)
        | 29, vv => vv = .string ⟨(s1).toArray⟩
        | 30, vv => vv = .int .i64 x1
        | 31, vv => vv = .int .i8 x1
        | 32, vv => vv = .slice (some ⟨b, 0, none⟩) 3 capb
        | 33, vv => vv = .pointer (some ⟨b, 2, none⟩)
        | 34, vv => vv = .string ⟨(s2).toArray⟩
        | 35, vv => vv = .int .i64 x2
        | 36, vv => vv = .int .i16 x2
        | 37, vv => vv = .agg (#[.int .i8 x0, .int .i8 x1, .int .i16 x2])
        | 38, vv => ∃ q, wr.heap.size ≤ q ∧ vv = .slice (some ⟨q, 0, none⟩) 1 1 ∧ Blk ww q #[.int .i8 x0, .int .i8 x1, .int .i16 x2] 59
        | _, _ => True) (fun wa wb d v hRR => by split <;> intro hFF <;> first | exact hFF | (obtain ⟨q, h1, h2, h3⟩ := hFF; exact ⟨q, h1, h2, h3.below hRR h3.lt⟩)) (by kernel_rfl) (by kernel_rfl) (by kernel_rfl) (Below.refl _ _).drew ?_ ?_
      · refine ⟨step_go rfl fun ev w1 hC kn => ?_, ?_⟩
        · have e1 : ev (.tmp 6) = .slice (some ⟨g, 0, none⟩) k cap := kn.out 6 rfl rfl rfl
          exact good_of (v := .slice (some ⟨g, 0, none⟩) k cap) rfl (by simp [execOp, e1, kn.con, go_sem]) hC (Below.refl _ _) rfl
        refine ⟨step_go rfl fun ev w1 hC kn => ?_, ?_⟩
        · have e1 : ev (.tmp 8) = .slice (some ⟨b, 0, none⟩) 3 capb := kn.out 8 rfl rfl rfl
          exact good_of (v := .slice (some ⟨b, 0, none⟩) 3 capb) rfl (by simp [execOp, e1, kn.con, go_sem]) hC (Below.refl _ _) rfl
        refine ⟨step_go rfl fun ev w1 hC kn => ?_, ?_⟩
        · have e1 : ev (.tmp 22) = .slice (some ⟨b, 0, none⟩) 3 capb := kn.inn 22 rfl rfl
          exact good_of (v := .pointer (some ⟨b, 0, none⟩)) rfl (by simp [execOp, e1, kn.con, go_sem]) hC (Below.refl _ _) rfl
        refine ⟨step_go rfl fun ev w1 hC kn => ?_, ?_⟩
        · have e1 : ev (.tmp 23) = .pointer (some ⟨b, 0, none⟩) := kn.inn 23 rfl rfl
          have c1 := (hC.cell (p := ⟨b, 0, none⟩) l_b).trans c0
          exact good_of (v := .string ⟨(s0).toArray⟩) rfl (by simp [execOp, e1, go_sem, c1]) hC (Below.refl _ _) rfl
        refine ⟨step_go rfl fun ev w1 hC kn => ?_, ?_⟩
        · have e1 : ev (.tmp 24) = .string ⟨(s0).toArray⟩ := kn.inn 24 rfl rfl
          refine good_call (f := 47) (args := #[.string ⟨(s0).toArray⟩, .int .i64 0, .int .i64 7]) rfl (by simp [execOp, e1, kn.fn, kn.con, go_sem]) ((hn0 w1 hC).mono fun e w2 ⟨he, hb⟩ => ⟨_, he, hC.trans (hb.mono hC.size), hb, rfl⟩)
        refine ⟨step_go rfl fun ev w1 hC kn => ?_, ?_⟩
        · have e1 : ev (.tmp 25) = .int .i64 x0 := kn.inn 25 rfl rfl
          exact good_of (v := .int .i8 x0) rfl (by simp [execOp, e1, go_sem, z0]) hC (Below.refl _ _) rfl
        refine ⟨step_go rfl fun ev w1 hC kn => ?_, ?_⟩
        · have e1 : ev (.tmp 8) = .slice (some ⟨b, 0, none⟩) 3 capb := kn.out 8 rfl rfl rfl
          exact good_of (v := .slice (some ⟨b, 0, none⟩) 3 capb) rfl (by simp [execOp, e1, kn.con, go_sem]) hC (Below.refl _ _) rfl
        refine ⟨step_go rfl fun ev w1 hC kn => ?_, ?_⟩
        · have e1 : ev (.tmp 27) = .slice (some ⟨b, 0, none⟩) 3 capb := kn.inn 27 rfl rfl
          exact good_of (v := .pointer (some ⟨b, 1, none⟩)) rfl (by simp [execOp, e1, kn.con, go_sem]) hC (Below.refl _ _) rfl
        refine ⟨step_go rfl fun ev w1 hC kn => ?_, ?_⟩
        · have e1 : ev (.tmp 28) = .pointer (some ⟨b, 1, none⟩) := kn.inn 28 rfl rfl
          have c1 := (hC.cell (p := ⟨b, 1, none⟩) l_b).trans c1'
          exact good_of (v := .string ⟨(s1).toArray⟩) rfl (by simp [execOp, e1, go_sem, c1]) hC (Below.refl _ _) rfl
        refine ⟨step_go rfl fun ev w1 hC kn => ?_, ?_⟩
        · have e1 : ev (.tmp 29) = .string ⟨(s1).toArray⟩ := kn.inn 29 rfl rfl
          refine good_call (f := 47) (args := #[.string ⟨(s1).toArray⟩, .int .i64 0, .int .i64 63]) rfl (by simp [execOp, e1, kn.fn, kn.con, go_sem]) ((hn1 w1 hC).mono fun e w2 ⟨he, hb⟩ => ⟨_, he, hC.trans (hb.mono hC.size), hb, rfl⟩)
        refine ⟨step_go rfl fun ev w1 hC kn => ?_, ?_⟩
        · have e1 : ev (.tmp 30) = .int .i64 x1 := kn.inn 30 rfl rfl
          exact good_of (v := .int .i8 x1) rfl (by simp [execOp, e1, go_sem, z1]) hC (Below.refl _ _) rfl
        refine ⟨step_go rfl fun ev w1 hC kn => ?_, ?_⟩
        · have e1 : ev (.tmp 8) = .slice (some ⟨b, 0, none⟩) 3 capb := kn.out 8 rfl rfl rfl
          exact good_of (v := .slice (some ⟨b, 0, none⟩) 3 capb) rfl (by simp [execOp, e1, kn.con, go_sem]) hC (Below.refl _ _) rfl
        refine ⟨step_go rfl fun ev w1 hC kn => ?_, ?_⟩
        · have e1 : ev (.tmp 32) = .slice (some ⟨b, 0, none⟩) 3 capb := kn.inn 32 rfl rfl
          exact good_of (v := .pointer (some ⟨b, 2, none⟩)) rfl (by simp [execOp, e1, kn.con, go_sem]) hC (Below.refl _ _) rfl
        refine ⟨step_go rfl fun ev w1 hC kn => ?_, ?_⟩
        · have e1 : ev (.tmp 33) = .pointer (some ⟨b, 2, none⟩) := kn.inn 33 rfl rfl
          have c1 := (hC.cell (p := ⟨b, 2, none⟩) l_b).trans c2
          exact good_of (v := .string ⟨(s2).toArray⟩) rfl (by simp [execOp, e1, go_sem, c1]) hC (Below.refl _ _) rfl
        refine ⟨step_go rfl fun ev w1 hC kn => ?_, ?_⟩
        · have e1 : ev (.tmp 34) = .string ⟨(s2).toArray⟩ := kn.inn 34 rfl rfl
          refine good_call (f := 47) (args := #[.string ⟨(s2).toArray⟩, .int .i64 0, .int .i64 400]) rfl (by simp [execOp, e1, kn.fn, kn.con, go_sem]) ((hn2 w1 hC).mono fun e w2 ⟨he, hb⟩ => ⟨_, he, hC.trans (hb.mono hC.size), hb, rfl⟩)
        refine ⟨step_go rfl fun ev w1 hC kn => ?_, ?_⟩
        · have e1 : ev (.tmp 35) = .int .i64 x2 := kn.inn 35 rfl rfl
          exact good_of (v := .int .i16 x2) rfl (by simp [execOp, e1, go_sem, z2]) hC (Below.refl _ _) rfl
        refine ⟨step_go rfl fun ev w1 hC kn => ?_, ?_⟩
        · have e1 : ev (.tmp 26) = .int .i8 x0 := kn.inn 26 rfl rfl
          have e2 : ev (.tmp 31) = .int .i8 x1 := kn.inn 31 rfl rfl
          have e3 : ev (.tmp 36) = .int .i16 x2 := kn.inn 36 rfl rfl
          exact good_of (v := .agg (#[.int .i8 x0, .int .i8 x1, .int .i16 x2])) rfl (by simp [execOp, e1, e2, e3, go_sem]) hC (Below.refl _ _) rfl
        refine ⟨step_go rfl fun ev w1 hC kn => ?_, ?_⟩
        · have e1 : ev (.tmp 37) = .agg (#[.int .i8 x0, .int .i8 x1, .int .i16 x2]) := kn.inn 37 rfl rfl
          exact good_of (v := .slice (some ⟨w1.heap.size, 0, none⟩) 1 1) (w' := w1.alloc (.cells #[.int .i8 x0, .int .i8 x1, .int .i16 x2] 59)) rfl (by simp [execOp, e1, go_sem]) (hC.alloc hC.size _) (below1 _ _) ⟨_, hC.size, rfl, Blk.new _ _ _⟩
        exact trivial
      rintro xv w1 hxv hC
      have y21 : xv 21 = .slice (some ⟨g, 0, none⟩) k cap := hxv 21 (by decide)
      obtain ⟨q38, lq38, y38, bq38⟩ : ∃ q, wr.heap.size ≤ q ∧ xv 38 = .slice (some ⟨q, 0, none⟩) 1 1 ∧ Blk w1 q #[.int .i8 x0, .int .i8 x1, .int .i16 x2] 59 := hxv 38 (by decide)
      simp only [fill, dstsOf, List.filterMap_cons, List.filterMap_nil, List.foldl_cons, List.foldl_nil, List.set_cons_succ, List.set_cons_zero, List.take_succ_cons, List.take_zero, List.drop_succ_cons, List.drop_zero, y21, y38]
      clear hxv y21 y38
      have hO := hO.below hC hO.lt
      have hbel := hbel.trans (hC.mono hzr)
      have hzs := hbel.size
      clear c0 c1' c2 q0 hbw hn0 hn1 hn2 hC
      go_wp2_with (at_builtin; refine wpList_app elPm rfl rfl rfl rfl (by decide) hO bq38 rfl ?_ ?_ ?_ ?_; (· intro u hu; simp at hu; rcases hu with rfl | rfl | rfl <;> rfl); (· unfold maxLen; omega); (· omega); intro v1 w3 g1 hown hgr hg1)
      have hb3 := hbel.grown hgr (by omega) (fun q hq => by injection hq with hq; omega)
      go_roundw
      case rel => exact ⟨k + 1, by go_num, by omega, hb3, g1, by rw [pls_succ, HCL.out]; exact hown, by omega⟩
      case measure => simp [intOf]; omega
    · obtain rfl : k = n := by omega
      rcases HC.out with ⟨hgt, rfl, hN⟩ | ⟨hgt, rfl, hN⟩
      · have hpt := permitsTextI_any k (pmI l) (fun i hi => by have := pmI_in l i; unfold Pm.ok; omega) (.slice (some ⟨g, 0, none⟩) k cap) wr hO.psl (tab_below HT.out hbw)
        rw [pmI_plain, decide_eq_true hn6, if_pos rfl] at hpt
        by_cases he : txtPm (pmI l) k = l
        · have hgd : goodPm l := HG.out.2 ⟨hgt, by rw [← hN]; exact he⟩
          have HGD := Lib.hid (rd_good hgd)
          have hsm := HS.out hgd
          have HRES : Hid (rdM l = k ∧ pls k (rdP l) = pls k (pmI l)) := Lib.hid ⟨by rw [HGD.out.2, hsm.1, ← hN], pls_congr fun i hi => hsm.2 i (by rw [hsm.1, ← hN]; exact hi)⟩
          have HE := Lib.hid he
          have hs' : (⟨(txtPm (pmI l) k).toArray⟩ : ByteArray) = s := by rw [he]; exact HST.out
          rw [hs'] at hpt
          clear hgt hN hgd hsm hs' he
          go_wp2_with (go_at_call 9; refine hpt.mono ?_; rintro e w2 ⟨rfl, hb2⟩)
          go_ret2
          exact ⟨_, congrArg (fun x => Ending.returned (.tuple #[_, .int .i64 x])) HGD.out.1.symm, g, by omega, by rw [HRES.out.1]; right; rw [HRES.out.2]; exact hO.below hb2 hO.lt, hbw.trans (hb2.mono hbw.size)⟩
        · have hgd : ¬ goodPm l := fun q => he (by have := (HG.out.1 q).2; rw [← hN] at this; exact this)
          have HBD := Lib.hid (rd_bad hgd)
          have hne : ((⟨(txtPm (pmI l) k).toArray⟩ : ByteArray).toList == s.toList) = false := by
            rw [← HST.out, ByteArray.toList_mk, ByteArray.toList_mk]
            simpa using he
          generalize (⟨(txtPm (pmI l) k).toArray⟩ : ByteArray) = T at *
          clear hgt hN hgd he
          go_wp2_with (go_at_call 9; refine hpt.mono ?_; rintro e w2 ⟨rfl, hb2⟩)
          go_ret2
          exact ⟨_, congrArg (fun x => Ending.returned (.tuple #[_, .int .i64 x])) HBD.out.1.symm, _, Nat.le_refl _, by rw [HBD.out.2]; exact .inl ⟨rfl, _, _, rfl, by decide⟩, hbw.trans (hb2.mono hbw.size)⟩
      · have hgd : ¬ goodPm l := fun q => hgt (HG.out.1 q).1
        have HBD := Lib.hid (rd_bad hgd)
        clear hgt hN hgd
        go_wp2_with fail
        go_ret2
        exact ⟨_, congrArg (fun x => Ending.returned (.tuple #[_, .int .i64 x])) HBD.out.1.symm, _, Nat.le_refl _, by rw [HBD.out.2]; exact .inl ⟨rfl, _, _, rfl, by decide⟩, hbw⟩
end Go.Proofs.YtdnnjahdcabdmaaGreatDoor
/- ReadReadings, in the program: the walk. -/
namespace Go.Proofs.YtdnnjahdcabdmaaGreatDoor
open Go.ChangeShapes Go.WideShapes Go.ChangeAt Go.RowKit
set_option linter.unusedVariables false
set_option linter.unusedSimpArgs false
attribute [local irreducible] Calls

theorem decimalZ_any (n : Int) (h : -32768 ≤ n ∧ n ≤ 100000) (w : World) (htab : Lib.TabIs Tryz.prog w "internal/strconv.uint64pow10" .u64 Lib.pow10Tab) :
    Calls Tryz.prog 50 #[.int .i64 n] w fun e w' => e = .returned (.string ⟨(Lib.itoa n).toArray⟩) ∧ Below w.heap.size w w' := by
  have hf := sh_strconv_FormatInt_10 n (by omega) (by omega) w htab
  generalize Lib.itoa n = D at *
  clear h
  go_enter Tryz.func50, Tryz.ntmps50
  go_wp2_with (go_at_call 107; refine hf.mono ?_; rintro e w1 ⟨rfl, k, os, rfl⟩)
  go_ret
  exact ⟨rfl, below_grow w k os⟩
theorem itoa_len {z : Int} (h : -32768 ≤ z ∧ z ≤ 100000) : (Lib.itoa z).length ≤ 7 := by
  by_cases hz : 0 ≤ z
  · rw [itoa_pos hz]; have := decDigits_len_le 5 z.toNat (by omega); omega
  · rw [itoa_neg (by omega)]; have := decDigits_len_le 5 (-z).toNat (by omega); simp; omega
theorem txtRg_len {P : Nat → Rg} : ∀ {k : Nat}, (∀ i, i < k → (1 ≤ (P i).tim ∧ (P i).tim ≤ 100000) ∧ (-32768 ≤ (P i).lev ∧ (P i).lev ≤ 32767)) → (txtRg P k).length ≤ 16 * k
  | 0, _ => by simp [txtRg]
  | k + 1, h => by
    have ih := txtRg_len (P := P) (k := k) (fun i hi => h i (by omega))
    have h0 := h k (by omega)
    have h1 := itoa_len (z := (P k).tim) (by omega)
    have h2 := itoa_len (z := (P k).lev) (by omega)
    unfold txtRg rowG glue glue; simp; omega
/-- The list of times. -/
def tls (P : Nat → Rg) : Nat → List Value
  | 0 => []
  | k + 1 => tls P k ++ [.int .i64 (P k).tim]
theorem tls_len (P : Nat → Rg) : ∀ k, (tls P k).length = k
  | 0 => rfl
  | k + 1 => by unfold tls; simp [tls_len P k]
theorem tls_get (P : Nat → Rg) : ∀ (n i : Nat), i < n → (tls P n)[i]? = some (.int .i64 (P i).tim)
  | n + 1, i, h => by
    unfold tls
    by_cases hi : i < n
    · rw [List.getElem?_append_left (by rw [tls_len]; exact hi)]; exact tls_get P n i hi
    · obtain rfl : i = n := by omega
      rw [List.getElem?_append_right (by rw [tls_len]; exact Nat.le_refl _), tls_len, Nat.sub_self]; rfl
theorem elT64 : ElemTy Tryz.prog 176 2 1 8 := elem_of (z := .int .i64 0) Tryz.underlying176 (by kernel_rfl) rfl
end Go.Proofs.YtdnnjahdcabdmaaGreatDoor
