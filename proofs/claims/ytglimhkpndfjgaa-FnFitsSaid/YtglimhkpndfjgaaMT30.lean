import Derived.Test.YtglimhkpndfjgaaMT29
import Derived.Test.YtglimhkpndfjgaaMT28
import Derived.Test.YtglimhkpndfjgaaMT23
import Derived.Test.YtglimhkpndfjgaaMT25
import Derived.Test.YtglimhkpndfjgaaMT01
import Derived.Test.YtglimhkpndfjgaaMT16
import Derived.Test.YtglimhkpndfjgaaMT03
import Derived.Test.YtglimhkpndfjgaaMT12
import Derived.Test.YtglimhkpndfjgaaMT18
/- Fits: the program's best guess, fits within a bound, their span, the rounds of a fit. -/
namespace Go.Proofs.Ytglimhkpndfjgaa
open Go.ChangeShapes Go.WideShapes Go.ChangeAt Go.RowKit
set_option linter.unusedVariables false
set_option linter.unusedSimpArgs false
attribute [local irreducible] Calls
theorem exec_allocZ {P : Program} {ev : Operand → Value} {w : World} {t : TypeId} {Z : Array Value} {pos : String} {dst : Option Tmp} {tt : TypeId} {af : Array Edge} {gd : Option (Nat × Bool)} (hz : ZeroTy P t Z) : (execOp ev { dst := dst, op := .alloc t, type := tt, pos := pos, after := af, guard := gd }).run P w = .ok (.value (.pointer (some ⟨w.heap.size, 0, none⟩))) (w.alloc (.cells Z t)) := by
  unfold ZeroTy at hz
  cases hq : P.info? t with
  | none => simp [hq] at hz
  | some i =>
    have hz' : i.zero = some (.agg Z) := by simpa [hq] using hz
    have hr : (Instr.alloc t true (.tuple #[])).run P w = .ok (.pointer (some ⟨w.heap.size, 0, none⟩)) (w.alloc (.cells Z t)) := by
      simp [Instr.alloc, zeroValue, typeInfo, hq, hz', newVar, newRow, Value.cells]
    simp [execOp, hr, Sem.run_bind]
theorem fsT_V {M : Nat → Nat → Nat} {T S m bT bS bm : Nat} {bf : Bool} (h : btV M T S 4 = (bT, bS, bm, bf)) : fsT M T S m = if (bf && decide (bm < m)) = true then some (bT, bS, bm) else none := by
  unfold btV at h
  unfold fsT
  cases hb : btTo M T S 4 with
  | none =>
    rw [hb] at h
    obtain ⟨rfl, rfl, rfl, rfl⟩ : 0 = bT ∧ 0 = bS ∧ 0 = bm ∧ false = bf := by simpa using h
    rfl
  | some b =>
    rw [hb] at h
    obtain ⟨b1, b2, b3⟩ := b
    obtain ⟨rfl, rfl, rfl, rfl⟩ : b1 = bT ∧ b2 = bS ∧ b3 = bm ∧ true = bf := by simpa using h
    by_cases h2 : b3 < m
    · simp [h2]
    · simp [h2]
set_option maxRecDepth 100000 in
set_option maxHeartbeats 8000000 in
theorem fitFrom_any (T S : Nat) (hA : AqD T S) (s : Si) (hs : SiD s) (n : Nat) (R : Nat → Rg) (hR : RdD n R) (rd : Nat) (hrd : rd ≤ 60) (v : Value) (w : World) (hv : RSl w v n R) :
    Calls Try.prog 12 #[.agg #[.float .f32 T, .float .f32 S], .agg s.cells, v, .int .i64 rd] w fun e w' => e = .returned (.tuple #[.agg #[.float .f32 (ftR (mfX s R n) rd ⟨T, S, mfX s R n T S, 0⟩).T, .float .f32 (ftR (mfX s R n) rd ⟨T, S, mfX s R n T S, 0⟩).S], .float .f32 (ftR (mfX s R n) rd ⟨T, S, mfX s R n T S, 0⟩).m, .int .i64 (ftR (mfX s R n) rd ⟨T, S, mfX s R n T S, 0⟩).c, .int .i64 0]) ∧ Below w.heap.size w w' := by
  have q1 := fun u w' (hv : RSl w' v n R) hu => fitFault_any s hs n R hR v 1 (fun _ => ⟨T, S⟩) (fun _ _ => hA) u w' hv hu
  have q2 := fun bs w' hB (hv : RSl w' v n R) => misfit_any T S hA.aq s hs n hR.le R hR.each bs v w' hB hv
  have q3 := fun T S (h : Aq T S) mf (hm : mf < 2139095040) bs w' hB hv => better_any T S h s hs n R hR mf hm bs v w' hB hv
  have hfin := fun T S (h : Aq T S) => (mfX_in h hs hR.each hR.le).1
  have q5 := fun w' => in_any (rd : Int) 0 60 w'
  rw [decide_eq_true (by omega : (0 : Int) ≤ rd), decide_eq_true (by omega : (rd : Int) ≤ 60)] at q5
  rw [s.cells_eq] at q1 ⊢
  obtain ⟨M, hM⟩ : ∃ M, mfX s R n = M := ⟨_, rfl⟩
  rw [hM] at q2 q3 hfin ⊢
  clear hM
  obtain ⟨FR, hFR⟩ : ∃ f, ftR M rd ⟨T, S, M T S, 0⟩ = f := ⟨_, rfl⟩
  rw [hFR]
  have HFR := Lib.hid hFR
  clear hFR
  have h1 := below2 w (.cells #[.float .f32 T, .float .f32 S] 26) (.cells #[.int .i8 s.px, .int .i8 s.py, .float .f32 s.rt, .int .i8 s.x, .int .i8 s.y] 32)
  have hA0 : Blk ((w.alloc (.cells #[.float .f32 T, .float .f32 S] 26)).alloc (.cells #[.int .i8 s.px, .int .i8 s.py, .float .f32 s.rt, .int .i8 s.x, .int .i8 s.y] 32)) w.heap.size #[.float .f32 T, .float .f32 S] 26 := (Blk.new _ _ _).alloc _
  have hB0 : Blk ((w.alloc (.cells #[.float .f32 T, .float .f32 S] 26)).alloc (.cells #[.int .i8 s.px, .int .i8 s.py, .float .f32 s.rt, .int .i8 s.x, .int .i8 s.y] 32)) (w.heap.size + 1) #[.int .i8 s.px, .int .i8 s.py, .float .f32 s.rt, .int .i8 s.x, .int .i8 s.y] 32 := Blk.new1 _ _ _ _
  have hC0 : Blk (((w.alloc (.cells #[.float .f32 T, .float .f32 S] 26)).alloc (.cells #[.int .i8 s.px, .int .i8 s.py, .float .f32 s.rt, .int .i8 s.x, .int .i8 s.y] 32)).alloc (.cells #[.float .f32 0, .float .f32 0] 26)) (w.heap.size + 1 + 1) #[.float .f32 0, .float .f32 0] 26 := Blk.new2 _ _ _ _ _
  have hA0 := hA0.alloc (.cells #[.float .f32 0, .float .f32 0] 26)
  have hB0 := hB0.alloc (.cells #[.float .f32 0, .float .f32 0] 26)
  have hb := h1.alloc h1.size (.cells #[.float .f32 0, .float .f32 0] 26)
  have HV0 := Lib.hid hv
  have hv := hv.below hb
  have hAD := hA
  have HQ3 := Lib.hid q3
  have HFIN := Lib.hid hfin
  clear hs hR h1 hA q3 hfin
  go_enter Try.func12, Try.ntmps12
  go_upto_region 1 with (refine wpList_alloc_as rfl rfl zeroAqU ?_)
  generalize ((w.alloc (.cells #[.float .f32 T, .float .f32 S] 26)).alloc (.cells #[.int .i8 s.px, .int .i8 s.py, .float .f32 s.rt, .int .i8 s.x, .int .i8 s.y] 32)).alloc (.cells #[.float .f32 0, .float .f32 0] 26) = W at *
  obtain ⟨b2, e2⟩ : ∃ b, w.heap.size + 1 + 1 = b := ⟨_, rfl⟩
  rw [e2] at hC0 ⊢
  obtain ⟨b1, e1⟩ : ∃ b, w.heap.size + 1 = b := ⟨_, rfl⟩
  rw [e1] at hB0 ⊢
  obtain ⟨b0, e0⟩ : ∃ b, w.heap.size = b := ⟨_, rfl⟩
  rw [e0] at hA0 hb ⊢
  have sb : b0 ≤ W.heap.size := by have := hb.size; omega
  have l2 : b0 < b2 := by omega
  clear e1 e2
  have hu := qsl_one (Blk.new W #[.float .f32 T, .float .f32 S] 26)
  have hv1 := hv.below (below1 W (.cells #[.float .f32 T, .float .f32 S] 26))
  have hb1 := hb.alloc sb (.cells #[.float .f32 T, .float .f32 S] 26)
  have hA1 := hA0.alloc (.cells #[.float .f32 T, .float .f32 S] 26)
  have hB1 := hB0.alloc (.cells #[.float .f32 T, .float .f32 S] 26)
  have hC1 := hC0.alloc (.cells #[.float .f32 T, .float .f32 S] 26)
  have sb1 := hb1.size
  go_upto_region 4 with (first | (refine wpList_load_blk rfl rfl rfl rowAq hA0 rfl ?_) | (refine wpList_load_blk rfl rfl rfl rowSi hB0 rfl ?_) | (go_at_call 35; refine (q1 _ _ hv1 hu).mono ?_; rintro e w1 ⟨rfl, hb2⟩))
  have hA2 := hA1.below hb2 hA1.lt
  have hB2 := hB1.below hb2 hB1.lt
  have hC2 := hC1.below hb2 hC1.lt
  have hv2 := hv1.below hb2
  have hbb2 := hb1.trans (hb2.mono (by omega))
  clear hA0 hB0 hC0 hv hb hA1 hB1 hC1 hv1 hb1 hu hb2 q1 sb1
  have s2 : b0 ≤ w1.heap.size := by have := hbb2.size; omega
  go_upto_region 6 with (go_at_call 39; refine (q5 _).mono ?_; rintro e w' ⟨rfl, hw⟩; rw [hw]; clear hw w')
  have lA2 := hA2.lt
  have lB2 := hB2.lt
  have lC2 := hC2.lt
  have hq2 : ∀ w', Below w1.heap.size w1 w' → Calls Try.prog 36 #[.pointer (some ⟨b1, 0, none⟩), .agg #[.float .f32 T, .float .f32 S], v] w' fun e w'' => e = .returned (.float .f32 (M T S)) ∧ Below w'.heap.size w' w'' := fun w' h => q2 b1 w' (hB2.below h lB2) (hv2.below h)
  refine wp_splitK 5 (C := fun w' => Below w1.heap.size w1 w') (R := fun w w' => Below w.heap.size w w') (F := fun ww dd vv => match dd, vv with
    | 32, vv => vv = .agg (#[.float .f32 T, .float .f32 S])
    | 33, vv => vv = .agg (#[.float .f32 T, .float .f32 S])
    | 34, vv => vv = v
    | 35, vv => vv = .float .f32 (M T S)
    | 13, vv => ∃ q, w1.heap.size ≤ q ∧ vv = .pointer (some ⟨q, 0, none⟩) ∧ Blk ww q #[.float .f32 0, .float .f32 0] 26
    | _, _ => True) (fun wa wb d v hRR => by split <;> intro hFF <;> first | exact hFF | (obtain ⟨q, h1, h2, h3⟩ := hFF; exact ⟨q, h1, h2, h3.below hRR h3.lt⟩)) (by kernel_rfl) (by kernel_rfl) (by kernel_rfl) (Below.refl _ _).drew ?_ ?_
  · refine ⟨step_go rfl fun ev w1 hC kn => ?_, ?_⟩
    · have e1 : ev (.tmp 4) = .pointer (some ⟨b0, 0, none⟩) := kn.out 4 rfl rfl rfl
      exact good_of (v := .agg (#[.float .f32 T, .float .f32 S])) rfl (load_blk e1 rowAq (hA2.below hC lA2) rfl) hC (Below.refl _ _) rfl
    refine ⟨step_go rfl fun ev w1 hC kn => ?_, ?_⟩
    · have e1 : ev (.tmp 4) = .pointer (some ⟨b0, 0, none⟩) := kn.out 4 rfl rfl rfl
      exact good_of (v := .agg (#[.float .f32 T, .float .f32 S])) rfl (load_blk e1 rowAq (hA2.below hC lA2) rfl) hC (Below.refl _ _) rfl
    refine ⟨step_go rfl fun ev w1 hC kn => ?_, ?_⟩
    · have e1 : ev (.tmp 2) = v := kn.out 2 rfl rfl rfl
      exact good_of (v := v) rfl (by simp [execOp, e1, kn.con, go_sem]) hC (Below.refl _ _) rfl
    refine ⟨step_go rfl fun ev w1 hC kn => ?_, ?_⟩
    · have e1 : ev (.tmp 5) = .pointer (some ⟨b1, 0, none⟩) := kn.out 5 rfl rfl rfl
      have e2 : ev (.tmp 33) = .agg (#[.float .f32 T, .float .f32 S]) := kn.inn 33 rfl rfl
      have e3 : ev (.tmp 34) = v := kn.inn 34 rfl rfl
      refine good_call (f := 36) (args := #[.pointer (some ⟨b1, 0, none⟩), .agg (#[.float .f32 T, .float .f32 S]), v]) rfl (by simp [execOp, e1, e2, e3, kn.fn, kn.con, go_sem]) ((hq2 w1 hC).mono fun e w2 ⟨he, hb⟩ => ⟨_, he, hC.trans (hb.mono hC.size), hb, rfl⟩)
    refine ⟨step_go rfl fun ev w1 hC kn => ?_, ?_⟩
    · exact good_of (v := .pointer (some ⟨w1.heap.size, 0, none⟩)) (w' := w1.alloc (.cells #[.float .f32 0, .float .f32 0] 26)) rfl (exec_allocZ zeroAqU) (hC.alloc hC.size _) (below1 _ _) ⟨_, hC.size, rfl, Blk.new _ _ _⟩
    exact trivial
  rintro xv w3 hxv hb3
  have y32 : xv 32 = .agg (#[.float .f32 T, .float .f32 S]) := hxv 32 (by decide)
  have y35 : xv 35 = .float .f32 (M T S) := hxv 35 (by decide)
  obtain ⟨q13, lq13, y13, bq13⟩ : ∃ q, w1.heap.size ≤ q ∧ xv 13 = .pointer (some ⟨q, 0, none⟩) ∧ Blk w3 q #[.float .f32 0, .float .f32 0] 26 := hxv 13 (by decide)
  simp only [fill, dstsOf, List.filterMap_cons, List.filterMap_nil, List.foldl_cons, List.foldl_nil, List.set_cons_succ, List.set_cons_zero, List.take_succ_cons, List.take_zero, List.drop_succ_cons, List.drop_zero, y32, y35, y13]
  clear hxv y32 y35 y13
  have hB3 := hB2.below hb3 lB2
  have hC3 := hC2.below hb3 lC2
  have hbb3 := hbb2.trans (hb3.mono s2)
  clear hq2 q2 hA2 hB2 hC2 hv2 hbb2
  have s3 := hb3.size
  go_upto_region 7 with (refine wpList_store_blk rfl rfl rfl rfl rowAq bq13 rfl rfl (aqOne _ _) ?_)
  have hD4 := bq13.setRow #[.float .f32 T, .float .f32 S]
  have hB4 := hB3.rowOther #[.float .f32 T, .float .f32 S] (g := q13) (by omega)
  have hC4 := hC3.rowOther #[.float .f32 T, .float .f32 S] (g := q13) (by omega)
  have hbb4 : Below b0 w (w3.setRow q13 #[.float .f32 T, .float .f32 S]) := below_setRow hbb3 (by omega) _
  clear hB3 hC3 hbb3 hb3 bq13 lA2
  generalize w3.setRow q13 #[.float .f32 T, .float .f32 S] = W4 at *
  go_wp2_with fail
  go_loopw [14, 15] (fun x y wr => ∃ T1 S1 m1 c1 : Nat, c1 ≤ rd ∧ x = .float .f32 m1 ∧ y = .int .i64 c1 ∧ AqD T1 S1 ∧ m1 = M T1 S1 ∧ ftR M (rd - c1) ⟨T1, S1, m1, c1⟩ = FR ∧ Blk wr q13 #[.float .f32 T1, .float .f32 S1] 26 ∧ Blk wr b1 #[.int .i8 s.px, .int .i8 s.py, .float .f32 s.rt, .int .i8 s.x, .int .i8 s.y] 32 ∧ Blk wr b2 #[.float .f32 0, .float .f32 0] 26 ∧ Below b0 w wr) (fun _ y _ => rd - (intOf y).toNat)
  case atStart => exact ⟨T, S, M T S, 0, by omega, rfl, rfl, hAD, rfl, HFR.out, hD4, hB4, hC4, hbb4⟩
  case round =>
    clear hD4 hB4 hC4 hbb4
    obtain ⟨T1, S1, m1, c1, hGc, rfl, rfl, hGA, hGm, hGR, hD, hB, hC, hbs⟩ := hrel
    have hv := HV0.out.below (by rw [e0]; exact hbs)
    have bk : (0 : Int) ≤ c1 := by omega
    have lD := hD.lt
    have lB1 := hB.lt
    have lC1 := hC.lt
    have sbs : b0 ≤ wr.heap.size := by have := hbs.size; omega
    by_cases hlt : c1 < rd
    · have bl : (c1 : Int) < rd := by omega
      obtain ⟨l, hl⟩ : ∃ l, rd - c1 = l + 1 := ⟨rd - c1 - 1, by omega⟩
      have hfm1 : m1 < 2139095040 := by rw [hGm]; exact HFIN.out _ _ hGA.aq
      have hq3 := HQ3.out T1 S1 hGA.aq m1 hfm1 b1 wr hB hv
      obtain ⟨bx, hbx⟩ : ∃ x, btV M T1 S1 4 = x := ⟨_, rfl⟩
      obtain ⟨bT, bS, bm, bf⟩ := bx
      have hfs := fsT_V (m := m1) hbx
      have hbA : bf = true → AqD bT bS ∧ bm = M bT bS := fun hb => by
        unfold btV at hbx
        cases hb4 : btTo M T1 S1 4 with
        | none =>
          rw [hb4] at hbx
          have : false = bf := by injection hbx with _ h; injection h with _ h; injection h with _ h
          rw [hb] at this; cases this
        | some b =>
          rw [hb4] at hbx
          obtain ⟨r1, r2⟩ := bt_aq hGA.aq hb4
          obtain ⟨rfl, rfl, rfl, _⟩ : b.1 = bT ∧ b.2.1 = bS ∧ b.2.2 = bm ∧ true = bf := by simpa using hbx
          exact ⟨r1, r2⟩
      rw [hbx] at hq3
      obtain ⟨ok, hok⟩ : ∃ ok, (bf && decide (bm < m1)) = ok := ⟨_, rfl⟩
      change Calls _ _ _ _ (fun e w' => e = .returned (.tuple #[.agg #[.float .f32 bT, .float .f32 bS], .float .f32 bm, .bool (bf && decide (bm < m1))]) ∧ _) at hq3
      rw [hok] at hq3 hfs
      have HFS := Lib.hid hfs
      have HGR := Lib.hid hGR
      have HGM := Lib.hid hGm
      have HBA := Lib.hid hbA
      have HOK := Lib.hid hok
      have HGA := Lib.hid hGA
      clear hfs hGR hGm hbA hok hbx hGA
      go_upto_region 9 with (first | (refine wpList_load_blk rfl rfl rfl rowAq hD rfl ?_) | (go_at_call 40; refine hq3.mono ?_; rintro e w5 ⟨rfl, hb5⟩) | (refine wpList_alloc_as rfl rfl zeroAqU ?_) | (refine wpList_store_last rfl rfl rfl rfl rfl (by kernel_rfl) rfl rfl ?_))
      have hE6 := Blk.new w5 #[.float .f32 bT, .float .f32 bS] 26
      have hD6 := (hD.below hb5 lD).alloc (.cells #[.float .f32 bT, .float .f32 bS] 26)
      have hB6 := (hB.below hb5 lB1).alloc (.cells #[.float .f32 bT, .float .f32 bS] 26)
      have hC6 := (hC.below hb5 lC1).alloc (.cells #[.float .f32 bT, .float .f32 bS] 26)
      have hbb5 := hbs.trans (hb5.mono sbs)
      have hbb6 := hbb5.alloc (by have := hb5.size; omega) (.cells #[.float .f32 bT, .float .f32 bS] 26)
      generalize w5.alloc (.cells #[.float .f32 bT, .float .f32 bS] 26) = W6 at *
      have s6 := hbb6.size
      clear hq3 hD hB hC hbs hb5 hbb5 hv
      cases ok
      · have HEND : Hid (⟨T1, S1, m1, c1⟩ = FR) := Lib.hid ((ft_stop (M := M) (F := ⟨T1, S1, m1, c1⟩) (HFS.out.trans (if_neg Bool.false_ne_true)) (rd - c1)).symm.trans HGR.out)
        go_wp2_with (first | (refine wpList_load_blk rfl rfl rfl rowAq hD6 rfl ?_) | (refine wpList_store_blk rfl rfl rfl rfl rowAq hC6 rfl rfl (aqOne _ _) ?_))
        refine bodyPost_row4 rfl rfl rowAq (hC6.setRow _) rfl rfl ⟨by rw [← HEND.out]; rfl, ?_⟩
        exact below_setRow (by rw [e0]; exact hbb6) (by omega) _
      · have hbf : bf = true ∧ bm < m1 := by
          have := HOK.out
          simpa using this
        obtain ⟨hA2, hm2⟩ := HBA.out hbf.1
        have hgo := ft_go (M := M) (F := ⟨T1, S1, m1, c1⟩) (b := (bT, bS, bm)) (HFS.out.trans (if_pos rfl)) l
        have HGO : Hid (ftR M l ⟨bT, bS, bm, c1 + 1⟩ = FR) := Lib.hid (hgo.symm.trans (by rw [← hl]; exact HGR.out))
        have HLL : Hid (rd - (c1 + 1) = l) := Lib.hid (by omega)
        have HM2 := Lib.hid hm2
        clear hbf hm2 hgo hl
        go_wp2_with (first | (refine wpList_load_blk rfl rfl rfl rowAq hE6 rfl ?_) | (refine wpList_store_blk rfl rfl rfl rfl rowAq hD6 rfl rfl (aqOne _ _) ?_))
        go_roundw
        case rel =>
          refine ⟨bT, bS, bm, c1 + 1, by omega, rfl, by go_num, hA2, HM2.out, by rw [HLL.out]; exact HGO.out, hD6.setRow _, hB6.rowOther _ (by omega), hC6.rowOther _ (by omega), below_setRow hbb6 (by omega) _⟩
        case measure => simp [intOf]; omega
    · obtain rfl : c1 = rd := by omega
      have HEND : Hid (⟨T1, S1, m1, c1⟩ = FR) := Lib.hid (by rw [Nat.sub_self] at hGR; exact hGR)
      clear hGR hGm
      go_wp2_with (first | (refine wpList_load_blk rfl rfl rfl rowAq hD rfl ?_) | (refine wpList_store_blk rfl rfl rfl rfl rowAq hC rfl rfl (aqOne _ _) ?_))
      refine bodyPost_row4 rfl rfl rowAq (hC.setRow _) rfl rfl ⟨by rw [← HEND.out]; rfl, ?_⟩
      exact below_setRow (by rw [e0]; exact hbs) (by omega) _
end Go.Proofs.Ytglimhkpndfjgaa
/- Fits: the readings that come from an aquifer: the reference's walk. -/
namespace Go.Proofs.Ytglimhkpndfjgaa
open Go.ChangeShapes Go.WideShapes Go.ChangeAt Go.RowKit
set_option linter.unusedVariables false
set_option linter.unusedSimpArgs false
attribute [local irreducible] Calls
theorem wpList_load_wantR {P : Program} {ops : Array Oper} {rest : List Oper} {o : Oper} {a : Act} {Q : Exit → Act → World → Prop} {w : World} {ty t : TypeId} {x : Operand} {b n : Nat} {C : Array Value} (hw : Region.wanted o (yielded ops a.tmps) = true) (ho : o.op = .load ty x) (hx : a.eval x = .pointer (some ⟨b, 0, none⟩)) (hr : RowTy P ty n) (hb : Blk w b C t) (hs : C.size = n)
    (h : wpList P ops Q rest (a.put o.dst (.agg C)) w) : wpList P ops Q (o :: rest) a w := by
  obtain ⟨d, hu, hd, hi⟩ := hr
  exact wpList_step fun K hK => by
    simp only [hw, if_true]
    exact wp_load_row ty x ho b hx t C (0, 0) d hb hu (by cases d <;> simp_all) (by rw [hi, hs]) (hK _ _ h)
/-- The readings that come from an aquifer. -/
def rdF (T S : Nat) (s : Si) (f : Nat → Int) (i : Nat) : Rg := ⟨f i, lgR (sdX T S s (f i).toNat)⟩
/-- What ReadingsFrom gives. -/
def GaveR (w : World) (n : Nat) (R : Nat → Rg) (e : Ending) (w' : World) : Prop := ∃ (x : Value) (g : Nat), e = .returned (.tuple #[x, .int .i64 0]) ∧ w.heap.size ≤ g ∧ Own w' g 67 2 x n (rgs n R) ∧ Below w.heap.size w w'
def lastT (f : Nat → Int) (k : Nat) : Int := if k = 0 then 0 else f (k - 1)
set_option maxRecDepth 100000 in
set_option maxHeartbeats 8000000 in
theorem specReadingsFrom_any (T S : Nat) (hA : AqD T S) (s : Si) (hs : SiD s) (n : Nat) (f : Nat → Int) (hf : TmD n f) (v : Value) (w : World) (hv : ISl w v n f) :
    Calls Try.prog 7 #[.agg #[.float .f32 T, .float .f32 S], .agg s.cells, v] w (GaveR w n (rdF T S s f)) := by
  have q1 := fun w' => l03Aquifer_any T S hA.ok w'
  have q2 := fun w' => l04Site_any s hs w'
  have q3 := fun k (hk : k < n) w' => l00In_any (f k) (lastT f k + 1) 100000 w'
  have hdd := fun k (hk : k < n) w' => l04Drawdown_any T S hA.aq s hs (f k) (by have := hf.2.1 k hk; omega) w'
  have hlg := fun k (hk : k < n) w' => l04Logger_any (sdX T S s (f k).toNat) ((sdX_mg hA.aq hs (t := (f k).toNat) (by have := hf.2.1 k hk; omega) (by have := hf.2.1 k hk; omega)).mono (by omega)) w'
  have hlt0 : ∀ k, k < n → lastT f k < f k := fun k hk => by
    unfold lastT
    split
    · have := hf.2.1 k hk; omega
    · exact hf.2.2 (k - 1) k (by omega) hk
  have hT : ∀ k, k < n → 1 ≤ f k ∧ f k ≤ 96 := hf.2.1
  have hL : ∀ k, k ≤ n → 0 ≤ lastT f k ∧ lastT f k ≤ 96 := fun k hk => by
    unfold lastT
    split
    · omega
    · have := hf.2.1 (k - 1) (by omega); omega
  have hn := hf.1
  have hls : ∀ k, lastT f (k + 1) = f k := fun k => by unfold lastT; rw [if_neg (by omega)]; rfl
  have hb := below2 w (.cells #[.float .f32 T, .float .f32 S] 26) (.cells #[.int .i8 s.px, .int .i8 s.py, .float .f32 s.rt, .int .i8 s.x, .int .i8 s.y] 32)
  have hv := hv.below hb
  rw [s.cells_eq] at q2 hdd ⊢
  have hA0 : Blk ((w.alloc (.cells #[.float .f32 T, .float .f32 S] 26)).alloc (.cells #[.int .i8 s.px, .int .i8 s.py, .float .f32 s.rt, .int .i8 s.x, .int .i8 s.y] 32)) w.heap.size #[.float .f32 T, .float .f32 S] 26 := (Blk.new _ _ _).alloc _
  have hB0 : Blk ((w.alloc (.cells #[.float .f32 T, .float .f32 S] 26)).alloc (.cells #[.int .i8 s.px, .int .i8 s.py, .float .f32 s.rt, .int .i8 s.x, .int .i8 s.y] 32)) (w.heap.size + 1) #[.int .i8 s.px, .int .i8 s.py, .float .f32 s.rt, .int .i8 s.x, .int .i8 s.y] 32 := Blk.new1 _ _ _ _
  obtain ⟨E, hE⟩ : ∃ E, rdF T S s f = E := ⟨_, rfl⟩
  rw [hE]
  have hE2 : ∀ k, E k = ⟨f k, lgR (sdX T S s (f k).toNat)⟩ := fun k => by rw [← hE]; rfl
  have HE := Lib.hid hE2
  have HQ := Lib.hid q3
  have HD := Lib.hid hdd
  have HG := Lib.hid hlg
  have HLT := Lib.hid hlt0
  have HT := Lib.hid hT
  have HL := Lib.hid hL
  have HLS := Lib.hid hls
  clear hE hE2 q3 hdd hlg hlt0 hT hL hls hA hs hf
  go_enter Try.func7, Try.ntmps7
  go_upto_region 1 with fail
  generalize (w.alloc (.cells #[.float .f32 T, .float .f32 S] 26)).alloc (.cells #[.int .i8 s.px, .int .i8 s.py, .float .f32 s.rt, .int .i8 s.x, .int .i8 s.y] 32) = W at *
  go_upto_region 3 with (first | (refine wpList_load_blk rfl rfl rfl rowAq hA0 rfl ?_) | (refine wpList_load_wantR rfl rfl rfl rowSi hB0 rfl ?_) | (go_at_call 28; refine (q1 _).mono ?_; rintro e w1 ⟨rfl, hb1⟩; replace hA0 := hA0.below hb1 hA0.lt; replace hB0 := hB0.below hb1 hB0.lt; replace hv := hv.below hb1; replace hb := hb.trans (hb1.mono hb.size); clear hb1) | (go_at_call 29; refine (q2 _).mono ?_; rintro e w2 ⟨rfl, hb2⟩; replace hA0 := hA0.below hb2 hA0.lt; replace hB0 := hB0.below hb2 hB0.lt; replace hv := hv.below hb2; replace hb := hb.trans (hb2.mono hb.size); clear hb2))
  obtain ⟨a, c, rfl, hc1, hc2, hcell⟩ := hv
  unfold maxLen at hc2
  have HC := Lib.hid hcell
  have sw := hb.size
  have lA := hA0.lt
  have lB := hB0.lt
  obtain ⟨b1, e1⟩ : ∃ b, w.heap.size + 1 = b := ⟨_, rfl⟩
  rw [e1] at hB0 lB ⊢
  obtain ⟨b0, e0⟩ : ∃ b, w.heap.size = b := ⟨_, rfl⟩
  rw [e0] at hA0 lA sw hb ⊢
  clear hcell
  go_wp2_with fail
  go_loopw [8, 9, 10] (fun x y i wr => ∃ k : Nat, k ≤ n ∧ i = .int .i64 k ∧ x = .bool true ∧ y = .int .i64 (lastT f k) ∧ wr = w2) (fun _ _ i _ => n - (intOf i).toNat)
  case atStart => exact ⟨0, by omega, rfl, by first | rfl | (simp; omega), rfl, rfl⟩
  case round =>
    obtain ⟨k, hk, rfl, rfl, rfl, hwr⟩ := hrel
    rw [hwr]
    clear hwr wr
    have bk : (0 : Int) ≤ k := by omega
    have hlk := HL.out k hk
    by_cases hlt : k < n
    · have bl : (k : Int) < n := by omega
      obtain ⟨b, o, rfl, hbl, hcell⟩ := HC.out.resolve_left (by omega)
      have z0 : w2.cell? ⟨b, o + k, none⟩ = some (.int .i64 (f k)) := hcell k hlt
      have q3 := HQ.out k hlt
      have h1 := HLT.out k hlt
      have h2 := HT.out k hlt
      rw [decide_eq_true (by omega : lastT f k + 1 ≤ f k), decide_eq_true (by omega : f k ≤ 100000)] at q3
      clear hcell
      go_wp2_with (go_at_call 30; refine (q3 _).mono ?_; rintro e w' ⟨rfl, hw⟩; rw [hw]; clear hw w')
      go_roundw
      case rel => exact ⟨k + 1, by omega, by go_num, rfl, by rw [HLS.out], by first | trivial | rfl⟩
      case measure => simp [intOf]; omega
    · obtain rfl : k = n := by omega
      go_upto_region 13 with fail
      have hG : Own (w2.alloc (.cells #[] 67)) w2.heap.size 67 2 (.slice (some ⟨w2.heap.size, 0, none⟩) 0 0) 0 (rgs 0 E) := own_blk (Blk.new _ _ _) rfl (by decide) (by rw [rgs_zero])
      have hA1 := hA0.alloc (.cells #[] 67)
      have hB1 := hB0.alloc (.cells #[] 67)
      have hb1 := hb.alloc sw (.cells #[] 67)
      have hbW := below1 w2 (.cells #[] 67)
      generalize w2.alloc (.cells #[] 67) = W3 at *
      obtain ⟨g0, hg0⟩ : ∃ g, w2.heap.size = g := ⟨_, rfl⟩
      rw [hg0] at hG lA lB ⊢
      go_wp2_with fail
      go_loopw [11, 12] (fun y i wr => ∃ (j gb : Nat), j ≤ k ∧ i = .int .i64 j ∧ Own wr gb 67 2 y j (rgs j E) ∧ g0 ≤ gb ∧ Blk wr b0 #[.float .f32 T, .float .f32 S] 26 ∧ Blk wr b1 #[.int .i8 s.px, .int .i8 s.py, .float .f32 s.rt, .int .i8 s.x, .int .i8 s.y] 32 ∧ Below b0 w wr ∧ Below w2.heap.size w2 wr) (fun _ i _ => k - (intOf i).toNat)
      case atStart => exact ⟨0, g0, by omega, rfl, hG, Nat.le_refl _, hA1, hB1, hb1, hbW⟩
      case round =>
        clear hG hA1 hB1 hb1 hbW
        obtain ⟨j, gb, hj, rfl, hG, hgb, hA1, hB1, hbs, hbW⟩ := hrel
        have bj : (0 : Int) ≤ j := by omega
        by_cases hjt : j < k
        · have bjl : (j : Int) < k := by omega
          obtain ⟨b, o, rfl, hbl, hcell⟩ := HC.out.resolve_left (by omega)
          have z0 : wr.cell? ⟨b, o + j, none⟩ = some (.int .i64 (f j)) := (hbW.cell (p := ⟨b, _, none⟩) hbl).trans (hcell j hjt)
          have hd := HD.out j hjt
          have hl := HG.out j hjt
          have hEj := HE.out j
          generalize sdX T S s (f j).toNat = X at *
          generalize lgR X = Y at *
          obtain ⟨cap, rfl, hcap, hcapm⟩ := hG.form
          unfold maxLen at hcapm
          have sW := hbW.size
          have sr := hbs.size
          have l_b : b < wr.heap.size := by omega
          have lA1 := hA1.lt
          have lB1 := hB1.lt
          have lG := hG.lt
          have HEJ := Lib.hid hEj
          clear hcell hEj
          go_wp2_with fail
          refine wp_splitK 15 (C := fun w' => Below wr.heap.size wr w') (R := fun w w' => Below w.heap.size w w') (F := fun ww dd vv => match dd, vv with
            | 55, vv => vv = .slice (some ⟨gb, 0, none⟩) j cap
            | 56, vv => vv = .slice (some ⟨b, o, none⟩) k c
            | 57, vv => vv = .int .i64 j
            | 58, vv => vv = .pointer (some ⟨b, o + j, none⟩)
            | 59, vv => vv = .int .i64 (f j)
            | 60, vv => vv = .agg (#[.float .f32 T, .float .f32 S])
            | 61, vv => vv = .agg (#[.int .i8 s.px, .int .i8 s.py, .float .f32 s.rt, .int .i8 s.x, .int .i8 s.y])
            | 62, vv => vv = .slice (some ⟨b, o, none⟩) k c
            | 63, vv => vv = .int .i64 j
            | 64, vv => vv = .pointer (some ⟨b, o + j, none⟩)
            | 65, vv => vv = .int .i64 (f j)
            | 66, vv => vv = .float .f32 X
            | 67, vv => vv = .int .i16 Y
            | 68, vv => vv = .agg (#[.int .i64 (f j), .int .i16 Y])
            | 69, vv => ∃ q, wr.heap.size ≤ q ∧ vv = .slice (some ⟨q, 0, none⟩) 1 1 ∧ Blk ww q #[.int .i64 (f j), .int .i16 Y] 67
            | _, _ => True) (fun wa wb d v hRR => by split <;> intro hFF <;> first | exact hFF | (obtain ⟨q, h1, h2, h3⟩ := hFF; exact ⟨q, h1, h2, h3.below hRR h3.lt⟩)) (by kernel_rfl) (by kernel_rfl) (by kernel_rfl) (Below.refl _ _).drew ?_ ?_
          · refine ⟨step_go rfl fun ev w1 hC kn => ?_, ?_⟩
            · have e1 : ev (.tmp 11) = .slice (some ⟨gb, 0, none⟩) j cap := kn.out 11 rfl rfl rfl
              exact good_of (v := .slice (some ⟨gb, 0, none⟩) j cap) rfl (by simp [execOp, e1, kn.con, go_sem]) hC (Below.refl _ _) rfl
            refine ⟨step_go rfl fun ev w1 hC kn => ?_, ?_⟩
            · have e1 : ev (.tmp 2) = .slice (some ⟨b, o, none⟩) k c := kn.out 2 rfl rfl rfl
              exact good_of (v := .slice (some ⟨b, o, none⟩) k c) rfl (by simp [execOp, e1, kn.con, go_sem]) hC (Below.refl _ _) rfl
            refine ⟨step_go rfl fun ev w1 hC kn => ?_, ?_⟩
            · have e1 : ev (.tmp 12) = .int .i64 j := kn.out 12 rfl rfl rfl
              exact good_of (v := .int .i64 j) rfl (by simp [execOp, e1, kn.con, go_sem]) hC (Below.refl _ _) rfl
            refine ⟨step_go rfl fun ev w1 hC kn => ?_, ?_⟩
            · have e1 : ev (.tmp 56) = .slice (some ⟨b, o, none⟩) k c := kn.inn 56 rfl rfl
              have e2 : ev (.tmp 57) = .int .i64 j := kn.inn 57 rfl rfl
              exact good_of (v := .pointer (some ⟨b, o + j, none⟩)) rfl (by simp [execOp, e1, e2, kn.con, go_sem, bj, bjl]) hC (Below.refl _ _) rfl
            refine ⟨step_go rfl fun ev w1 hC kn => ?_, ?_⟩
            · have e1 : ev (.tmp 58) = .pointer (some ⟨b, o + j, none⟩) := kn.inn 58 rfl rfl
              have c1 := (hC.cell (p := ⟨b, o + j, none⟩) l_b).trans z0
              exact good_of (v := .int .i64 (f j)) rfl (by simp [execOp, e1, go_sem, c1]) hC (Below.refl _ _) rfl
            refine ⟨step_go rfl fun ev w1 hC kn => ?_, ?_⟩
            · have e1 : ev (.tmp 3) = .pointer (some ⟨b0, 0, none⟩) := kn.out 3 rfl rfl rfl
              exact good_of (v := .agg (#[.float .f32 T, .float .f32 S])) rfl (load_blk e1 rowAq (hA1.below hC lA1) rfl) hC (Below.refl _ _) rfl
            refine ⟨step_go rfl fun ev w1 hC kn => ?_, ?_⟩
            · have e1 : ev (.tmp 4) = .pointer (some ⟨b1, 0, none⟩) := kn.out 4 rfl rfl rfl
              exact good_of (v := .agg (#[.int .i8 s.px, .int .i8 s.py, .float .f32 s.rt, .int .i8 s.x, .int .i8 s.y])) rfl (load_blk e1 rowSi (hB1.below hC lB1) rfl) hC (Below.refl _ _) rfl
            refine ⟨step_go rfl fun ev w1 hC kn => ?_, ?_⟩
            · have e1 : ev (.tmp 2) = .slice (some ⟨b, o, none⟩) k c := kn.out 2 rfl rfl rfl
              exact good_of (v := .slice (some ⟨b, o, none⟩) k c) rfl (by simp [execOp, e1, kn.con, go_sem]) hC (Below.refl _ _) rfl
            refine ⟨step_go rfl fun ev w1 hC kn => ?_, ?_⟩
            · have e1 : ev (.tmp 12) = .int .i64 j := kn.out 12 rfl rfl rfl
              exact good_of (v := .int .i64 j) rfl (by simp [execOp, e1, kn.con, go_sem]) hC (Below.refl _ _) rfl
            refine ⟨step_go rfl fun ev w1 hC kn => ?_, ?_⟩
            · have e1 : ev (.tmp 62) = .slice (some ⟨b, o, none⟩) k c := kn.inn 62 rfl rfl
              have e2 : ev (.tmp 63) = .int .i64 j := kn.inn 63 rfl rfl
              exact good_of (v := .pointer (some ⟨b, o + j, none⟩)) rfl (by simp [execOp, e1, e2, kn.con, go_sem, bj, bjl]) hC (Below.refl _ _) rfl
            refine ⟨step_go rfl fun ev w1 hC kn => ?_, ?_⟩
            · have e1 : ev (.tmp 64) = .pointer (some ⟨b, o + j, none⟩) := kn.inn 64 rfl rfl
              have c1 := (hC.cell (p := ⟨b, o + j, none⟩) l_b).trans z0
              exact good_of (v := .int .i64 (f j)) rfl (by simp [execOp, e1, go_sem, c1]) hC (Below.refl _ _) rfl
            refine ⟨step_go rfl fun ev w1 hC kn => ?_, ?_⟩
            · have e1 : ev (.tmp 60) = .agg (#[.float .f32 T, .float .f32 S]) := kn.inn 60 rfl rfl
              have e2 : ev (.tmp 61) = .agg (#[.int .i8 s.px, .int .i8 s.py, .float .f32 s.rt, .int .i8 s.x, .int .i8 s.y]) := kn.inn 61 rfl rfl
              have e3 : ev (.tmp 65) = .int .i64 (f j) := kn.inn 65 rfl rfl
              refine good_call (f := 32) (args := #[.agg (#[.float .f32 T, .float .f32 S]), .agg (#[.int .i8 s.px, .int .i8 s.py, .float .f32 s.rt, .int .i8 s.x, .int .i8 s.y]), .int .i64 (f j)]) rfl (by simp [execOp, e1, e2, e3, kn.fn, kn.con, go_sem]) ((hd w1).mono fun e w2 ⟨he, hb⟩ => ⟨_, he, hC.trans (hb.mono hC.size), hb, rfl⟩)
            refine ⟨step_go rfl fun ev w1 hC kn => ?_, ?_⟩
            · have e1 : ev (.tmp 66) = .float .f32 X := kn.inn 66 rfl rfl
              refine good_call (f := 31) (args := #[.float .f32 X]) rfl (by simp [execOp, e1, kn.fn, kn.con, go_sem]) ((hl w1).mono fun e w2 ⟨he, hw⟩ => ⟨_, he, by rw [hw]; exact hC, by rw [hw]; exact Below.refl _ _, rfl⟩)
            refine ⟨step_go rfl fun ev w1 hC kn => ?_, ?_⟩
            · have e1 : ev (.tmp 59) = .int .i64 (f j) := kn.inn 59 rfl rfl
              have e2 : ev (.tmp 67) = .int .i16 Y := kn.inn 67 rfl rfl
              exact good_of (v := .agg (#[.int .i64 (f j), .int .i16 Y])) rfl (by simp [execOp, e1, e2, go_sem]) hC (Below.refl _ _) rfl
            refine ⟨step_go rfl fun ev w1 hC kn => ?_, ?_⟩
            · have e1 : ev (.tmp 68) = .agg (#[.int .i64 (f j), .int .i16 Y]) := kn.inn 68 rfl rfl
              exact good_of (v := .slice (some ⟨w1.heap.size, 0, none⟩) 1 1) (w' := w1.alloc (.cells #[.int .i64 (f j), .int .i16 Y] 67)) rfl (by simp [execOp, e1, go_sem]) (hC.alloc hC.size _) (below1 _ _) ⟨_, hC.size, rfl, Blk.new _ _ _⟩
            exact trivial
          rintro xv w5 hxv hb5
          have y55 : xv 55 = .slice (some ⟨gb, 0, none⟩) j cap := hxv 55 (by decide)
          obtain ⟨q69, lq69, y69, bq69⟩ : ∃ q, wr.heap.size ≤ q ∧ xv 69 = .slice (some ⟨q, 0, none⟩) 1 1 ∧ Blk w5 q #[.int .i64 (f j), .int .i16 Y] 67 := hxv 69 (by decide)
          simp only [fill, dstsOf, List.filterMap_cons, List.filterMap_nil, List.foldl_cons, List.foldl_nil, List.set_cons_succ, List.set_cons_zero, List.take_succ_cons, List.take_zero, List.drop_succ_cons, List.drop_zero, y55, y69]
          clear hxv y55 y69
          have hG5 := hG.below hb5 lG
          have hA5 := hA1.below hb5 lA1
          have hB5 := hB1.below hb5 lB1
          have hbs5 := hbs.trans (hb5.mono (by omega))
          have hbW5 := hbW.trans (hb5.mono sW)
          have e5 := hb5.size
          clear hG hA1 hB1 hbs hbW hb5 z0
          go_wp2_with (at_builtin; refine wpList_app elRg rfl rfl rfl rfl (by decide) hG5 bq69 rfl ?_ ?_ ?_ ?_; (· intro u hu; simp at hu; rcases hu with rfl | rfl <;> rfl); (· unfold maxLen; omega); (· omega); intro v1 w7 g2 hown1 hgr1 hg1)
          have s5 := hbs5.size
          have t5 := hbW5.size
          go_roundw
          case rel =>
            refine ⟨j + 1, g2, by omega, by go_num, ?_, ?_, ?_, ?_, ?_, ?_⟩
            · rw [rgs_succ, HEJ.out, Rg.cells_eq]; exact hown1
            · rcases hg1 with h | h
              · omega
              · rw [h]; omega
            · exact hA5.grown hgr1 (fun e => by injection e; omega)
            · exact hB5.grown hgr1 (fun e => by injection e; omega)
            · exact hbs5.grown hgr1 (by omega) (fun k e => by injection e; omega)
            · exact hbW5.grown hgr1 (by omega) (fun k e => by injection e; omega)
          case measure => simp [intOf]; omega
        · obtain rfl : j = k := by omega
          go_wp2_with fail
          go_ret2
          exact ⟨_, gb, rfl, by omega, hG, by rw [e0]; exact hbs⟩
end Go.Proofs.Ytglimhkpndfjgaa
/- Numbers that are the same: the program's and the reference's answers. -/
namespace Go.Proofs.Ytglimhkpndfjgaa
open Go.ChangeShapes Go.WideShapes Go.ChangeAt Go.RowKit
set_option linter.unusedVariables false
set_option linter.unusedSimpArgs false
attribute [local irreducible] Calls
set_option maxRecDepth 100000 in
set_option maxHeartbeats 400000 in
theorem l01Same_cn {x y : Nat} (h : cn x = cn y) (w : World) :
    Calls Try.prog 43 #[.float .f32 x, .float .f32 y] w fun e w' => e = .returned (.bool true) ∧ w' = w := by
  have hb := run_n32bits x
  rcases cnk_eq h with ⟨hx, hy⟩ | ⟨hn, rfl⟩
  · have ho := order_nan_left (k := .f32) (x := x) (y := x) hx
    have hp := order_nan_left (k := .f32) (x := y) (y := y) hy
    go_enter Try.func43, Try.ntmps43
    go_wp2_with fail
    go_ret
    exact ⟨rfl, rfl⟩
  · have ho := order_self (k := .f32) hn
    go_enter Try.func43, Try.ntmps43
    go_wp2_with fail
    go_ret
    exact ⟨rfl, rfl⟩
set_option maxRecDepth 100000 in
set_option maxHeartbeats 400000 in
theorem sameNumberS_cn {x y : Nat} (hc : cn x = cn y) (w : World) :
    Calls Try.prog 14 #[.float .f32 x, .float .f32 y] w fun e w' => e = .returned (.bool true) ∧ w' = w := by
  have h := fun w' => l01Same_cn hc w'
  go_enter Try.func14, Try.ntmps14
  go_wp2_with (go_at_call 43; refine (h _).mono ?_; rintro e w' ⟨rfl, hw⟩; rw [hw]; clear hw w')
  go_ret
  exact ⟨rfl, rfl⟩
end Go.Proofs.Ytglimhkpndfjgaa
/- Bytes that a caller hands in: opened; are they too many (a2Long)? -/
namespace Go.Proofs.Ytglimhkpndfjgaa
open Go.ChangeShapes Go.WideShapes Go.ChangeAt Go.RowKit
set_option linter.unusedVariables false
set_option linter.unusedSimpArgs false

/-- The slice v holds n bytes. -/
def BSl (w : World) (v : Value) (n : Nat) : Prop :=
  ∃ (a : Option Addr) (c : Nat), v = .slice a n c ∧ n ≤ maxLen ∧ ∀ j, j < n → ∃ (r o x : Nat), a = some ⟨r, o, none⟩ ∧ r < w.heap.size ∧ x < 256 ∧ w.cell? ⟨r, o + j, none⟩ = some (.int .u8 x)
theorem BSl.below {w w' : World} {v : Value} {n : Nat} (h : BSl w v n) (hb : Below w.heap.size w w') : BSl w' v n := by
  obtain ⟨a, c, hv, hn, hc⟩ := h
  refine ⟨a, c, hv, hn, fun j hj => ?_⟩
  obtain ⟨r, o, x, h1, h2, h3, h4⟩ := hc j hj
  exact ⟨r, o, x, h1, Nat.lt_of_lt_of_le h2 hb.size, h3, (hb.cell (p := ⟨r, _, none⟩) h2).trans h4⟩
theorem BSl.bytes {w : World} {v : Value} {n : Nat} (h : BSl w v n) (hn : n ≤ 4096) : Bytes w w.heap.size v n := by
  obtain ⟨a, c, hv, _, hc⟩ := h
  exact ⟨a, c, hv, hn, hc⟩
section
variable {H : Type} {enc : TypeId × Value → H} {W : World} {r : Reach} {b0 : Nat}
set_option maxRecDepth 100000 in
theorem bytes_of_trod {fuel : Nat} {v : Value} {x : DataW H × List MemPlace} (h : DataW.trod enc Try.prog W 0 (fun _ => true) true fuel 22 [v] = some x) : ∃ n, BSl W v n := by
  rcases Go.Deep.open_slice Try.underlying22 h with ⟨h1, _⟩ | ⟨a, len, cap, m, k, D, Pl, h1, _, hl, hm, hmm, _, hx⟩
  · obtain rfl : v = .slice none 0 0 := by simpa using h1
    exact ⟨0, none, 0, rfl, Nat.zero_le _, fun j hj => absurd hj (by omega)⟩
  obtain rfl : v = .slice (some a) len cap := by simpa using h1
  have c1 : Try.prog.cellsOf 5 = 1 := by kernel_rfl
  have hlm : len ≤ m := by rw [hmm]; split <;> omega
  rw [c1] at hx
  have hf : ∀ j, j < len → ∃ q : Int, W.cell? ((a.add (j * 1)).add 0) = some (.int .u8 q) ∧ 0 ≤ q ∧ q ≤ 255 := fun j hj => by
    obtain ⟨cs', g1, g2⟩ := hx j (by omega)
    obtain ⟨q, hq, _, hwf⟩ := DataW.trod_int Try.underlying5 g2
    obtain ⟨_, hlen, hcell⟩ := World.cells?_some g1
    obtain ⟨q1, q2⟩ := bounds_u8 hwf
    exact ⟨q, by rw [hcell 0 (by omega), hq]; simp, q1, q2⟩
  refine ⟨len, some a, cap, rfl, Nat.le_trans hl hm, fun j hj => ?_⟩
  obtain ⟨q0, hc0, _⟩ := hf 0 (by omega)
  obtain ⟨b, o, spot⟩ := a
  have hspot : spot = none := by simpa [Addr.add] using World.cell?_spot hc0
  subst hspot
  obtain ⟨q, hc1, q1, q2⟩ := hf j hj
  rw [add_plain, add_plain] at hc1
  refine ⟨b, o, q.toNat, rfl, lt_of_cell hc1, by omega, ?_⟩
  rw [show ((q.toNat : Nat) : Int) = q by omega]
  simpa using hc1
set_option maxRecDepth 100000 in
theorem open_bytes {v : Value} {d : DataW H} {ps : List MemPlace} (hval : Value.okWide Try.prog W r b0 22 v) (h : DataW.Trod enc Try.prog W 0 (fun _ => true) true 22 v d ps) : ∃ n : Nat, BSl W v n := by
  obtain ⟨a, len, cap, rfl⟩ := okWide_slice Try.underlying22 hval
  obtain ⟨fuel, hf⟩ := h
  exact bytes_of_trod hf
end
attribute [local irreducible] Calls
end Go.Proofs.Ytglimhkpndfjgaa
