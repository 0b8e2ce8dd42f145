import Derived.Test.YtglimhkpndfjgaaMT24
/- Fits: the reference's rounds of a fit, the readings that come from an aquifer. -/
namespace Go.Proofs.Ytglimhkpndfjgaa
open Go.ChangeShapes Go.WideShapes Go.ChangeAt Go.RowKit
set_option linter.unusedVariables false
set_option linter.unusedSimpArgs false
attribute [local irreducible] Calls
theorem bodyPost_row4 {P : Program} {fn : Func} {R : Ending → World → Prop} {a : Act} {w : World} {p u v x : Tmp} {ty t : TypeId} {b n : Nat} {C : Array Value} (hf : fn.results = #[.cell p ty, .tmp u, .tmp v, .tmp x]) (hp : a.tmps.getD p undef = .pointer (some ⟨b, 0, none⟩)) (hr : RowTy P ty n) (hb : Blk w b C t) (hs : C.size = n) (hd : a.defers = [])
    (hR : R (.returned (.tuple #[.agg C, a.tmps.getD u undef, a.tmps.getD v undef, a.tmps.getD x undef])) w) : bodyPost P fn R .ret a w := by
  obtain ⟨d, hu, hd', hi⟩ := hr
  have hl := run_loadVar_row (P := P) w b t ty C (0, 0) d hb hu (by cases d <;> simp_all) (by rw [hi, hs])
  refine bodyPost_ret (v := .tuple #[.agg C, a.tmps.getD u undef, a.tmps.getD v undef, a.tmps.getD x undef]) ?_ hd hR
  have hp' : a.tmps[p]?.getD undef = .pointer (some ⟨b, 0, none⟩) := by simpa using hp
  simp [results, hf, hp', asAddr, hl]
/-! ### One round, by the list of those that are right. -/
theorem fsT_is (M : Nat → Nat → Nat) (T S m : Nat) : fsT M T S m = if (vlTo T S 4).length = 0 then none else if vM M (vlTo T S 4) (lsTo (vM M (vlTo T S 4)) (vlTo T S 4).length) < m then some (vT (vlTo T S 4) (lsTo (vM M (vlTo T S 4)) (vlTo T S 4).length), vS (vlTo T S 4) (lsTo (vM M (vlTo T S 4)) (vlTo T S 4).length), vM M (vlTo T S 4) (lsTo (vM M (vlTo T S 4)) (vlTo T S 4).length)) else none := by
  unfold fsT
  rw [bt_is]
  unfold bsL
  by_cases h : (vlTo T S 4).length = 0
  · rw [if_pos h, if_pos h]
  · rw [if_neg h, if_neg h]
theorem ft_stop {M : Nat → Nat → Nat} {F : Ft} (h : fsT M F.T F.S F.m = none) (k : Nat) : ftR M k F = F := by
  cases k with
  | zero => rfl
  | succ k => unfold ftR; rw [h]
theorem ft_go {M : Nat → Nat → Nat} {F : Ft} {b : Nat × Nat × Nat} (h : fsT M F.T F.S F.m = some b) (k : Nat) : ftR M (k + 1) F = ftR M k ⟨b.1, b.2.1, b.2.2, F.c + 1⟩ := by
  show (match fsT M F.T F.S F.m with | none => F | some b => ftR M k ⟨b.1, b.2.1, b.2.2, F.c + 1⟩) = _
  rw [h]
theorem zeroAqU : ZeroTy Try.prog 26 #[.float .f32 0, .float .f32 0] := by unfold ZeroTy; kernel_rfl
theorem aqOne (T S : Nat) : ∀ u ∈ (#[.float .f32 T, .float .f32 S] : Array Value).toList, u.oneCell' = true := fun u hu => by simp at hu; rcases hu with rfl | rfl <;> rfl
set_option maxRecDepth 100000 in
set_option maxHeartbeats 8000000 in
theorem specFitFrom_any (T S : Nat) (hA : AqD T S) (s : Si) (hs : SiD s) (n : Nat) (R : Nat → Rg) (hR : RdD n R) (rd : Nat) (hrd : rd ≤ 60) (v : Value) (w : World) (hv : RSl w v n R) :
    Calls Try.prog 13 #[.agg #[.float .f32 T, .float .f32 S], .agg s.cells, v, .int .i64 rd] w fun e w' => e = .returned (.tuple #[.agg #[.float .f32 (ftR (mfX s R n) rd ⟨T, S, mfX s R n T S, 0⟩).T, .float .f32 (ftR (mfX s R n) rd ⟨T, S, mfX s R n T S, 0⟩).S], .float .f32 (ftR (mfX s R n) rd ⟨T, S, mfX s R n T S, 0⟩).m, .int .i64 (ftR (mfX s R n) rd ⟨T, S, mfX s R n T S, 0⟩).c, .int .i64 0]) ∧ Below w.heap.size w w' := by
  have q1 := fun w' (hv : RSl w' v n R) => l04Asked_any T S hA s hs n R hR v w' hv
  have q2 := fun w' (hv : RSl w' v n R) => l04Misfit_any T S hA.aq s hs n hR.le R hR.each v w' hv
  have q3 := fun T S (h : Aq T S) w' => l04Tries_any T S h w'
  have q4 := fun k (hk : 1 ≤ k ∧ k ≤ 20) P (hP : ∀ i, i < k → AqD (P i).T (P i).S) u w' (hu : QSl w' u k P) (hv : RSl w' v n R) => l04Best_any k hk P hP s hs n hR.le R hR.each u v w' hu hv
  have hfin := fun T S (h : Aq T S) => (mfX_in h hs hR.each hR.le).1
  have q5 := fun w' => l00In_any (rd : Int) 0 60 w'
  rw [decide_eq_true (by omega : (0 : Int) ≤ rd), decide_eq_true (by omega : (rd : Int) ≤ 60)] at q5
  rw [s.cells_eq] at q1 q2 q4 ⊢
  obtain ⟨M, hM⟩ : ∃ M, mfX s R n = M := ⟨_, rfl⟩
  rw [hM] at q2 hfin ⊢
  have hM2 : ∀ T S, mfX s R n T S = M T S := fun T S => by rw [hM]
  simp only [hM2] at q4
  clear hM hM2
  obtain ⟨FR, hFR⟩ : ∃ f, ftR M rd ⟨T, S, M T S, 0⟩ = f := ⟨_, rfl⟩
  rw [hFR]
  have HFR := Lib.hid hFR
  clear hFR
  have h1 := below2 w (.cells #[.float .f32 T, .float .f32 S] 26) (.cells #[.int .i8 s.px, .int .i8 s.py, .float .f32 s.rt, .int .i8 s.x, .int .i8 s.y] 32)
  have hA0 : Blk ((w.alloc (.cells #[.float .f32 T, .float .f32 S] 26)).alloc (.cells #[.int .i8 s.px, .int .i8 s.py, .float .f32 s.rt, .int .i8 s.x, .int .i8 s.y] 32)) w.heap.size #[.float .f32 T, .float .f32 S] 26 := (Blk.new _ _ _).alloc _
  have hB0 : Blk ((w.alloc (.cells #[.float .f32 T, .float .f32 S] 26)).alloc (.cells #[.int .i8 s.px, .int .i8 s.py, .float .f32 s.rt, .int .i8 s.x, .int .i8 s.y] 32)) (w.heap.size + 1) #[.int .i8 s.px, .int .i8 s.py, .float .f32 s.rt, .int .i8 s.x, .int .i8 s.y] 32 := Blk.new1 _ _ _ _
  have hC0 : Blk (((w.alloc (.cells #[.float .f32 T, .float .f32 S] 26)).alloc (.cells #[.int .i8 s.px, .int .i8 s.py, .float .f32 s.rt, .int .i8 s.x, .int .i8 s.y] 32)).alloc (.cells #[.float .f32 0, .float .f32 0] 26)) (w.heap.size + 1 + 1) #[.float .f32 0, .float .f32 0] 26 := Blk.new2 _ _ _ _ _
  have hA0 := hA0.alloc (.cells #[.float .f32 0, .float .f32 0] 26)
  have hB0 := hB0.alloc (.cells #[.float .f32 0, .float .f32 0] 26)
  have hb := h1.alloc h1.size (.cells #[.float .f32 0, .float .f32 0] 26)
  have HV0 := Lib.hid hv
  have hv := hv.below hb
  have hAD := hA
  have HQ3 := Lib.hid q3
  have HQ4 := Lib.hid q4
  have HFIN := Lib.hid hfin
  clear hs hR h1 hA q3 q4 hfin
  go_enter Try.func13, Try.ntmps13
  go_upto_region 1 with (refine wpList_alloc_as rfl rfl zeroAqU ?_)
  generalize ((w.alloc (.cells #[.float .f32 T, .float .f32 S] 26)).alloc (.cells #[.int .i8 s.px, .int .i8 s.py, .float .f32 s.rt, .int .i8 s.x, .int .i8 s.y] 32)).alloc (.cells #[.float .f32 0, .float .f32 0] 26) = W at *
  obtain ⟨b2, e2⟩ : ∃ b, w.heap.size + 1 + 1 = b := ⟨_, rfl⟩
  rw [e2] at hC0 ⊢
  obtain ⟨b1, e1⟩ : ∃ b, w.heap.size + 1 = b := ⟨_, rfl⟩
  rw [e1] at hB0 ⊢
  obtain ⟨b0, e0⟩ : ∃ b, w.heap.size = b := ⟨_, rfl⟩
  rw [e0] at hA0 hb ⊢
  have sb : b0 ≤ W.heap.size := by have := hb.size; omega
  have l2 : b0 < b2 := by omega
  clear e1 e2
  go_upto_region 6 with (first | (refine wpList_load_blk rfl rfl rfl rowAq hA0 rfl ?_) | (refine wpList_load_blk rfl rfl rfl rowSi hB0 rfl ?_) | (go_at_call 37; refine (q1 _ hv).mono ?_; rintro e w1 ⟨rfl, hb1⟩; replace hA0 := hA0.below hb1 hA0.lt; replace hB0 := hB0.below hb1 hB0.lt; replace hC0 := hC0.below hb1 hC0.lt; replace hv := hv.below hb1; replace hb := hb.trans (hb1.mono sb); clear hb1) | (go_at_call 30; refine (q5 _).mono ?_; rintro e w' ⟨rfl, hw⟩; rw [hw]; clear hw w'))
  go_upto_region 7 with (first | (refine wpList_load_blk rfl rfl rfl rowAq hA0 rfl ?_) | (refine wpList_alloc_as rfl rfl zeroAqU ?_) | (refine wpList_store_last rfl rfl rfl rfl rfl (by kernel_rfl) rfl rfl ?_))
  have sb1 : b0 ≤ w1.heap.size := by have := hb.size; omega
  have hD0 := Blk.new w1 #[.float .f32 T, .float .f32 S] 26
  have hB1 := hB0.alloc (.cells #[.float .f32 T, .float .f32 S] 26)
  have hC1 := hC0.alloc (.cells #[.float .f32 T, .float .f32 S] 26)
  have hv1 := hv.below (below1 w1 (.cells #[.float .f32 T, .float .f32 S] 26))
  have hb1 := hb.alloc sb1 (.cells #[.float .f32 T, .float .f32 S] 26)
  have lC := hC0.lt
  have lB := hB0.lt
  generalize w1.alloc (.cells #[.float .f32 T, .float .f32 S] 26) = W1 at *
  obtain ⟨b3, e3⟩ : ∃ b, w1.heap.size = b := ⟨_, rfl⟩
  rw [e3] at hD0 lC lB ⊢
  clear hA0 hB0 hC0 hb hv e3
  go_upto_region 8 with (first | (refine wpList_load_blk rfl rfl rfl rowAq hD0 rfl ?_) | (refine wpList_load_blk rfl rfl rfl rowSi hB1 rfl ?_) | (go_at_call 38; refine (q2 _ hv1).mono ?_; rintro e w2 ⟨rfl, hb2⟩))
  have hD2 := hD0.below hb2 hD0.lt
  have hB2 := hB1.below hb2 hB1.lt
  have hC2 := hC1.below hb2 hC1.lt
  have hv2 := hv1.below hb2
  have hbb2 := hb1.trans (hb2.mono (by have := hb1.size; omega))
  clear hD0 hB1 hC1 hv1 hb1 hb2 q1 q2
  go_wp2_with fail
  go_loopw [14, 15] (fun x y wr => ∃ T1 S1 m1 c1 : Nat, c1 ≤ rd ∧ x = .float .f32 m1 ∧ y = .int .i64 c1 ∧ AqD T1 S1 ∧ m1 = M T1 S1 ∧ ftR M (rd - c1) ⟨T1, S1, m1, c1⟩ = FR ∧ Blk wr b3 #[.float .f32 T1, .float .f32 S1] 26 ∧ Blk wr b1 #[.int .i8 s.px, .int .i8 s.py, .float .f32 s.rt, .int .i8 s.x, .int .i8 s.y] 32 ∧ Blk wr b2 #[.float .f32 0, .float .f32 0] 26 ∧ Below b0 w wr) (fun _ y _ => rd - (intOf y).toNat)
  case atStart => exact ⟨T, S, M T S, 0, by omega, rfl, rfl, hAD, rfl, HFR.out, hD2, hB2, hC2, hbb2⟩
  case round =>
    clear hD2 hB2 hC2 hv2 hbb2
    obtain ⟨T1, S1, m1, c1, hGc, rfl, rfl, hGA, hGm, hGR, hD, hB, hC, hbs⟩ := hrel
    have hv := HV0.out.below (by rw [e0]; exact hbs)
    have bk : (0 : Int) ≤ c1 := by omega
    have lD := hD.lt
    have lB1 := hB.lt
    have lC1 := hC.lt
    have sbs : b0 ≤ wr.heap.size := by have := hbs.size; omega
    by_cases hlt : c1 < rd
    · have bl : (c1 : Int) < rd := by omega
      obtain ⟨l, hl⟩ : ∃ l, rd - c1 = l + 1 := ⟨rd - c1 - 1, by omega⟩
      have hq3 := HQ3.out T1 S1 hGA.aq
      have hfs := fsT_is M T1 S1 m1
      have hlen := vlTo_len T1 S1 4
      have hget := fun i hi => vl_get hGA.aq (k := 4) (i := i) hi
      obtain ⟨L, hL⟩ : ∃ L, vlTo T1 S1 4 = L := ⟨_, rfl⟩
      rw [hL] at hq3 hfs hlen hget
      clear hL
      have HGT := Lib.hid hget
      have HFS := Lib.hid hfs
      have HGR := Lib.hid hGR
      have HGM := Lib.hid hGm
      clear hget hfs hGR hGm
      go_upto_region 11 with (first | (refine wpList_load_blk rfl rfl rfl rowAq hD rfl ?_) | (go_at_call 41; refine (hq3 _).mono ?_; rintro e w5 ⟨x5, g5, rfl, hg5, hO5, hb5⟩))
      have hD5 := hD.below hb5 lD
      have hB5 := hB.below hb5 lB1
      have hC5 := hC.below hb5 lC1
      have hv5 := hv.below hb5
      have hbs5 := hbs.trans (hb5.mono sbs)
      obtain ⟨cap, rfl, hcap, hcapm⟩ := hO5.form
      unfold maxLen at hcapm
      clear hD hB hC hv hbs hb5 hq3
      have hget := HGT.out
      have hfs := HFS.out
      have hGR := HGR.out
      have hGm := HGM.out
      clear HGT HFS HGR HGM
      by_cases hl0 : L.length = 0
      · rw [if_pos hl0] at hfs
        have HEND : Hid (⟨T1, S1, m1, c1⟩ = FR) := Lib.hid ((ft_stop (M := M) (F := ⟨T1, S1, m1, c1⟩) hfs (rd - c1)).symm.trans hGR)
        have hnb : ((L.length : Int) == 0) = true := by rw [hl0]; rfl
        clear hfs hGR hl hget hGm hl0
        go_wp2_with (first | (refine wpList_load_blk rfl rfl rfl rowAq hD5 rfl ?_) | (refine wpList_store_blk rfl rfl rfl rfl rowAq hC5 rfl rfl (aqOne _ _) ?_))
        refine bodyPost_row4 rfl rfl rowAq (hC5.setRow _) rfl rfl ⟨by rw [← HEND.out]; rfl, ?_⟩
        exact below_setRow (by rw [e0]; exact hbs5) (by omega) _
      · rw [if_neg hl0] at hfs
        have hnb : ((L.length : Int) == 0) = false := by rw [beq_eq_false_iff_ne]; omega
        have hq4 := HQ4.out L.length (by omega) (vA L) hget _ w5 hO5.qsl hv5
        have hjl := lsTo_lt (vM M L) L.length (by omega)
        change Calls _ _ _ _ (fun e w' => e = .returned (.tuple #[.int .i64 (lsTo (vM M L) L.length : Nat), .float .f32 (vM M L (lsTo (vM M L) L.length))]) ∧ _) at hq4
        have hfm : vM M L (lsTo (vM M L) L.length) < 2139095040 := HFIN.out _ _ (hget _ hjl).aq
        have hfm1 : m1 < 2139095040 := by rw [hGm]; exact HFIN.out _ _ hGA.aq
        have hAD2 := hget _ hjl
        have hvm : vM M L (lsTo (vM M L) L.length) = M (vT L (lsTo (vM M L) L.length)) (vS L (lsTo (vM M L) L.length)) := rfl
        have y0 : ∀ w', Below w5.heap.size w5 w' → w'.cell? ⟨g5, (lsTo (vM M L) L.length) * 2, none⟩ = some (.float .f32 (vT L (lsTo (vM M L) L.length))) := fun w' h => by
          rw [(hO5.below h hO5.lt).cell _ (by omega), show lsTo (vM M L) L.length * 2 = lsTo (vM M L) L.length * 2 + 0 by omega, lqs_get _ _ _ 0 hjl (by omega), Aqf.get0]; rfl
        have y1 : ∀ w', Below w5.heap.size w5 w' → w'.cell? ⟨g5, (lsTo (vM M L) L.length) * 2 + 1, none⟩ = some (.float .f32 (vS L (lsTo (vM M L) L.length))) := fun w' h => by
          rw [(hO5.below h hO5.lt).cell _ (by omega), lqs_get _ _ _ 1 hjl (by omega), Aqf.get1]; rfl
        generalize vM M L (lsTo (vM M L) L.length) = Z at *
        generalize vT L (lsTo (vM M L) L.length) = T2 at *
        generalize vS L (lsTo (vM M L) L.length) = S2 at *
        generalize lsTo (vM M L) L.length = j at *
        have bj : (0 : Int) ≤ j := by omega
        have bjl : (j : Int) < L.length := by omega
        have ht := flt_eq Z m1
        rw [flt_fin hfm hfm1] at ht
        by_cases hZ : Z < m1
        · rw [if_pos hZ] at hfs
          rw [decide_eq_true hZ] at ht
          have hgo := ft_go (M := M) (F := ⟨T1, S1, m1, c1⟩) (b := (T2, S2, Z)) hfs l
          rw [hl] at hGR
          have HGO : Hid (ftR M l ⟨T2, S2, Z, c1 + 1⟩ = FR) := Lib.hid (hgo.symm.trans hGR)
          have HVM := Lib.hid hvm
          have HL : rd - (c1 + 1) = l := by omega
          have HLL := Lib.hid HL
          clear hgo hGR hfs hZ hGm hl HL hvm hget
          go_upto_region 13 with (first | (refine wpList_load_blk rfl rfl rfl rowSi hB5 rfl ?_) | (go_at_call 42; refine hq4.mono ?_; rintro e w6 ⟨rfl, hb6⟩))
          have z0 := y0 w6 hb6
          have z1 := y1 w6 hb6
          have hD6 := hD5.below hb6 hD5.lt
          have hB6 := hB5.below hb6 hB5.lt
          have hC6 := hC5.below hb6 hC5.lt
          have hbs6 := hbs5.trans (hb6.mono (by have := hbs5.size; omega))
          clear y0 y1 hq4 hD5 hB5 hC5 hv5 hbs5 hb6 hO5
          go_wp2_with (refine wpList_store_blk rfl rfl rfl rfl rowAq hD6 rfl rfl (aqOne _ _) ?_)
          go_roundw
          case rel =>
            refine ⟨T2, S2, Z, c1 + 1, by omega, rfl, by go_num, hAD2, HVM.out, by rw [HLL.out]; exact HGO.out, hD6.setRow _, hB6.rowOther _ (by omega), hC6.rowOther _ (by omega), below_setRow hbs6 (by omega) _⟩
          case measure => simp [intOf]; omega
        · rw [if_neg hZ] at hfs
          rw [decide_eq_false hZ] at ht
          have HEND : Hid (⟨T1, S1, m1, c1⟩ = FR) := Lib.hid ((ft_stop (M := M) (F := ⟨T1, S1, m1, c1⟩) hfs (rd - c1)).symm.trans hGR)
          clear hfs hGR hl hZ hvm hget hGm
          go_upto_region 13 with (first | (refine wpList_load_blk rfl rfl rfl rowSi hB5 rfl ?_) | (go_at_call 42; refine hq4.mono ?_; rintro e w6 ⟨rfl, hb6⟩))
          have hD6 := hD5.below hb6 hD5.lt
          have hC6 := hC5.below hb6 hC5.lt
          have hbs6 := hbs5.trans (hb6.mono (by have := hbs5.size; omega))
          clear y0 y1 hq4 hD5 hB5 hC5 hv5 hbs5 hb6 hO5
          go_wp2_with (first | (refine wpList_load_blk rfl rfl rfl rowAq hD6 rfl ?_) | (refine wpList_store_blk rfl rfl rfl rfl rowAq hC6 rfl rfl (aqOne _ _) ?_))
          refine bodyPost_row4 rfl rfl rowAq (hC6.setRow _) rfl rfl ⟨by rw [← HEND.out]; rfl, ?_⟩
          exact below_setRow (by rw [e0]; exact hbs6) (by omega) _
    · obtain rfl : c1 = rd := by omega
      have HEND : Hid (⟨T1, S1, m1, c1⟩ = FR) := Lib.hid (by rw [Nat.sub_self] at hGR; exact hGR)
      clear hGR hGm
      go_wp2_with (first | (refine wpList_load_blk rfl rfl rfl rowAq hD rfl ?_) | (refine wpList_store_blk rfl rfl rfl rfl rowAq hC rfl rfl (aqOne _ _) ?_))
      refine bodyPost_row4 rfl rfl rowAq (hC.setRow _) rfl rfl ⟨by rw [← HEND.out]; rfl, ?_⟩
      exact below_setRow (by rw [e0]; exact hbs) (by omega) _
end Go.Proofs.Ytglimhkpndfjgaa
