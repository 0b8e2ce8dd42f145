/- The law over loggers (FnLoggers): the walk. -/
import Derived.Test.YtnfoemgiebplmaaLawLgs
namespace Go.Proofs.Ytnfoemgiebplmaa
open Go.ChangeShapes Go.WideShapes Go.ChangeAt Go.RowKit
set_option linter.unusedVariables false
set_option linter.unusedSimpArgs false
attribute [local irreducible] Calls
/-- A whole row loaded where a guard says so. -/
theorem wpList_load_want {P : Program} {ops : Array Oper} {rest : List Oper} {o : Oper} {a : Act} {Q : Exit → Act → World → Prop} {w : World} {ty t : TypeId} {x : Operand} {b n : Nat} {C : Array Value} (hw : Region.wanted o (yielded ops a.tmps) = true) (ho : o.op = .load ty x) (hx : a.eval x = .pointer (some ⟨b, 0, none⟩)) (hr : RowTy P ty n) (hb : Blk w b C t) (hs : C.size = n)
    (h : wpList P ops Q rest (a.put o.dst (.agg C)) w) : wpList P ops Q (o :: rest) a w := by
  obtain ⟨d, hu, hd, hi⟩ := hr
  exact wpList_step fun K hK => by
    simp only [hw, if_true]
    exact wp_load_row ty x ho b hx t C (0, 0) d hb hu (by cases d <;> simp_all) (by rw [hi, hs]) (hK _ _ h)
theorem ty42 : Try.prog.underlying 42 = some (.array 64 41) := by kernel_rfl
theorem sz16 : ∀ w, (sizeOf 41).run Try.prog w = .ok 1 w := fun w => by kernel_rfl
set_option maxRecDepth 100000 in
set_option maxHeartbeats 1000000 in
theorem lawLoggers (v1 : Value) (n1 : Nat) (v2 : Value) (n2 : Nat) (w : World) (h1 : BSl w v1 n1) (h2 : BSl w v2 n2) :
    Calls Try.prog 14 #[v1, v2] w fun e w' => e = .returned (.bool true) ∧ Below w.heap.size w w' := by
  have h1' := h1
  have h2' := h2
  obtain ⟨a1, c1, rfl, m1, _⟩ := h1'
  obtain ⟨a2, c2, rfl, m2, _⟩ := h2'
  have hlong := fun w' => a2Long_any a1 a2 n1 n2 c1 c2 m1 m2 w'
  by_cases hl : 3000 < n1 ∨ 3000 < n2
  · have hd : (decide (3000 < n1) || decide (3000 < n2)) = true := by simp; exact hl
    rw [hd] at hlong
    clear hd hl h1 h2 m1 m2
    go_enter Try.func14, Try.ntmps14
    go_wp2_with (go_at_call 56; refine (hlong _).mono ?_; rintro e w' ⟨rfl, hw⟩; rw [hw]; clear hw w')
    go_ret
    exact ⟨rfl, Below.refl _ _⟩
  have hd : (decide (3000 < n1) || decide (3000 < n2)) = false := by simp; omega
  rw [hd] at hlong
  have q1 : n1 ≤ 4096 := by omega
  have q2 : n2 ≤ 4096 := by omega
  have hgr1 := a2Ground_any _ _ w (h1.bytes q1)
  have hgr2 := fun w' hb => a2Ground_any _ _ w' ((h2.below hb).bytes q2)
  clear hd hl h1 m1 m2 h2
  go_enter Try.func14, Try.ntmps14
  go_upto_region 4 with (first | (go_at_call 56; refine (hlong _).mono ?_; rintro e w' ⟨rfl, hw⟩; rw [hw]; clear hw w') | (go_at_call 57; refine hgr1.mono ?_; rintro e w1 ⟨G, hG, rfl, hbel⟩) | (refine wpList_alloc_as rfl rfl zero66 ?_) | (refine wpList_store_last rfl rfl rfl rfl rfl (by rw [Gr.size]; kernel_rfl) (by rw [Gr.size, Gr.size]) (List.all_eq_true.2 (Gr.one _)) ?_))
  have hA := Blk.new w1 G.cells 30
  have hbel := hbel.alloc hbel.size (.cells G.cells 30)
  generalize w1.alloc (.cells G.cells 30) = W1 at *
  generalize w1.heap.size = p5 at *
  have lA := hA.lt
  have hgr2 := hgr2 W1 hbel
  clear hgr1 hlong
  go_upto_region 5 with (first | (go_at_call 57; refine hgr2.mono ?_; rintro e w2 ⟨K, hK, rfl, hb2⟩) | (refine wpList_alloc_as rfl rfl zero66 ?_) | (refine wpList_store_last rfl rfl rfl rfl rfl (by rw [Gr.size]; kernel_rfl) (by rw [Gr.size, Gr.size]) (List.all_eq_true.2 (Gr.one _)) ?_))
  have hA := (hA.below hb2 lA).alloc (.cells K.cells 30)
  have hB := Blk.new w2 K.cells 30
  have hbel := hbel.trans (hb2.mono hbel.size)
  have hbel := hbel.alloc hbel.size (.cells K.cells 30)
  generalize w2.alloc (.cells K.cells 30) = W2 at *
  generalize w2.heap.size = p6 at *
  clear hgr2 hb2 lA
  have lA := hA.lt
  have lB := hB.lt
  have hF := levF_bd hG
  have hFK := levF_bd hK
  have hiG := fun w' => loggedLevels_any lg (fun b w h => logged_any b w h) G hG.ok w'
  have hsG := fun w' => specLoggedLevels_any lg (fun b w h => l07Logged_any b w h) G hG.ok w'
  have hiK := fun w' => loggedLevels_any lg (fun b w h => logged_any b w h) K hK.ok w'
  rw [levC_zero hG] at hiG hsG
  rw [levC_zero hK] at hiK
  have HFC : Hid (∀ i, isC G i = true → levF lg G i = lg (G.hea i)) := Lib.hid fun i h => levF_cell hG h
  have HFN : Hid (∀ i, isC G i = false → levF lg G i = 0) := Lib.hid fun i h => levF_not h
  have HOF : Hid (∀ i, i < 64 → isC G i = true → isN .f32 (G.hea i) = false ∧ offOk (G.hea i) = true) := Lib.hid fun i hi h => by
    obtain ⟨x, hx, hh⟩ := hG.hea i hi h
    rw [hh]; exact ⟨plain_num (few_all x hx).2.2.2, (offs_all x hx).1⟩
  generalize levF lg G = F at *
  generalize levF lg K = FK at *
  go_upto_region 6 with (first | (refine wpList_load_blk rfl rfl rfl row66 hA G.size ?_) | (go_at_call 24; refine (hiG _).mono ?_; rintro e w3 ⟨rfl, hb3⟩) | (refine wpList_alloc_as rfl rfl zero42 ?_) | (refine wpList_store_last rfl rfl rfl rfl rfl (by rw [i16s_size]; exact size42) (by rw [i16s_size, i16s_size]) (List.all_eq_true.2 (i16s_one _ _)) ?_))
  have hA := (hA.below hb3 lA).alloc (.cells (i16s 64 F) 42)
  have hB := (hB.below hb3 lB).alloc (.cells (i16s 64 F) 42)
  have hX := Blk.new w3 (i16s 64 F) 42
  have hbel := hbel.trans (hb3.mono hbel.size)
  have hbel := hbel.alloc hbel.size (.cells (i16s 64 F) 42)
  generalize w3.alloc (.cells (i16s 64 F) 42) = W3 at *
  generalize w3.heap.size = p7 at *
  clear hb3 lA lB hiG
  have lA := hA.lt
  have lB := hB.lt
  have lX := hX.lt
  go_upto_region 7 with (first | (refine wpList_load_blk rfl rfl rfl row66 hA G.size ?_) | (go_at_call 23; refine (hsG _).mono ?_; rintro e w4 ⟨rfl, hb4⟩) | (refine wpList_alloc_as rfl rfl zero42 ?_) | (refine wpList_store_last rfl rfl rfl rfl rfl (by rw [i16s_size]; exact size42) (by rw [i16s_size, i16s_size]) (List.all_eq_true.2 (i16s_one _ _)) ?_))
  have hA := (hA.below hb4 lA).alloc (.cells (i16s 64 F) 42)
  have hB := (hB.below hb4 lB).alloc (.cells (i16s 64 F) 42)
  have hX := (hX.below hb4 lX).alloc (.cells (i16s 64 F) 42)
  have hY := Blk.new w4 (i16s 64 F) 42
  have hbel := hbel.trans (hb4.mono hbel.size)
  have hbel := hbel.alloc hbel.size (.cells (i16s 64 F) 42)
  generalize w4.alloc (.cells (i16s 64 F) 42) = W4 at *
  generalize w4.heap.size = p9 at *
  clear hb4 lA lB lX hsG
  have lA := hA.lt
  have lB := hB.lt
  have lX := hX.lt
  have lY := hY.lt
  go_upto_region 8 with (first | (refine wpList_load_blk rfl rfl rfl row66 hB K.size ?_) | (go_at_call 24; refine (hiK _).mono ?_; rintro e w5 ⟨rfl, hb5⟩) | (refine wpList_alloc_as rfl rfl zero42 ?_) | (refine wpList_store_last rfl rfl rfl rfl rfl (by rw [i16s_size]; exact size42) (by rw [i16s_size, i16s_size]) (List.all_eq_true.2 (i16s_one _ _)) ?_))
  have hA := (hA.below hb5 lA).alloc (.cells (i16s 64 FK) 42)
  have hX := (hX.below hb5 lX).alloc (.cells (i16s 64 FK) 42)
  have hY := (hY.below hb5 lY).alloc (.cells (i16s 64 FK) 42)
  have hZ := Blk.new w5 (i16s 64 FK) 42
  have hbel := hbel.trans (hb5.mono hbel.size)
  have hbel := hbel.alloc hbel.size (.cells (i16s 64 FK) 42)
  generalize w5.alloc (.cells (i16s 64 FK) 42) = W5 at *
  generalize w5.heap.size = p11 at *
  clear hb5 lA lB lX lY hB hiK
  have hne := fun (w' : World) => run_neq_i16s (P := Try.prog) w' 42 41 64 ty42 Try.underlying41 sz16 F
  go_upto_region 10 with (first | (refine wpList_load_want rfl rfl rfl row42 hX (i16s_size _ _) ?_) | (refine wpList_load_want rfl rfl rfl row42 hY (i16s_size _ _) ?_))
  go_wp2_with fail
  go_loopw [13] (fun i wr => ∃ j : Nat, j ≤ 64 ∧ i = .int .i64 j ∧ Blk wr p5 G.cells 30 ∧ Blk wr p9 (i16s 64 F) 42 ∧ Blk wr p11 (i16s 64 FK) 42 ∧ Below w.heap.size w wr) (fun i _ => 64 - (intOf i).toNat)
  case atStart => exact ⟨0, by omega, rfl, hA, hY, hZ, hbel⟩
  case round =>
    clear hA hX hY hZ hbel hne
    obtain ⟨j, hj, rfl, hA, hY, hZ, hbel⟩ := hrel
    have lA := hA.lt
    have lY := hY.lt
    have lZ := hZ.lt
    by_cases hlt : j < 64
    · have bj : (0 : Int) ≤ j := by omega
      have bl : (j : Int) < 64 := by omega
      have his := fun w' => a2Is_any G j hG.ok hlt w'
      cases hc : isC G j
      · rw [hc] at his
        have hz := HFN.out j hc
        clear hc
        go_wp2_with (first | (refine wpList_load_blk rfl rfl rfl row66 hA G.size ?_) | (go_at_call 58; refine (his _).mono ?_; rintro e w1 ⟨rfl, hb1⟩; have c1 := ((hY.below hb1 lY).cell j).trans ((i16s_get 64 F j hlt).trans (by rw [hz]))))
        go_roundw
        case rel => exact ⟨j + 1, by omega, by go_num, hA.below hb1 lA, hY.below hb1 lY, hZ.below hb1 lZ, hbel.trans (hb1.mono hbel.size)⟩
        case measure => simp [intOf]; omega
      · rw [hc] at his
        obtain ⟨hn, hof⟩ := HOF.out j hlt hc
        obtain ⟨y, d, g1, g2, g3, g4⟩ := off_is hof
        have hFj := HFC.out j hc
        rw [← hFj] at g2
        have hwid := fun (w : World) => run_widen_num (P := Try.prog) 23 73 (G.hea j) Try.underlying23 Try.underlying73 hn w
        have hmul := fun (w : World) => run_float_arith (P := Try.prog) w .mul 73 .f64 _ _ _ g1
        have hsub := fun (w : World) => run_float_arith (P := Try.prog) w .sub 73 .f64 _ _ _ g2
        clear hc hFj hof hn g1 g2
        go_upto_region 16 with (first | (refine wpList_load_blk rfl rfl rfl row66 hA G.size ?_) | (go_at_call 58; refine (his _).mono ?_; rintro e w1 ⟨rfl, hb1⟩; have c1 := ((hY.below hb1 lY).cell j).trans (i16s_get 64 F j hlt); have c2 := (hA.below hb1 lA).gat.getH j hlt))
        go_quiet (fail)
        go_wp2_with fail
        go_roundw
        case rel => exact ⟨j + 1, by omega, by go_num, (hA.below hb1 lA).drewN _, (hY.below hb1 lY).drewN _, (hZ.below hb1 lZ).drewN _, below_drewN (hbel.trans (hb1.mono hbel.size)) _⟩
        case measure => simp [intOf]; omega
    · obtain rfl : j = 64 := by omega
      have hd1 := fun w' => implDrops_any F FK hF hFK w'
      have hd2 := fun w' => specDrops_any F FK hF hFK w'
      have b0 := bestOf_lt F FK 64 (by omega)
      have HB := Lib.hid (best_is F FK 64)
      unfold dropsOf at hd1 hd2
      generalize bestOf F FK 64 = B at *
      obtain ⟨x0, x1⟩ := hF B b0
      obtain ⟨y0, y1⟩ := hFK B b0
      have bB : (0 : Int) ≤ B := by omega
      have bC : (B : Int) < 64 := by omega
      have bD : (B : Int) ≤ 63 := by omega
      have bE : ((B : Int) != (B : Int)) = false := by simp
      have bE2 : (F B - FK B != F B - FK B) = false := by simp
      have bF : decide ((B : Int) < 0) = false := by simp
      have bG : decide ((B : Int) > 63) = false := by simp; omega
      have bG2 : decide (63 < B) = false := by simp; omega
      go_upto_region 21 with (first | (refine wpList_load_blk rfl rfl rfl row42 hY (i16s_size _ _) ?_) | (refine wpList_load_blk rfl rfl rfl row42 hZ (i16s_size _ _) ?_) | (go_at_call 59; refine (hd1 _).mono ?_; rintro e w1 ⟨rfl, hb1⟩; have hY := hY.below hb1 lY; have hZ := hZ.below hb1 lZ; have hbel := hbel.trans (hb1.mono hbel.size)) | (go_at_call 60; refine (hd2 _).mono ?_; rintro e w2 ⟨rfl, hb2⟩; have hY := hY.below hb2 hY.lt; have hZ := hZ.below hb2 hZ.lt; have hbel := hbel.trans (hb2.mono hbel.size)))
      have c1 := (hY.cell B).trans (i16s_get 64 F B b0)
      have c2 := (hZ.cell B).trans (i16s_get 64 FK B b0)
      clear hb1 hb2 hd1 hd2 lA lY lZ
      go_quiet (fail)
      go_wp2_with fail
      have hY := hY.drewN nq
      have hZ := hZ.drewN nq
      have hbel := below_drewN hbel nq
      generalize w2.drewN nq = W6 at *
      generalize hM : F B - FK B = M at *
      clear c1 c2 x0 x1 y0 y1 hA hj
      go_loopw [19] (fun i wr => ∃ j : Nat, j ≤ 64 ∧ i = .int .i64 j ∧ Blk wr p9 (i16s 64 F) 42 ∧ Blk wr p11 (i16s 64 FK) 42 ∧ Below w.heap.size w wr) (fun i _ => 64 - (intOf i).toNat)
      case atStart => exact ⟨0, by omega, rfl, hY, hZ, hbel⟩
      case round =>
        clear hY hZ hbel
        obtain ⟨j, hj, rfl, hY, hZ, hbel⟩ := hrel
        by_cases hlt : j < 64
        · have bj : (0 : Int) ≤ j := by omega
          have bl : (j : Int) < 64 := by omega
          obtain ⟨x0, x1⟩ := hF j hlt
          obtain ⟨y0, y1⟩ := hFK j hlt
          obtain ⟨z0, z1⟩ := HB.out j hlt
          have c1 := (hY.cell j).trans (i16s_get 64 F j hlt)
          have c2 := (hZ.cell j).trans (i16s_get 64 FK j hlt)
          have t1 : decide (F j - FK j > M) = false := by simp; omega
          by_cases hjB : j < B
          · have t2 : decide ((j : Int) < (B : Int)) = true := by simp; omega
            have t2' : decide (j < B) = true := by simp; omega
            have t3 : ((F j - FK j) == M) = false := by have := z1 hjB; simp; omega
            clear z0 z1 hM
            go_upto_region 26 with fail
            go_quiet (fail)
            go_wp2_with fail
            go_roundw
            case rel => exact ⟨j + 1, by omega, by go_num, hY.drewN _, hZ.drewN _, below_drewN hbel _⟩
            case measure => simp [intOf]; omega
          · have t2 : decide ((j : Int) < (B : Int)) = false := by simp; omega
            have t2' : decide (j < B) = false := by simp; omega
            clear z0 z1 hM
            go_upto_region 26 with fail
            go_quiet (fail)
            go_wp2_with fail
            go_roundw
            case rel => exact ⟨j + 1, by omega, by go_num, hY.drewN _, hZ.drewN _, below_drewN hbel _⟩
            case measure => simp [intOf]; omega
        · obtain rfl : j = 64 := by omega
          go_wp2_with fail
          go_ret
          exact ⟨rfl, hbel⟩
end Go.Proofs.Ytnfoemgiebplmaa
