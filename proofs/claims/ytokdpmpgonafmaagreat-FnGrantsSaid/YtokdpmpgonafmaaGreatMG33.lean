import Derived.Test.YtokdpmpgonafmaaGreatMG32
/- MostWater, in the reference (printed by watgen.py). -/
namespace Go.Proofs.YtokdpmpgonafmaaGreat
open Go.ChangeShapes Go.WideShapes Go.ChangeAt Go.RowKit
set_option linter.unusedVariables false
set_option linter.unusedSimpArgs false
attribute [local irreducible] Calls
theorem over_wat {m : Nat} {Q : Nat → Pm} {x y : Nat} : over (watGt m Q) m x y = (decide (sumOf Q (picks y m) < sumOf Q (picks x m)) || (decide (sumOf Q (picks x m) = sumOf Q (picks y m)) && (decide ((picks x m).length < (picks y m).length) || (decide ((picks x m).length = (picks y m).length) && decide (cmpL (picks x m) (picks y m) < 0))))) := by
  unfold over watGt
  generalize sumOf Q (picks x m) = a
  generalize sumOf Q (picks y m) = b
  generalize decide (cmpL (picks x m) (picks y m) < 0) = c
  generalize (picks x m).length = p
  generalize (picks y m).length = q
  by_cases h1 : b < a
  · simp [h1]
  · by_cases h2 : a = b
    · subst h2
      by_cases h3 : p < q
      · simp [h3]
      · by_cases h4 : p = q
        · subst h4; simp
        · have h5 : q < p := by omega
          simp [h3, h4, h5]
    · have h3 : a < b := by omega
      have h4 : ¬ b < a := by omega
      have h5 : ¬ a = b := h2
      simp [h3, h4, h5]
set_option maxRecDepth 100000 in
set_option maxHeartbeats 2000000 in
theorem specMostWater_any (g : Gr) (v u : Value) (n m : Nat) (P : Nat → Wt) (Q : Nat → Pm) (hg : g.ok) (hP : ∀ i, i < n → (P i).ok) (hQ : ∀ i, i < m → (Q i).ok) (w : World) (hv : WSl w v n P) (hu : PSl w u m Q) :
    Calls Tryz.prog 19 #[.agg (ofc g v), u] w fun e w' => ∃ x r, e = .returned (.tuple #[x, .int .i64 (bsT (watGt m Q) g n P m Q).2.1, .int .i64 (bsT (watGt m Q) g n P m Q).2.2]) ∧ w.heap.size ≤ r ∧ Rs 2 w' r x (bsT (watGt m Q) g n P m Q).1.length (ils (bsT (watGt m Q) g n P m Q).1) ∧ Below w.heap.size w w' := by
  obtain ⟨T1, hT1⟩ : ∃ T1, T1 = (bsT (watGt m Q) g n P m Q).1 := ⟨_, rfl⟩
  obtain ⟨T2, hT2⟩ : ∃ T2, T2 = (bsT (watGt m Q) g n P m Q).2.1 := ⟨_, rfl⟩
  obtain ⟨T3, hT3⟩ : ∃ T3, T3 = (bsT (watGt m Q) g n P m Q).2.2 := ⟨_, rfl⟩
  rw [← hT1, ← hT2, ← hT3]
  unfold bsT at hT1 hT2 hT3
  obtain ⟨a, c, rfl, hform⟩ := id hu
  clear hform
  go_enter Tryz.func19, Tryz.ntmps19
  go_upto_region 1 with (refine wpList_box_as rfl rfl rfl ?_)
  have hA := Blk.new w (ofc g v) 42
  have hbel := below1 w (.cells (ofc g v) 42)
  generalize w.alloc (.cells (ofc g v) 42) = W at *
  have lA := hA.lt
  have hu := hu.below hbel
  have hv := hv.below hbel
  have hvp := l07Fits_any g v _ n m P Q w.heap.size _ hg hP hQ W hA hv hu
  cases hvd : validP g n P m Q <;> rw [hvd] at hvp hT1 hT2 hT3
  · have HF := Lib.hid (And.intro hT1 (And.intro hT2 hT3))
    clear hT1 hT2 hT3 hvd
    go_wp2_with (go_at_call 33; refine hvp.mono ?_; rintro e w2 ⟨rfl, hb2⟩)
    go_ret3
    obtain ⟨z1, z2, z3⟩ := HF.out
    subst z1; subst z2; subst z3
    have hbel2 := hbel.trans (hb2.mono hbel.size)
    exact ⟨_, w.heap.size, rfl, Nat.le_refl _, .inl ⟨rfl, _, _, rfl, by decide⟩, hbel2.alloc hbel2.size _⟩
  · obtain ⟨hvg, hvo, hci, hm6, _⟩ := validP_use hvd
    have hch := fun w' h1 h2 h3 => l07Choices_any g w.heap.size v (.slice a m c) n m P Q hg hvg hci hQ (validO_watch hvo) hm6 w' h1 h2 h3
    have HF := Lib.hid (And.intro hT1 (And.intro hT2 hT3))
    clear hT1 hT2 hT3 hvd
    go_upto_region 4 with (first | (go_at_call 33; refine hvp.mono ?_; rintro e w2 ⟨rfl, hb2⟩) | (go_at_call 34; refine (hch w2 (hA.below hb2 lA) (hv.below hb2) (hu.below hb2)).mono ?_; rintro e w5 ⟨go, cap, E, rfl, hgw, hE64, hown, hlies, hmap, hb5⟩))
    have hs2 := hb2.size
    have hbel5 := (hbel.trans (hb2.mono hbel.size)).trans (hb5.mono (hbel.trans (hb2.mono hbel.size)).size)
    have hlen : E.length = (keptTo (grK g n P Q) m (2 ^ m)).length := by rw [← hmap]; simp
    clear hch hvp hu hv hb5 hb2 hA
    by_cases h0 : E.length = 0
    · obtain ⟨z1, z2, z3⟩ := HF.out
      rw [if_pos trivial, if_pos (by omega)] at z1 z2 z3
      clear HF hlen hlies hown hmap
      have b0 : (E.length : Int) = 0 := by omega
      go_wp2_with fail
      go_ret3
      subst z1; subst z2; subst z3
      exact ⟨_, rfl, w.heap.size, Nat.le_refl _, .inl ⟨rfl, _, _, rfl, by decide⟩, hbel5.alloc hbel5.size _⟩
    · obtain ⟨z1, z2, z3⟩ := HF.out
      rw [if_pos trivial, if_neg (by omega), ← hlen, ← hmap] at z1 z2 z3
      have HZ := Lib.hid (And.intro z1 (And.intro z2 z3))
      have lgo := hown.lt
      have HCL : Hid (∀ (i : Nat) (r : RecV), E[i]? = some r → w5.cell? ⟨go, i * 2, none⟩ = some r.1 ∧ w5.cell? ⟨go, i * 2 + 1, none⟩ = some (.int .i64 (sumOf Q (picks r.2 m)))) := Lib.hid fun i r hr => by
        have hlt : i < E.length := by
          rcases Nat.lt_or_ge i E.length with h | h
          · exact h
          · rw [List.getElem?_eq_none h] at hr; cases hr
        rw [hown.cell (i * 2) (by omega), hown.cell (i * 2 + 1) (by omega)]; exact cellsV_get m Q E i r hr
      have HL : Hid (∀ r, r ∈ E → VLc w5 w.heap.size r.1 (picks r.2 m)) := Lib.hid fun r hr => VLc.mono (hlies r hr) (by have := hbel.size; omega)
      clear HF hlen hlies hown hmap z1 z2 z3
      obtain ⟨x0, hx0⟩ : ∃ x, E[0]? = some x := ⟨_, List.getElem?_eq_getElem (by omega)⟩
      have HX0 := Lib.hid hx0
      obtain ⟨e0, e1⟩ := HCL.out 0 x0 hx0
      have hm0 := List.mem_of_getElem? hx0
      obtain ⟨ax0, cx0, hx0f⟩ := (HL.out x0 hm0).form
      rw [hx0f] at e0
      clear hx0
      have hpos : (0 : Int) < E.length := by omega
      have hne0 : ((E.length : Int) == 0) = false := by rw [beq_eq_false_iff_ne]; omega
      simp only [Nat.zero_mul, Nat.zero_add] at e0 e1
      go_upto_region 7 with fail
      have hbz := below1 w5 (.cells #[.slice ax0 (picks x0.2 m).length cx0, .int .i64 (sumOf Q (picks x0.2 m))] 75)
      have hO := Blk.new w5 #[.slice ax0 (picks x0.2 m).length cx0, .int .i64 (sumOf Q (picks x0.2 m))] 75
      generalize w5.alloc (.cells #[.slice ax0 (picks x0.2 m).length cx0, .int .i64 (sumOf Q (picks x0.2 m))] 75) = W6 at *
      rw [← hx0f] at hO
      have lz := hbel5.size
      obtain ⟨z, hz⟩ : ∃ z, z = w5.heap.size := ⟨_, rfl⟩
      rw [← hz] at hO hbz lz lgo ⊢
      have hz1 : z ≤ w5.heap.size := by omega
      have hz2 : w5.heap.size ≤ z := by omega
      clear hz
      go_upto_region 8 with fail
      go_loopw [9] (fun i wr => ∃ (k : Nat) (r : RecV), 1 ≤ k ∧ k ≤ E.length ∧ i = .int .i64 k ∧ r ∈ E ∧ Hid (r.2 = bestTo (over (watGt m Q) m) (E.map Prod.snd) k) ∧ Blk wr z #[r.1, .int .i64 (sumOf Q (picks r.2 m))] 75 ∧ Below z w5 wr) (fun i _ => E.length - (intOf i).toNat)
      case atStart => exact ⟨1, x0, by omega, by omega, rfl, hm0, Lib.hid (by rw [best_one]; simp [List.getD_eq_getElem?_getD, HX0.out]), hO, hbz⟩
      case round =>
        clear hO hbz
        obtain ⟨k, r, hk1, hk, rfl, hr, hbk, hO, hbz⟩ := hrel
        have hrv := HL.out r hr
        obtain ⟨ar, cr, hrf⟩ := hrv.form
        rw [hrf] at hO
        by_cases hlt : k < E.length
        · obtain ⟨x, hx⟩ : ∃ x, E[k]? = some x := ⟨_, List.getElem?_eq_getElem hlt⟩
          have hmx := List.mem_of_getElem? hx
          have hxv := HL.out x hmx
          obtain ⟨ax, cx, hxf⟩ := hxv.form
          obtain ⟨e0, e1⟩ := HCL.out k x hx
          rw [hxf] at e0
          have e0 : wr.cell? ⟨go, k * 2, none⟩ = some (.slice ax (picks x.2 m).length cx) := (hbz.cell (p := ⟨go, _, none⟩) lgo).trans e0
          have e1 : wr.cell? ⟨go, k * 2 + 1, none⟩ = some (.int .i64 (sumOf Q (picks x.2 m))) := (hbz.cell (p := ⟨go, _, none⟩) lgo).trans e1
          have HST := Lib.hid (best_stepV hx hbk.out)
          clear hx
          have hpk : (0 : Int) ≤ k := by omega
          go_upto_region 11 with fail
          have hzr : w5.heap.size ≤ wr.heap.size := hbz.size
          have hO := hO.alloc (.cells #[.slice ax (picks x.2 m).length cx, .int .i64 (sumOf Q (picks x.2 m))] 75)
          have hN := Blk.new wr #[.slice ax (picks x.2 m).length cx, .int .i64 (sumOf Q (picks x.2 m))] 75
          have hbz := hbz.alloc (by omega) (.cells #[.slice ax (picks x.2 m).length cx, .int .i64 (sumOf Q (picks x.2 m))] 75)
          generalize wr.alloc (.cells #[.slice ax (picks x.2 m).length cx, .int .i64 (sumOf Q (picks x.2 m))] 75) = W7 at *
          clear e0 e1
          have n0 : W7.cell? ⟨wr.heap.size, 0, none⟩ = some (.slice ax (picks x.2 m).length cx) := hN.cell 0
          have n1 : W7.cell? ⟨wr.heap.size, 1, none⟩ = some (.int .i64 (sumOf Q (picks x.2 m))) := hN.cell 1
          have o0 : W7.cell? ⟨z, 0, none⟩ = some (.slice ar (picks r.2 m).length cr) := hO.cell 0
          have o1 : W7.cell? ⟨z, 1, none⟩ = some (.int .i64 (sumOf Q (picks r.2 m))) := hO.cell 1
          have HO := Lib.hid (@over_wat m Q x.2 r.2)
          have HXF := Lib.hid (And.intro hxf hrf)
          have hx7 := VLB.vl (VLc.below hxv hbz hz2)
          have hr7 := VLB.vl (VLc.below hrv hbz hz2)
          rw [hxf] at hx7
          rw [hrf] at hr7
          have hfi := fun h3 => l07First_any (picks x.2 m) (picks r.2 m) _ _ h3 (by have := picks_length x.2 m; omega) W7 hx7 hr7
          clear hxf hrf hx7 hr7
          have HRX := Lib.hid (And.intro hr hmx)
          generalize hsx : sumOf Q (picks x.2 m) = sx at *
          generalize hsr : sumOf Q (picks r.2 m) = sr at *
          have HS := Lib.hid (And.intro hsx hsr)
          clear hsx hsr hr hmx hxv hrv
          by_cases h1 : (picks x.2 m).length < (picks r.2 m).length
          · have HF : Hid ((decide ((picks x.2 m).length < (picks r.2 m).length) || (decide ((picks x.2 m).length = (picks r.2 m).length) && decide (cmpL (picks x.2 m) (picks r.2 m) < 0))) = true) := Lib.hid (by simp [h1])
            have i1 : ((picks x.2 m).length : Int) < (picks r.2 m).length := by omega
            clear hfi
            go_upto_region 12 with fail
            clear n0 o0
            by_cases c1 : sr < sx
            · have d1 : decide (sr < sx) = true := decide_eq_true c1
              have HB : Hid (x.2 = bestTo (over (watGt m Q) m) (E.map Prod.snd) (k + 1)) := Lib.hid (by rw [← HST.out, HO.out, HF.out]; simp [d1])
              clear HST HO HF
              go_upto_region 13 with fail
              go_wp2_with (first | (refine wpList_load_blk rfl rfl rfl rowSCh hN rfl ?_) | (refine wpList_store_blk (C' := #[.slice ax (picks x.2 m).length cx, .int .i64 sx]) rfl rfl rfl rfl rowSCh hO rfl rfl (by intro q hq; simp at hq; rcases hq with rfl | rfl <;> rfl) ?_))
              go_roundw
              case rel => exact ⟨k + 1, x, by omega, by omega, by go_num, HRX.out.2, HB, by rw [HXF.out.1, HS.out.1]; exact hO.setRow _, hbz.grown (row_grown _ _ _) (by have := hbz.size; omega) (fun k e => by injection e; omega)⟩
              case measure => simp [intOf]; omega
            · have d1 : decide (sr < sx) = false := decide_eq_false c1
              by_cases c2 : sx = sr
              · have d2 : (sx == sr) = true := by rw [beq_iff_eq]; exact c2
                subst c2
                have HB : Hid (x.2 = bestTo (over (watGt m Q) m) (E.map Prod.snd) (k + 1)) := Lib.hid (by rw [← HST.out, HO.out, HF.out]; simp [d1])
                clear HST HO HF
                go_upto_region 13 with fail
                go_wp2_with (first | (refine wpList_load_blk rfl rfl rfl rowSCh hN rfl ?_) | (refine wpList_store_blk (C' := #[.slice ax (picks x.2 m).length cx, .int .i64 sx]) rfl rfl rfl rfl rowSCh hO rfl rfl (by intro q hq; simp at hq; rcases hq with rfl | rfl <;> rfl) ?_))
                go_roundw
                case rel => exact ⟨k + 1, x, by omega, by omega, by go_num, HRX.out.2, HB, by rw [HXF.out.1, HS.out.1]; exact hO.setRow _, hbz.grown (row_grown _ _ _) (by have := hbz.size; omega) (fun k e => by injection e; omega)⟩
                case measure => simp [intOf]; omega
              · have d2 : (sx == sr) = false := by rw [beq_eq_false_iff_ne]; exact c2
                have HB : Hid (r.2 = bestTo (over (watGt m Q) m) (E.map Prod.snd) (k + 1)) := Lib.hid (by rw [← HST.out, HO.out, HF.out]; simp [d1, c2])
                clear HST HO HF
                go_wp2_with fail
                go_roundw
                case rel => exact ⟨k + 1, r, by omega, by omega, by go_num, HRX.out.1, HB, by rw [HXF.out.2, HS.out.2]; exact hO, hbz⟩
                case measure => simp [intOf]; omega
          · by_cases h2 : (picks x.2 m).length = (picks r.2 m).length
            · have hfi := hfi h2
              by_cases hc : cmpL (picks x.2 m) (picks r.2 m) < 0
              · have HF : Hid ((decide ((picks x.2 m).length < (picks r.2 m).length) || (decide ((picks x.2 m).length = (picks r.2 m).length) && decide (cmpL (picks x.2 m) (picks r.2 m) < 0))) = true) := Lib.hid (by simp [h1, h2, hc])
                rw [decide_eq_true hc] at hfi
                have h2i : ((picks x.2 m).length : Int) = (picks r.2 m).length := by omega
                rw [← h2] at hfi o0
                have H2 := Lib.hid h2
                clear hc h1 h2 h2i
                go_upto_region 12 with (go_at_call 35; refine hfi.mono ?_; rintro e w' ⟨rfl, q2, rfl⟩)
                have n1 : (W7.drewN q2).cell? ⟨wr.heap.size, 1, none⟩ = some (.int .i64 sx) := n1
                have o1 : (W7.drewN q2).cell? ⟨z, 1, none⟩ = some (.int .i64 sr) := o1
                have hN := hN.drewN q2
                have hO := hO.drewN q2
                have hbz := below_drewN hbz q2
                clear n0 o0
                generalize W7.drewN q2 = W8 at *
                by_cases c1 : sr < sx
                · have d1 : decide (sr < sx) = true := decide_eq_true c1
                  have HB : Hid (x.2 = bestTo (over (watGt m Q) m) (E.map Prod.snd) (k + 1)) := Lib.hid (by rw [← HST.out, HO.out, HF.out]; simp [d1])
                  clear HST HO HF
                  go_upto_region 13 with fail
                  go_wp2_with (first | (refine wpList_load_blk rfl rfl rfl rowSCh hN rfl ?_) | (refine wpList_store_blk (C' := #[.slice ax (picks x.2 m).length cx, .int .i64 sx]) rfl rfl rfl rfl rowSCh hO rfl rfl (by intro q hq; simp at hq; rcases hq with rfl | rfl <;> rfl) ?_))
                  go_roundw
                  case rel => exact ⟨k + 1, x, by omega, by omega, by go_num, HRX.out.2, HB, by rw [HXF.out.1, HS.out.1]; exact hO.setRow _, hbz.grown (row_grown _ _ _) (by have := hbz.size; omega) (fun k e => by injection e; omega)⟩
                  case measure => simp [intOf]; omega
                · have d1 : decide (sr < sx) = false := decide_eq_false c1
                  by_cases c2 : sx = sr
                  · have d2 : (sx == sr) = true := by rw [beq_iff_eq]; exact c2
                    subst c2
                    have HB : Hid (x.2 = bestTo (over (watGt m Q) m) (E.map Prod.snd) (k + 1)) := Lib.hid (by rw [← HST.out, HO.out, HF.out]; simp [d1])
                    clear HST HO HF
                    go_upto_region 13 with fail
                    go_wp2_with (first | (refine wpList_load_blk rfl rfl rfl rowSCh hN rfl ?_) | (refine wpList_store_blk (C' := #[.slice ax (picks x.2 m).length cx, .int .i64 sx]) rfl rfl rfl rfl rowSCh hO rfl rfl (by intro q hq; simp at hq; rcases hq with rfl | rfl <;> rfl) ?_))
                    go_roundw
                    case rel => exact ⟨k + 1, x, by omega, by omega, by go_num, HRX.out.2, HB, by rw [HXF.out.1, HS.out.1]; exact hO.setRow _, hbz.grown (row_grown _ _ _) (by have := hbz.size; omega) (fun k e => by injection e; omega)⟩
                    case measure => simp [intOf]; omega
                  · have d2 : (sx == sr) = false := by rw [beq_eq_false_iff_ne]; exact c2
                    have HB : Hid (r.2 = bestTo (over (watGt m Q) m) (E.map Prod.snd) (k + 1)) := Lib.hid (by rw [← HST.out, HO.out, HF.out]; simp [d1, c2])
                    clear HST HO HF
                    go_wp2_with fail
                    go_roundw
                    case rel => exact ⟨k + 1, r, by omega, by omega, by go_num, HRX.out.1, HB, by rw [HXF.out.2, HS.out.2]; exact hO, hbz⟩
                    case measure => simp [intOf]; omega
              · have HF : Hid ((decide ((picks x.2 m).length < (picks r.2 m).length) || (decide ((picks x.2 m).length = (picks r.2 m).length) && decide (cmpL (picks x.2 m) (picks r.2 m) < 0))) = false) := Lib.hid (by simp [h1, h2, hc])
                rw [decide_eq_false hc] at hfi
                have h2i : ((picks x.2 m).length : Int) = (picks r.2 m).length := by omega
                rw [← h2] at hfi o0
                have H2 := Lib.hid h2
                clear hc h1 h2 h2i
                go_upto_region 12 with (go_at_call 35; refine hfi.mono ?_; rintro e w' ⟨rfl, q2, rfl⟩)
                have n1 : (W7.drewN q2).cell? ⟨wr.heap.size, 1, none⟩ = some (.int .i64 sx) := n1
                have o1 : (W7.drewN q2).cell? ⟨z, 1, none⟩ = some (.int .i64 sr) := o1
                have hN := hN.drewN q2
                have hO := hO.drewN q2
                have hbz := below_drewN hbz q2
                clear n0 o0
                generalize W7.drewN q2 = W8 at *
                by_cases c1 : sr < sx
                · have d1 : decide (sr < sx) = true := decide_eq_true c1
                  have HB : Hid (x.2 = bestTo (over (watGt m Q) m) (E.map Prod.snd) (k + 1)) := Lib.hid (by rw [← HST.out, HO.out, HF.out]; simp [d1])
                  clear HST HO HF
                  go_upto_region 13 with fail
                  go_wp2_with (first | (refine wpList_load_blk rfl rfl rfl rowSCh hN rfl ?_) | (refine wpList_store_blk (C' := #[.slice ax (picks x.2 m).length cx, .int .i64 sx]) rfl rfl rfl rfl rowSCh hO rfl rfl (by intro q hq; simp at hq; rcases hq with rfl | rfl <;> rfl) ?_))
                  go_roundw
                  case rel => exact ⟨k + 1, x, by omega, by omega, by go_num, HRX.out.2, HB, by rw [HXF.out.1, HS.out.1]; exact hO.setRow _, hbz.grown (row_grown _ _ _) (by have := hbz.size; omega) (fun k e => by injection e; omega)⟩
                  case measure => simp [intOf]; omega
                · have d1 : decide (sr < sx) = false := decide_eq_false c1
                  by_cases c2 : sx = sr
                  · have d2 : (sx == sr) = true := by rw [beq_iff_eq]; exact c2
                    subst c2
                    have HB : Hid (r.2 = bestTo (over (watGt m Q) m) (E.map Prod.snd) (k + 1)) := Lib.hid (by rw [← HST.out, HO.out, HF.out]; simp [d1])
                    clear HST HO HF
                    go_wp2_with fail
                    go_roundw
                    case rel => exact ⟨k + 1, r, by omega, by omega, by go_num, HRX.out.1, HB, by rw [HXF.out.2, HS.out.2]; exact hO, hbz⟩
                    case measure => simp [intOf]; omega
                  · have d2 : (sx == sr) = false := by rw [beq_eq_false_iff_ne]; exact c2
                    have HB : Hid (r.2 = bestTo (over (watGt m Q) m) (E.map Prod.snd) (k + 1)) := Lib.hid (by rw [← HST.out, HO.out, HF.out]; simp [d1, c2])
                    clear HST HO HF
                    go_wp2_with fail
                    go_roundw
                    case rel => exact ⟨k + 1, r, by omega, by omega, by go_num, HRX.out.1, HB, by rw [HXF.out.2, HS.out.2]; exact hO, hbz⟩
                    case measure => simp [intOf]; omega
            · have HF : Hid ((decide ((picks x.2 m).length < (picks r.2 m).length) || (decide ((picks x.2 m).length = (picks r.2 m).length) && decide (cmpL (picks x.2 m) (picks r.2 m) < 0))) = false) := Lib.hid (by simp [h1, h2])
              have i1 : ((picks r.2 m).length : Int) < (picks x.2 m).length := by omega
              have i2 : (((picks x.2 m).length : Int) == (picks r.2 m).length) = false := by rw [beq_eq_false_iff_ne]; omega
              clear hfi
              go_upto_region 12 with fail
              clear n0 o0
              by_cases c1 : sr < sx
              · have d1 : decide (sr < sx) = true := decide_eq_true c1
                have HB : Hid (x.2 = bestTo (over (watGt m Q) m) (E.map Prod.snd) (k + 1)) := Lib.hid (by rw [← HST.out, HO.out, HF.out]; simp [d1])
                clear HST HO HF
                go_upto_region 13 with fail
                go_wp2_with (first | (refine wpList_load_blk rfl rfl rfl rowSCh hN rfl ?_) | (refine wpList_store_blk (C' := #[.slice ax (picks x.2 m).length cx, .int .i64 sx]) rfl rfl rfl rfl rowSCh hO rfl rfl (by intro q hq; simp at hq; rcases hq with rfl | rfl <;> rfl) ?_))
                go_roundw
                case rel => exact ⟨k + 1, x, by omega, by omega, by go_num, HRX.out.2, HB, by rw [HXF.out.1, HS.out.1]; exact hO.setRow _, hbz.grown (row_grown _ _ _) (by have := hbz.size; omega) (fun k e => by injection e; omega)⟩
                case measure => simp [intOf]; omega
              · have d1 : decide (sr < sx) = false := decide_eq_false c1
                by_cases c2 : sx = sr
                · have d2 : (sx == sr) = true := by rw [beq_iff_eq]; exact c2
                  subst c2
                  have HB : Hid (r.2 = bestTo (over (watGt m Q) m) (E.map Prod.snd) (k + 1)) := Lib.hid (by rw [← HST.out, HO.out, HF.out]; simp [d1])
                  clear HST HO HF
                  go_wp2_with fail
                  go_roundw
                  case rel => exact ⟨k + 1, r, by omega, by omega, by go_num, HRX.out.1, HB, by rw [HXF.out.2, HS.out.2]; exact hO, hbz⟩
                  case measure => simp [intOf]; omega
                · have d2 : (sx == sr) = false := by rw [beq_eq_false_iff_ne]; exact c2
                  have HB : Hid (r.2 = bestTo (over (watGt m Q) m) (E.map Prod.snd) (k + 1)) := Lib.hid (by rw [← HST.out, HO.out, HF.out]; simp [d1, c2])
                  clear HST HO HF
                  go_wp2_with fail
                  go_roundw
                  case rel => exact ⟨k + 1, r, by omega, by omega, by go_num, HRX.out.1, HB, by rw [HXF.out.2, HS.out.2]; exact hO, hbz⟩
                  case measure => simp [intOf]; omega
        · obtain rfl : k = E.length := by omega
          have o0 : wr.cell? ⟨z, 0, none⟩ = some (.slice ar (picks r.2 m).length cr) := hO.cell 0
          have o1 : wr.cell? ⟨z, 1, none⟩ = some (.int .i64 (sumOf Q (picks r.2 m))) := hO.cell 1
          go_upto_region 14 with fail
          go_quiet (fail)
          go_wp2_with fail
          go_ret3
          obtain ⟨z1, z2, z3⟩ := HZ.out
          rw [← hbk.out] at z1 z2
          subst z1; subst z2; subst z3
          rw [hrf] at hrv
          have hbe := hbel5.trans (hbz.mono lz)
          obtain ⟨r', h1, h2⟩ := (VLc.below hrv hbz hz2).rs
          exact ⟨_, r', rfl, h1, h2.below (below_drewN (Below.refl _ _) nq), below_drewN hbe nq⟩
end Go.Proofs.YtokdpmpgonafmaaGreat
/- FewestRefused and MostWater as the laws over them speak of them. -/
namespace Go.Proofs.YtokdpmpgonafmaaGreat
open Go.ChangeShapes Go.WideShapes Go.ChangeAt Go.RowKit
set_option linter.unusedVariables false
set_option linter.unusedSimpArgs false
attribute [local irreducible] Calls
def fwL (g : Gr) (n : Nat) (P : Nat → Wt) (m : Nat) (Q : Nat → Pm) : List Nat := (bsT (fewGt m) g n P m Q).1
def fwN (g : Gr) (n : Nat) (P : Nat → Wt) (m : Nat) (Q : Nat → Pm) : Nat := (fwL g n P m Q).length
def fwT (g : Gr) (n : Nat) (P : Nat → Wt) (m : Nat) (Q : Nat → Pm) : Unit × Int := ((), (bsT (fewGt m) g n P m Q).2.2)
theorem fwN_eq (g : Gr) (n : Nat) (P : Nat → Wt) (m : Nat) (Q : Nat → Pm) : (fwL g n P m Q).length = fwN g n P m Q := rfl
def mwL (g : Gr) (n : Nat) (P : Nat → Wt) (m : Nat) (Q : Nat → Pm) : List Nat := (bsT (watGt m Q) g n P m Q).1
def mwN (g : Gr) (n : Nat) (P : Nat → Wt) (m : Nat) (Q : Nat → Pm) : Nat := (mwL g n P m Q).length
def mwS (g : Gr) (n : Nat) (P : Nat → Wt) (m : Nat) (Q : Nat → Pm) : Int := (bsT (watGt m Q) g n P m Q).2.1
def mwT (g : Gr) (n : Nat) (P : Nat → Wt) (m : Nat) (Q : Nat → Pm) : Unit × Int := ((), (bsT (watGt m Q) g n P m Q).2.2)
theorem mwN_eq (g : Gr) (n : Nat) (P : Nat → Wt) (m : Nat) (Q : Nat → Pm) : (mwL g n P m Q).length = mwN g n P m Q := rfl
theorem bsT_le {gt : Nat → Nat → Bool} {g : Gr} {n m : Nat} {P : Nat → Wt} {Q : Nat → Pm} : (bsT gt g n P m Q).1.length ≤ 1048576 := by
  unfold bsT
  cases hv : validP g n P m Q
  · simp
  · have hm := (validP_use hv).2.2.2.1
    simp only [if_true]
    split
    · simp
    · exact Nat.le_trans (picks_length _ _) (by omega)
theorem fwN_le {g : Gr} {n m : Nat} {P : Nat → Wt} {Q : Nat → Pm} : fwN g n P m Q ≤ 1048576 := bsT_le
theorem mwN_le {g : Gr} {n m : Nat} {P : Nat → Wt} {Q : Nat → Pm} : mwN g n P m Q ≤ 1048576 := bsT_le
theorem fewB (g : Gr) (v u : Value) (n m : Nat) (P : Nat → Wt) (Q : Nat → Pm) (hg : g.ok) (hP : ∀ i, i < n → (P i).ok) (hQ : ∀ i, i < m → (Q i).ok) (w : World) (hv : WSl w v n P) (hu : PSl w u m Q) :
    Calls Tryz.prog 11 #[.agg (ofc g v), u] w fun e w' => ∃ x r, e = .returned (.tuple #[x, .int .i64 (fwT g n P m Q).2]) ∧ w.heap.size ≤ r ∧ Rs 2 w' r x (fwN g n P m Q) (ils (fwL g n P m Q)) ∧ Below w.heap.size w w' := fewestRefused_any g v u n m P Q hg hP hQ w hv hu
theorem specFewB (g : Gr) (v u : Value) (n m : Nat) (P : Nat → Wt) (Q : Nat → Pm) (hg : g.ok) (hP : ∀ i, i < n → (P i).ok) (hQ : ∀ i, i < m → (Q i).ok) (w : World) (hv : WSl w v n P) (hu : PSl w u m Q) :
    Calls Tryz.prog 8 #[.agg (ofc g v), u] w fun e w' => ∃ x r, e = .returned (.tuple #[x, .int .i64 (fwT g n P m Q).2]) ∧ w.heap.size ≤ r ∧ Rs 2 w' r x (fwN g n P m Q) (ils (fwL g n P m Q)) ∧ Below w.heap.size w w' := specFewestRefused_any g v u n m P Q hg hP hQ w hv hu
theorem watB (g : Gr) (v u : Value) (n m : Nat) (P : Nat → Wt) (Q : Nat → Pm) (hg : g.ok) (hP : ∀ i, i < n → (P i).ok) (hQ : ∀ i, i < m → (Q i).ok) (w : World) (hv : WSl w v n P) (hu : PSl w u m Q) :
    Calls Tryz.prog 20 #[.agg (ofc g v), u] w fun e w' => ∃ x r, e = .returned (.tuple #[x, .int .i64 (mwS g n P m Q), .int .i64 (mwT g n P m Q).2]) ∧ w.heap.size ≤ r ∧ Rs 2 w' r x (mwN g n P m Q) (ils (mwL g n P m Q)) ∧ Below w.heap.size w w' := mostWater_any g v u n m P Q hg hP hQ w hv hu
theorem specWatB (g : Gr) (v u : Value) (n m : Nat) (P : Nat → Wt) (Q : Nat → Pm) (hg : g.ok) (hP : ∀ i, i < n → (P i).ok) (hQ : ∀ i, i < m → (Q i).ok) (w : World) (hv : WSl w v n P) (hu : PSl w u m Q) :
    Calls Tryz.prog 19 #[.agg (ofc g v), u] w fun e w' => ∃ x r, e = .returned (.tuple #[x, .int .i64 (mwS g n P m Q), .int .i64 (mwT g n P m Q).2]) ∧ w.heap.size ≤ r ∧ Rs 2 w' r x (mwN g n P m Q) (ils (mwL g n P m Q)) ∧ Below w.heap.size w w' := specMostWater_any g v u n m P Q hg hP hQ w hv hu
end Go.Proofs.YtokdpmpgonafmaaGreat
