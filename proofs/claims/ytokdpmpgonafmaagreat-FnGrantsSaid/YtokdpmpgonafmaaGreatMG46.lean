import Derived.Test.YtokdpmpgonafmaaGreatMG45
import Derived.Deep.CutRange
/- The law over grants (FnGrants): the walk through the law's own function. -/
namespace Go.Proofs.YtokdpmpgonafmaaGreat
open Go.ChangeShapes Go.WideShapes Go.ChangeAt Go.RowKit
set_option linter.unusedVariables false
set_option linter.unusedSimpArgs false
attribute [local irreducible] Calls
theorem Rs.isl {w : World} {r : Nat} {v : Value} {n : Nat} {L : List Nat} (h : Rs 2 w r v n (ils L)) (hn : L.length = n) : ISl w v n (fun i => (L.getD i 0 : Nat)) := by
  rcases h with ⟨h0, a, cap, rfl, hc⟩ | h
  · subst h0; exact ⟨a, cap, rfl, Nat.zero_le _, hc, .inl rfl⟩
  · exact h.isl fun i hi => ils_at L i (by omega)
/-- What lies in memory all along: the office at block b, its watches, the permits at block r. -/
def StG (w0 : World) (b : Nat) (G : Gr) (u : Value) (n : Nat) (P : Nat → Wt) (r : Nat) (x : Value) (m : Nat) (Q : Nat → Pm) (w : World) : Prop := Blk w b (ofc G u) 42 ∧ WSl w u n P ∧ Own w r 64 3 x m (pls m Q) ∧ Below w0.heap.size w0 w
theorem StG.below {w0 : World} {b : Nat} {G : Gr} {u : Value} {n : Nat} {P : Nat → Wt} {r : Nat} {x : Value} {m : Nat} {Q : Nat → Pm} {w w' : World} (h : StG w0 b G u n P r x m Q w) (hb : Below w.heap.size w w') : StG w0 b G u n P r x m Q w' :=
  ⟨h.1.below hb h.1.lt, h.2.1.below hb, h.2.2.1.below hb h.2.2.1.lt, h.2.2.2.trans (hb.mono h.2.2.2.size)⟩
theorem below_d (w : World) (q : Nat) : Below w.heap.size w (w.drewN q) := below_drewN (Below.refl _ _) q
set_option maxRecDepth 100000 in
set_option maxHeartbeats 400000 in
theorem a2Same_any (n n' : Nat) (f f' : Nat → Int) (v u : Value) (w : World) (hv : ISl w v n f) (hu : ISl w u n' f') :
    Calls Tryz.prog 28 #[v, u] w fun e w' => e = .returned (.bool (sameIL n n' f f')) ∧ ∃ q, w' = w.drewN q := by
  have hs := l00Same_any n n' f f' v u w hv hu
  generalize sameIL n n' f f' = V at *
  go_enter Tryz.func28, Tryz.ntmps28
  go_wp2_with (go_at_call 55; refine hs.mono ?_; rintro e w1 ⟨rfl, q1, rfl⟩)
  go_ret
  exact ⟨rfl, q1, rfl⟩
theorem sameIL_self (n : Nat) (f : Nat → Int) : sameIL n n f f = true := by
  unfold sameIL
  rw [(anyTo_false (q := fun i => f i != f i) (P := fun i : Nat => i)).2 (fun i hi => by simp)]; simp
/-- The same lists, wherever they lie. -/
theorem a2Same_self (L : List Nat) (n : Nat) (hL : L.length = n) (r s : Nat) (v u : Value) (w : World) (hv : Rs 2 w r v n (ils L)) (hu : Rs 2 w s u n (ils L)) :
    Calls Tryz.prog 28 #[v, u] w fun e w' => e = .returned (.bool true) ∧ ∃ q, w' = w.drewN q := by
  have h := a2Same_any n n _ _ v u w (hv.isl hL) (hu.isl hL)
  rw [sameIL_self] at h
  exact h
set_option maxRecDepth 100000 in
set_option maxHeartbeats 4000000 in
theorem lawGrants (v1 : Value) (n1 : Nat) (v2 : Value) (n2 : Nat) (w : World) (h1 : BSl w v1 n1) (h2 : BSl w v2 n2) :
    Calls Tryz.prog 5 #[v1, v2] w fun e w' => e = .returned (.bool true) ∧ Below w.heap.size w w' := by
  have h1' := h1
  have h2' := h2
  obtain ⟨a1, c1, rfl, m1, _⟩ := h1'
  obtain ⟨a2, c2, rfl, m2, _⟩ := h2'
  have hlong := fun w' => a2Long_any a1 a2 n1 n2 c1 c2 m1 m2 w'
  by_cases hl : 3000 < n1 ∨ 3000 < n2
  · have hd : (decide (3000 < n1) || decide (3000 < n2)) = true := by simp; exact hl
    rw [hd] at hlong
    clear hd hl h1 h2 m1 m2
    go_enter Tryz.func5, Tryz.ntmps5
    go_wp2_with (go_at_call 21; refine (hlong _).mono ?_; rintro e w' ⟨rfl, hw⟩; rw [hw]; clear hw w')
    go_ret
    exact ⟨rfl, Below.refl _ _⟩
  have hd : (decide (3000 < n1) || decide (3000 < n2)) = false := by simp; omega
  rw [hd] at hlong
  have q1 : n1 ≤ 4096 := by omega
  have q2 : n2 ≤ 4096 := by omega
  have hof := a2Office_any _ _ w (h1.bytes q1)
  have hpe := fun G u hW hH w' (hb : Below w.heap.size w w') => a2Permits_any _ _ G u hW hH w' ((h2.below hb).bytes q2)
  clear hd hl h1 m1 m2 h2
  have size76 : (Tryz.prog.info? 42).map (·.size) = some 196 := by kernel_rfl
  go_enter Tryz.func5, Tryz.ntmps5
  go_upto_region 4 with (first | (go_at_call 21; refine (hlong _).mono ?_; rintro e w' ⟨rfl, hw⟩; rw [hw]; clear hw w') | (go_at_call 22; refine hof.mono ?_; rintro e w1 ⟨G, u, n, P, hG, hn, hP, rfl, hL, hbel⟩) | (refine wpList_alloc_as rfl rfl zero76 ?_) | (refine wpList_store_last (c' := ofc G u) rfl rfl rfl rfl rfl (by rw [ofc_size]; exact size76) (by rw [ofc_size, ofc_size]) (List.all_eq_true.2 (ofc_one _ _ hL.one)) ?_))
  have hA := Blk.new w1 (ofc G u) 42
  have hWS := (hL.alloc (.cells (ofc G u) 42)).wsl
  have hbel := hbel.alloc hbel.size (.cells (ofc G u) 42)
  generalize w1.alloc (.cells (ofc G u) 42) = W1 at *
  generalize w1.heap.size = p5 at *
  have hpe := hpe G u (by have := validG_parts hG.valid; have := hG.small; omega) (by have := validG_parts hG.valid; have := hG.small; omega) W1 hbel
  clear hof hlong size76 hL
  go_upto_region 5 with (first | (refine wpList_load_blk rfl rfl rfl row76 hA (ofc_size _ _) ?_) | (go_at_call 23; refine hpe.mono ?_; rintro e W2 ⟨x, r, m, Q, hm, rfl, hr, hQ, hX, hb2⟩))
  have hS : StG w p5 G u n P r x m Q W2 := ⟨hA.below hb2 hA.lt, hWS.below hb2, hX, hbel.trans (hb2.mono hbel.size)⟩
  obtain ⟨cx, rfl, hcx, hcxm⟩ := hX.form
  clear hb2 hX hr hpe hA hWS hbel
  have hPk : ∀ i, i < n → (P i).ok := fun i hi => (hP i hi).1
  have hQk : ∀ i, i < m → (Q i).ok := fun i hi => (hQ i hi).1
  have hVP := validP_of (validO_of hG.valid hn hP) hm (fun i hi => (hQ i hi).2)
  obtain ⟨D, N0, C, GF⟩ := gr_facts hVP hm hQk
  have hok := hG.ok
  clear hG hVP hP hQ
  have hin := fun w' (h : StG w p5 G u n P r (.slice (some ⟨r, 0, none⟩) m cx) m Q w') => grantInOrder_any G u _ n m P Q hok hPk hQk w' h.2.1 h.2.2.1.psl
  have hsn := fun w' (h : StG w p5 G u n P r (.slice (some ⟨r, 0, none⟩) m cx) m Q w') => specGrantInOrder_any G u _ n m P Q hok hPk hQk w' h.2.1 h.2.2.1.psl
  have hck := fun y l f w' (h : StG w p5 G u n P r (.slice (some ⟨r, 0, none⟩) m cx) m Q w') (h3 : ISl w' y l f) => checkGrant_any G u _ y n m l P Q f hok hPk hQk w' h.2.1 h.2.2.1.psl h3
  have hfe := fun w' (h : StG w p5 G u n P r (.slice (some ⟨r, 0, none⟩) m cx) m Q w') => fewB G u _ n m P Q hok hPk hQk w' h.2.1 h.2.2.1.psl
  have hsf := fun w' (h : StG w p5 G u n P r (.slice (some ⟨r, 0, none⟩) m cx) m Q w') => specFewB G u _ n m P Q hok hPk hQk w' h.2.1 h.2.2.1.psl
  have hmw := fun w' (h : StG w p5 G u n P r (.slice (some ⟨r, 0, none⟩) m cx) m Q w') => watB G u _ n m P Q hok hPk hQk w' h.2.1 h.2.2.1.psl
  have hsm := fun w' (h : StG w p5 G u n P r (.slice (some ⟨r, 0, none⟩) m cx) m Q w') => specWatB G u _ n m P Q hok hPk hQk w' h.2.1 h.2.2.1.psl
  have hak := fun k R x' (hR : ∀ i, i < k → (R i).ok) w' (h : StG w p5 G u n P r (.slice (some ⟨r, 0, none⟩) m cx) m Q w') (h3 : PSl w' x' k R) => areKept_any G u x' n k P R hok hPk hR w' h.2.1 h3
  have hgp := fun w' (h : StG w p5 G u n P r (.slice (some ⟨r, 0, none⟩) m cx) m Q w') => greatestPercent_anyC G u r n m cx P Q hok hPk hQk w' h.2.1 h.2.2.1
  have hsg := fun w' (h : StG w p5 G u n P r (.slice (some ⟨r, 0, none⟩) m cx) m Q w') => specGreatestPercent_anyC G u r n m cx P Q hok hPk hQk w' h.2.1 h.2.2.1
  have hsc := fun pc w' (h : StG w p5 G u n P r (.slice (some ⟨r, 0, none⟩) m cx) m Q w') => scaledPermits_anyC m r cx Q hQk pc w' h.2.2.1
  rw [GF.gioL, GF.gioN, GF.gioC] at hin hsn
  rw [GF.few] at hfe hsf
  rw [GF.wat] at hmw hsm
  have hFN := fwN_eq G n P m Q
  have hMN := mwN_eq G n P m Q
  have hFl := fwN_le (g := G) (n := n) (m := m) (P := P) (Q := Q)
  have hMl := mwN_le (g := G) (n := n) (m := m) (P := P) (Q := Q)
  have HB := Lib.hid GF.best
  generalize fwL G n P m Q = FL at *
  generalize mwL G n P m Q = ML at *
  generalize hFNe : fwN G n P m Q = FN at *
  generalize hMNe : mwN G n P m Q = MN at *
  generalize hMSe : mwS G n P m Q = MS at *
  clear hFNe hMNe hMSe
  have HF := Lib.hid GF
  have HQ := Lib.hid hQk
  clear GF hQk hPk
  go_upto_region 7 with (first | (refine wpList_load_blk rfl rfl rfl row76 hS.1 (ofc_size _ _) ?_) | (go_at_call 24; refine (hin _ hS).mono ?_; rintro e W3 ⟨v7, r7, rfl, hr7, hR7, hb3⟩; have hS := hS.below hb3) | (go_at_call 25; refine (hsn _ hS).mono ?_; rintro e W4 ⟨v9, r9, rfl, hr9, hR9, hb4⟩; have hS := hS.below hb4))
  have hR7 := hR7.below hb4
  have hI9 := hR9.isl rfl
  have hck9 := hck v9 D.length (fun i => (D.getD i 0 : Nat)) W4 hS hI9
  rw [HF.out.cg] at hck9
  clear hb3 hb4 hr7 hr9 hin hsn
  go_upto_region 8 with (first | (refine wpList_load_blk rfl rfl rfl row76 hS.1 (ofc_size _ _) ?_) | (go_at_call 26; refine (hck9).mono ?_; rintro e W5 ⟨rfl, hb5⟩; have hS := hS.below hb5))
  have hR7 := hR7.below hb5
  have hR9 := hR9.below hb5
  clear hb5 hck9 hI9
  go_upto_region 10 with (first | (refine wpList_load_blk rfl rfl rfl row76 hS.1 (ofc_size _ _) ?_) | (go_at_call 11; refine (hfe _ hS).mono ?_; rintro e W6 ⟨v13, r13, rfl, hr13, hR13, hb6⟩; have hS := hS.below hb6) | (go_at_call 8; refine (hsf _ hS).mono ?_; rintro e W7 ⟨v15, r15, rfl, hr15, hR15, hb7⟩; have hS := hS.below hb7))
  have hb67 := hb6.trans (hb7.mono hb6.size)
  have hR7 := hR7.below hb67
  have hR9 := hR9.below hb67
  have hR13 := hR13.below hb7
  clear hb6 hb7 hb67 hr13 hr15 hfe hsf
  go_upto_region 12 with (first | (refine wpList_load_blk rfl rfl rfl row76 hS.1 (ofc_size _ _) ?_) | (go_at_call 20; refine (hmw _ hS).mono ?_; rintro e W8 ⟨v17, r17, rfl, hr17, hR17, hb8⟩; have hS := hS.below hb8) | (go_at_call 19; refine (hsm _ hS).mono ?_; rintro e W9 ⟨v20, r20, rfl, hr20, hR20, hb9⟩; have hS := hS.below hb9))
  have hb89 := hb8.trans (hb9.mono hb8.size)
  have hR7 := hR7.below hb89
  have hR9 := hR9.below hb89
  have hR13 := hR13.below hb89
  have hR15 := hR15.below hb89
  have hR17 := hR17.below hb9
  clear hb8 hb9 hb89 hr17 hr20 hmw hsm
  have hba := below1 W9 (.cells #[] 64)
  have hR7 := hR7.below hba
  have hR9 := hR9.below hba
  have hR13 := hR13.below hba
  have hR15 := hR15.below hba
  have hR17 := hR17.below hba
  have hR20 := hR20.below hba
  have hS1 := hS.below hba
  have hak0 := hak 0 (pickP Q []) (.slice (some ⟨W9.heap.size, 0, none⟩) 0 0) (fun i hi => by omega) _ hS1 ⟨_, 0, rfl, Nat.le_refl _, Nat.zero_le _, .inl rfl⟩
  rw [HF.out.none] at hak0
  go_upto_region 13 with (first | (refine wpList_load_blk rfl rfl rfl row76 hS.1 (ofc_size _ _) ?_) | (go_at_call 27; refine (hak0).mono ?_; rintro e Wa ⟨rfl, hb10⟩; have hS := hS1.below hb10))
  have hR7 := hR7.below hb10
  have hR9 := hR9.below hb10
  have hR13 := hR13.below hb10
  have hR15 := hR15.below hb10
  have hR17 := hR17.below hb10
  have hR20 := hR20.below hb10
  clear hb10 hak0 hS1 hba
  have hcut0 : (N0 = true ∧ C = 0) ∨ N0 = false := by
    cases hN : N0
    · exact .inr rfl
    · exact .inl ⟨rfl, HF.out.noneC hN⟩
  go_cut [163] from 100 to 163 (fun c wx => c = .bool false ∧ ∃ q, wx = Wa.drewN q)
  case first =>
    have hCC : (C != C) = false := by simp
    have hMM : (MS != MS) = false := by simp
    rcases hcut0 with ⟨rfl, rfl⟩ | rfl
    · go_wp2_with (go_at_call 28; first | (refine (a2Same_self D _ rfl r7 r9 v7 v9 _ ?ha ?hb).mono ?_; (case ha => exact hR7); (case hb => exact hR9); rintro e w' ⟨rfl, q, rfl⟩) | (refine (a2Same_self FL _ hFN r13 r15 v13 v15 _ ?ha ?hb).mono ?_; (case ha => exact hR13); (case hb => exact hR15); rintro e w' ⟨rfl, q, rfl⟩) | (refine (a2Same_self ML _ hMN r17 r20 v17 v20 _ ?ha ?hb).mono ?_; (case ha => exact hR17); (case hb => exact hR20); rintro e w' ⟨rfl, q, rfl⟩))
      go_meet
      exact ⟨rfl, _, rfl⟩
    · go_wp2_with (go_at_call 28; first | (refine (a2Same_self D _ rfl r7 r9 v7 v9 _ ?ha ?hb).mono ?_; (case ha => exact hR7); (case hb => exact hR9); rintro e w' ⟨rfl, q, rfl⟩) | (refine (a2Same_self FL _ hFN r13 r15 v13 v15 _ ?ha ?hb).mono ?_; (case ha => exact hR13); (case hb => exact hR15); rintro e w' ⟨rfl, q, rfl⟩) | (refine (a2Same_self ML _ hMN r17 r20 v17 v20 _ ?ha ?hb).mono ?_; (case ha => exact hR17); (case hb => exact hR20); rintro e w' ⟨rfl, q, rfl⟩))
      go_meet
      exact ⟨rfl, _, rfl⟩
  case rest =>
    obtain ⟨rfl, q0, rfl⟩ := hcut
    have hbd := below_d Wa q0
    have hS := hS.below hbd
    have hR9 := hR9.below hbd
    obtain ⟨a15, c15, rfl, _, _, _⟩ := hR15.form
    obtain ⟨a9, c9, rfl, hc9, hc9m, hf9⟩ := hR9.form
    clear hR7 hR13 hR15 hR17 hR20 hcut0 hbd
    generalize Wa.drewN q0 = Wb at *
    go_upto_region 18 with fail
    have hO : Own (Wb.alloc (.cells #[] 64)) Wb.heap.size 64 3 (.slice (some ⟨Wb.heap.size, 0, none⟩) 0 0) 0 (pls 0 (pickP Q D)) := own_blk (Blk.new _ _ _) rfl (by decide) (by rw [pls_zero])
    have hbel := below1 Wb (.cells #[] 64)
    generalize Wb.alloc (.cells #[] 64) = Wc at *
    unfold maxLen at hc9m hcxm
    go_loopw [25, 26, 27] (fun o y i wr => ∃ (j gb : Nat) (sm : Int), j ≤ D.length ∧ i = .int .i64 j ∧ o = .int .i64 sm ∧ Hid (sm = sumOf Q (D.take j)) ∧ Own wr gb 64 3 y j (pls j (pickP Q D)) ∧ Wb.heap.size ≤ gb ∧ Below Wb.heap.size Wb wr) (fun _ _ i _ => D.length - (intOf i).toNat)
    case atStart => exact ⟨0, _, 0, by omega, rfl, rfl, Lib.hid (by simp [sumOf_nil]), hO, Nat.le_refl _, hbel⟩
    case round =>
      clear hO hbel
      obtain ⟨j, gb, sm, hj, rfl, rfl, hsm, hO, hgb, hbel⟩ := hrel
      have hlen := HF.out.len
      by_cases hlt : j < D.length
      · rcases hf9 with h | ⟨rfl, hr9, hf9⟩
        · omega
        have hSw := hS.below hbel
        have hXw := hSw.2.2.1
        have hR9w : ∀ i, i < D.length → wr.cell? ⟨r9, i, none⟩ = some (.int .i64 ((D.getD i 0 : Nat) : Int)) := fun i hi => (hbel.cell (p := ⟨r9, i, none⟩) hr9).trans ((hf9 i hi).trans (ils_at D i hi))
        have c9j := hR9w j hlt
        have c9b : Wb.cell? ⟨r9, j, none⟩ = some (.int .i64 ((D.getD j 0 : Nat) : Int)) := (hf9 j hlt).trans (ils_at D j hlt)
        have hE1 := HF.out.lt j hlt
        have hQE := HQ.out _ hE1
        have hrE := HF.out.rat _ hE1
        have hsm2 : -98304 ≤ sm ∧ sm ≤ 98304 := by
          have h3 := sumOf_bd (Q := Q) (m := m) HQ.out (L := D.take j) (fun i hi => by
            have h4 := List.mem_of_mem_take hi
            obtain ⟨k, hk, rfl⟩ := List.getElem_of_mem h4
            have h5 := HF.out.lt k hk
            rw [List.getD_eq_getElem?_getD, List.getElem?_eq_getElem hk] at h5
            exact h5)
          rw [hsm.out]
          have hlt2 : (D.take j).length = j := by rw [List.length_take]; omega
          rw [hlt2] at h3
          omega
        have hpk : pickP Q D j = Q (D.getD j 0) := rfl
        have HPK := Lib.hid hpk
        have hts : sumOf Q (D.take (j + 1)) = sm + (Q (D.getD j 0)).rat := by
          rw [List.take_add_one, List.getElem?_eq_getElem hlt, hsm.out]
          show sumOf Q (D.take j ++ [D[j]]) = _
          rw [sumOf_snoc, List.getD_eq_getElem?_getD, List.getElem?_eq_getElem hlt]; rfl
        have HTS := Lib.hid hts
        have hprev : 0 < j → D.getD (j - 1) 0 < D.getD j 0 := fun h => HF.out.rise (j - 1) j (by omega) hlt
        have c9p : 0 < j → wr.cell? ⟨r9, j - 1, none⟩ = some (.int .i64 ((D.getD (j - 1) 0 : Nat) : Int)) := fun h => hR9w (j - 1) (by omega)
        clear hpk hts
        generalize D.getD j 0 = E at *
        generalize D.getD (j - 1) 0 = E0 at *
        generalize hDL : D.length = dl at *
        have HDL := Lib.hid hDL
        have lw := hr9
        have e0 : wr.cell? ⟨r, E * 3, none⟩ = some (.int .i8 (Q E).own) := (hXw.cell _ (by omega)).trans ((pls_get m Q E 0 hE1 (by omega)).trans (Q E).get0)
        have e1 : wr.cell? ⟨r, E * 3 + 1, none⟩ = some (.int .i8 (Q E).cel) := (hXw.cell _ (by omega)).trans ((pls_get m Q E 1 hE1 (by omega)).trans (Q E).get1)
        have e2 : wr.cell? ⟨r, E * 3 + 2, none⟩ = some (.int .i16 (Q E).rat) := (hXw.cell _ (by omega)).trans ((pls_get m Q E 2 hE1 (by omega)).trans (Q E).get2)
        obtain ⟨gp1, gp2, gp3⟩ := hQE
        have bj : (0 : Int) ≤ j := by omega
        have bl : (j : Int) < dl := by omega
        have bE0 : decide ((E : Int) < 0) = false := by simp
        have bE1 : decide (m ≤ E) = false := decide_eq_false (by omega)
        have bE2 : (0 : Int) ≤ E := by omega
        have bE3 : (E : Int) < m := by omega
        clear hDL hR9w hf9 hr9 hsm
        by_cases hj0 : 0 < j
        · have c9p := c9p hj0
          have hprev := hprev hj0
          obtain ⟨k, rfl⟩ : ∃ k, j = k + 1 := ⟨j - 1, by omega⟩
          rw [Nat.add_sub_cancel] at c9p
          have ek : ((k + 1 : Nat) : Int) = (k : Int) + 1 := by omega
          rw [ek] at bj bl ⊢
          have bj1 : decide ((k : Int) + 1 > 0) = true := decide_eq_true (by omega)
          have bk0 : (0 : Int) ≤ k := by omega
          have bk1 : (k : Int) < dl := by omega
          have bk2 : (k : Int) + 1 ≤ 4 := by omega
          have bE4 : decide (E ≤ E0) = false := decide_eq_false (by omega)
          have bwk : IntKind.i64.wrap (k : Int) = (k : Int) := by rw [IntKind.wrap_i64]; omega
          go_upto_region 20 with fail
          go_quiet (fail)
          have lG := hO.lt
          go_upto_region 19 with (at_builtin; refine wpList_app elPm rfl rfl rfl rfl (by decide) (hO.alloc _) (Blk.new _ _ _) rfl ?_ ?_ ?_ ?_; (· intro u hu; simp at hu; rcases hu with rfl | rfl | rfl <;> rfl); (· unfold maxLen; omega); (· omega); intro v1 w7 g2 hown1 hgr1 hg1; have hb7 : Below Wb.heap.size Wb w7 := ((below_drewN hbel _).alloc (by have := hbel.size; simpa using this) _).grown hgr1 (by have := hbel.size; simp; omega) (fun k e => by injection e; omega); have c9w := (hb7.cell (p := ⟨r9, k + 1, none⟩) lw).trans c9b; have e2w : w7.cell? ⟨r, E * 3 + 2, none⟩ = some (.int .i16 (Q E).rat) := ((hS.below hb7).2.2.1.cell _ (by omega)).trans ((pls_get m Q E 2 hE1 (by omega)).trans (Q E).get2))
          go_wp2_with fail
          go_roundw
          case rel =>
            refine ⟨k + 1 + 1, g2, sm + (Q E).rat, by omega, by go_num, rfl, Lib.hid HTS.out.symm, ?_, by have := hbel.size; simp at hg1; omega, hb7⟩
            rw [pls_succ, HPK.out, Pm.cells_eq]
            exact hown1
          case measure => simp [intOf]; omega
        · obtain rfl : j = 0 := by omega
          have bj1 : decide (((0 : Nat) : Int) > 0) = false := by simp
          clear c9p hprev
          go_upto_region 20 with fail
          go_quiet (fail)
          have lG := hO.lt
          go_upto_region 19 with (at_builtin; refine wpList_app elPm rfl rfl rfl rfl (by decide) (hO.alloc _) (Blk.new _ _ _) rfl ?_ ?_ ?_ ?_; (· intro u hu; simp at hu; rcases hu with rfl | rfl | rfl <;> rfl); (· unfold maxLen; omega); (· omega); intro v1 w7 g2 hown1 hgr1 hg1; have hb7 : Below Wb.heap.size Wb w7 := ((below_drewN hbel _).alloc (by have := hbel.size; simpa using this) _).grown hgr1 (by have := hbel.size; simp; omega) (fun k e => by injection e; omega); have c9w := (hb7.cell (p := ⟨r9, 0, none⟩) lw).trans c9b; have e2w : w7.cell? ⟨r, E * 3 + 2, none⟩ = some (.int .i16 (Q E).rat) := ((hS.below hb7).2.2.1.cell _ (by omega)).trans ((pls_get m Q E 2 hE1 (by omega)).trans (Q E).get2))
          go_wp2_with fail
          go_roundw
          case rel =>
            refine ⟨0 + 1, g2, sm + (Q E).rat, by omega, by go_num, rfl, Lib.hid HTS.out.symm, ?_, by have := hbel.size; simp at hg1; omega, hb7⟩
            rw [pls_succ, HPK.out, Pm.cells_eq]
            exact hown1
          case measure => simp [intOf]; omega
      · obtain rfl : j = D.length := by omega
        have hf9x : D.length = 0 ∨ (a9 = some ⟨r9, 0, none⟩ ∧ r9 < Wb.heap.size) := by
          rcases hf9 with h | ⟨h1, h2, _⟩
          · exact .inl h
          · exact .inr ⟨h1, h2⟩
        clear hf9
        have hSw := hS.below hbel
        have hR9w := hR9.below hbel
        have hakS := hak D.length (pickP Q D) u26 (fun i hi => HQ.out _ (HF.out.lt i hi)) wr hSw hO.psl
        rw [HF.out.some] at hakS
        obtain ⟨cs, rfl, hcs, hcsm⟩ := hO.form
        unfold maxLen at hcsm
        have HSM : Hid (sm = sumOf Q D) := Lib.hid (by rw [hsm.out, List.take_length])
        clear hO hsm
        generalize hKB : (N0 || decide (0 < D.length)) = KB at *
        go_upto_region 25 with (first | (refine wpList_load_blk rfl rfl rfl row76 hSw.1 (ofc_size _ _) ?_) | (go_at_call 27; refine hakS.mono ?_; rintro e We ⟨rfl, hb12⟩))
        have hSe := hSw.below hb12
        have hR9 := hR9w.below hb12
        clear hakS hSw hR9w hb12 hbel hS hgb
        go_cut [239] from 228 to 239 (fun c wx => c = .bool false ∧ wx = We)
        case first =>
          cases N0
          · by_cases hd0 : 0 < D.length
            · have bd1 : decide (0 < D.length) = true := decide_eq_true hd0
              have bd2 : (0 : Int) < D.length := by omega
              rw [bd1] at hKB
              obtain rfl : KB = true := by rw [← hKB]; rfl
              go_wp2_with fail
              go_meet
              exact ⟨rfl, rfl⟩
            · have bd1 : decide (0 < D.length) = false := decide_eq_false hd0
              have bd2 : ¬ (0 : Int) < D.length := by omega
              rw [bd1] at hKB
              obtain rfl : KB = false := by rw [← hKB]; rfl
              go_wp2_with fail
              go_meet
              exact ⟨rfl, rfl⟩
          · obtain rfl : KB = true := by rw [← hKB]; rfl
            go_wp2_with fail
            go_meet
            exact ⟨rfl, rfl⟩
        case rest =>
          obtain ⟨rfl, hwc⟩ := hcut
          rw [hwc]
          clear hwc wc
          go_upto_if 242 with fail
          go_cut [30, 31] from 242 to 255 (fun c d wx => Below We.heap.size We wx)
          case first =>
            by_cases hd0 : 0 < D.length
            · have bd1 : decide (0 < D.length) = true := decide_eq_true hd0
              have bd2 : (0 : Int) < D.length := by omega
              go_upto_region 28 with fail
              rcases hf9x with h | ⟨rfl, hr9⟩
              · omega
              have hR9e := hR9
              obtain ⟨d1, hd1⟩ : ∃ d1, D.length = d1 + 1 := ⟨D.length - 1, by omega⟩
              obtain ⟨aT, hsl, hI⟩ : ∃ aT, sliced (some ⟨r9, 0, none⟩) 1 (d1 + 1) c9 1 = .slice aT d1 (c9 - 1) ∧ ISl We (.slice aT d1 (c9 - 1)) d1 (fun i => (D.getD (i + 1) 0 : Nat)) := by
                obtain ⟨a, cp, e, h1, h2, h3⟩ := (hR9e.isl rfl)
                rw [hd1] at e h1 h3
                injection e with e1 e2 e3
                subst e1; subst e3
                unfold sliced
                by_cases hc1 : c9 = 1
                · have hdz : d1 = 0 := by omega
                  subst hc1; subst hdz
                  exact ⟨_, rfl, _, _, rfl, Nat.le_refl _, Nat.zero_le _, .inl rfl⟩
                · rw [if_neg hc1]
                  refine ⟨_, rfl, _, _, rfl, by omega, by omega, .inr ⟨r9, 1, rfl, ?_⟩⟩
                  rcases h3 with h3 | ⟨b, o, h4, h5, h6⟩
                  · omega
                  injection h4 with h4; injection h4 with h7 h8
                  subst h7; subst h8
                  refine ⟨h5, fun i hi => ?_⟩
                  have := h6 (i + 1) (by omega)
                  rw [show 1 + i = 0 + (i + 1) by omega]
                  exact this
              have hcg := HF.out.cgt hd0 (fun i => (D.getD (i + 1) 0 : Nat))
              rw [show D.length - 1 = d1 by omega] at hcg
              have hSe' := hSe
              refine wp_loose (C := fun w' => Below We.heap.size We w') (R := fun w w' => Below w.heap.size w w') (F := fun w d v => match d, v with
                | 244, v => v = .agg (ofc G u)
                | 245, v => v = .slice (some ⟨r, 0, none⟩) m cx
                | 246, v => v = .slice (some ⟨r9, 0, none⟩) D.length c9
                | 247, v => v = .slice aT d1 (c9 - 1)
                | 248, v => v = .tuple #[.bool false, .int .i64 0]
                | 243, v => v = .tuple #[.bool false, .int .i64 0]
                | 249, v => v = .bool false
                | 250, v => v = .int .i64 0
                | 30, v => v = .bool false
                | 31, v => v = .int .i64 0
                | _, _ => True) (fun w1 w2 d v hR hF => by split at hF <;> exact hF) (by kernel_rfl) (by kernel_rfl) (by kernel_rfl) (Below.refl _ _).drew ?_ ?_
              · refine steps_cons (step_go rfl fun ev w1 hC k => ?_) ?_
                · have e := k.out 5 rfl rfl rfl
                  exact good_of rfl (load_blk e row76 (hSe.1.below hC hSe.1.lt) (ofc_size _ _)) hC (Below.refl _ _) rfl
                refine steps_cons (step_go rfl fun ev w1 hC k => ?_) ?_
                · have e : ev (.tmp 6) = .slice (some ⟨r, 0, none⟩) m cx := k.out 6 rfl rfl rfl
                  exact good_of (v := .slice (some ⟨r, 0, none⟩) m cx) rfl (by simp [execOp, e, go_sem]) hC (Below.refl _ _) rfl
                refine steps_cons (step_go rfl fun ev w1 hC k => ?_) ?_
                · have e : ev (.tmp 9) = .slice (some ⟨r9, 0, none⟩) D.length c9 := k.out 9 rfl rfl rfl
                  exact good_of (v := .slice (some ⟨r9, 0, none⟩) D.length c9) rfl (by simp [execOp, e, go_sem]) hC (Below.refl _ _) rfl
                refine steps_cons (step_go rfl fun ev w1 hC k => ?_) ?_
                · have e : ev (.tmp 246) = .slice (some ⟨r9, 0, none⟩) D.length c9 := k.inn 246 rfl rfl
                  refine good_of (v := .slice aT d1 (c9 - 1)) rfl ?_ hC (Below.refl _ _) rfl
                  rw [hd1] at e
                  have hr := run_slice_l (P := Tryz.prog) (w := w1) 34 (some ⟨r9, 0, none⟩) (d1 + 1) c9 Tryz.underlying34 .i64 1 (by decide) (by omega)
                  have hz : ∀ w, (sizeOf (Tryz.prog.elem 34)).run Tryz.prog w = .ok 1 w := fun w => by kernel_rfl
                  rw [hz w1] at hr
                  simp only [execOp, e, k.con, Option.map_some, Option.map_none, hr, Sem.run_bind, Sem.run_pure, Result.andThen_ok]
                  rw [run_sliceAt_slice (h := Tryz.underlying34), hr]
                  show Result.ok (Next.value (sliced (some ⟨r9, 0, none⟩) 1 (d1 + 1) c9 1)) w1 = _
                  rw [hsl]
                refine steps_cons (step_go rfl fun ev w1 hC k => ?_) ?_
                · have e1 : ev (.tmp 244) = .agg (ofc G u) := k.inn 244 rfl rfl
                  have e2 : ev (.tmp 245) = .slice (some ⟨r, 0, none⟩) m cx := k.inn 245 rfl rfl
                  have e3 : ev (.tmp 247) = .slice aT d1 (c9 - 1) := k.inn 247 rfl rfl
                  have hc := hck _ d1 _ w1 (hSe.below hC) (hI.below hC)
                  rw [hcg] at hc
                  exact good_call (f := 26) (args := #[.agg (ofc G u), .slice (some ⟨r, 0, none⟩) m cx, .slice aT d1 (c9 - 1)]) rfl (by simp [execOp, e1, e2, e3, k.fn, go_sem]) (hc.mono fun e w2 ⟨he, h3⟩ => ⟨_, he, hC.trans (h3.mono hC.size), h3, rfl⟩)
                refine steps_cons (step_go rfl fun ev w1 hC k => ?_) ?_
                · have e : ev (.tmp 248) = .tuple #[.bool false, .int .i64 0] := k.inn 248 rfl rfl
                  exact good_of (v := .tuple #[.bool false, .int .i64 0]) rfl (by simp [execOp, e, go_sem]) hC (Below.refl _ _) rfl
                refine steps_cons (step_go rfl fun ev w1 hC k => ?_) ?_
                · have e : ev (.tmp 243) = .tuple #[.bool false, .int .i64 0] := k.inn 243 rfl rfl
                  exact good_of (v := .bool false) rfl (by simp [execOp, e, Instr.extract]) hC (Below.refl _ _) rfl
                refine steps_cons (step_go rfl fun ev w1 hC k => ?_) ?_
                · have e : ev (.tmp 243) = .tuple #[.bool false, .int .i64 0] := k.inn 243 rfl rfl
                  exact good_of (v := .int .i64 0) rfl (by simp [execOp, e, Instr.extract]) hC (Below.refl _ _) rfl
                refine steps_cons (step_go rfl fun ev w1 hC k => ?_) ?_
                · have e : ev (.tmp 249) = .bool false := k.inn 249 rfl rfl
                  exact good_of (v := .bool false) rfl (by simp [execOp, e, go_sem]) hC (Below.refl _ _) rfl
                refine steps_cons (step_go rfl fun ev w1 hC k => ?_) ?_
                · have e : ev (.tmp 250) = .int .i64 0 := k.inn 250 rfl rfl
                  exact good_of (v := .int .i64 0) rfl (by simp [execOp, e, go_sem]) hC (Below.refl _ _) rfl
                exact steps_nil
              · intro xv w1 hxv hC
                have y30 : xv 30 = .bool false := hxv 30 (by decide)
                have y31 : xv 31 = .int .i64 0 := hxv 31 (by decide)
                simp only [fill, dstsOf, List.filterMap_cons, List.filterMap_nil, List.foldl_cons, List.foldl_nil, List.set_cons_succ, List.set_cons_zero, y30, y31]
                go_wp2_with fail
                go_meet
                exact hC
            · have bd1 : decide (0 < D.length) = false := decide_eq_false hd0
              have bd2 : ¬ (0 : Int) < D.length := by omega
              go_wp2_with fail
              go_meet
              exact Below.refl _ _
          case rest =>
            have hSf := hSe.below hcut
            clear hSe hR9 hck hcut
            have hpcE := HF.out.pc
            have hpcC := HF.out.pcC
            have hgp := hgp _ hSf
            generalize (gpT G n P m Q).1 = PC at *
            generalize (gpT G n P m Q).2 = C2 at *
            have HPC := Lib.hid hpcE
            have HPCC := Lib.hid hpcC
            clear hpcE hpcC
            have hPP : (PC != PC) = false := by simp
            have hC22 : (C2 != C2) = false := by simp
            go_upto_if 277 with (first | (refine wpList_load_blk rfl rfl rfl row76 hSf.1 (ofc_size _ _) ?_) | (go_at_call 29; refine hgp.mono ?_; rintro e Wg ⟨rfl, hb13⟩; have hSf := hSf.below hb13) | (go_at_call 30; refine (hsg _ hSf).mono ?_; rintro e Wh ⟨rfl, hb14⟩; have hSf := hSf.below hb14))
            go_cut [36, 37, 38, 39, 40] from 277 to 328 (fun c1 c2 c3 c4 c5 wx => Below Wh.heap.size Wh wx)
            case first =>
              rcases HPCC.out with h0 | h6
              · subst h0
                have hpcx := HPC.out rfl
                obtain ⟨hp1, hsN, hsC, hkS, hokS⟩ := hpcx
                have hscP := hsc PC Wh hSf
                rw [hsN, hsC] at hscP
                go_upto_region 37 with (go_at_call 31; refine hscP.mono ?_; rintro e Wi ⟨vs, rfl, rs, hrs, hRes, hb15⟩)
                have hSi := hSf.below hb15
                have hakP := hak m _ vs hokS Wi hSi hRes.psl
                rw [hkS] at hakP
                go_upto_region 38 with (first | (refine wpList_load_blk rfl rfl rfl row76 hSi.1 (ofc_size _ _) ?_) | (go_at_call 27; refine hakP.mono ?_; rintro e Wj ⟨rfl, hb16⟩))
                have hSj := hSi.below hb16
                have hResj := hRes.below hb16
                obtain ⟨avs, cvs, rfl, hcv, _, hfv⟩ := hResj.psl
                have bmm : ((m : Int) != (m : Int)) = false := by simp
                have bmm2 : (m != m) = false := by simp
                have hbx := hb15.trans (hb16.mono hb15.size)
                clear hRes hb15 hb16 hakP hscP hgp hsg hak hSi hSf
                go_upto_region 41 with fail
                go_loopw [40] (fun i wr => ∃ j : Nat, j ≤ m ∧ i = .int .i64 j ∧ Below Wj.heap.size Wj wr) (fun i _ => m - (intOf i).toNat)
                case atStart => exact ⟨0, by omega, rfl, Below.refl _ _⟩
                case round =>
                  obtain ⟨j, hj, rfl, hbr⟩ := hrel
                  by_cases hlt : j < m
                  · rcases hfv with h | ⟨bv, ov, rfl, hbv, hfv⟩
                    · omega
                    have hXr := (hSj.below hbr).2.2.1
                    have hrj := HF.out.rat j hlt
                    have e2 : wr.cell? ⟨r, j * 3 + 2, none⟩ = some (.int .i16 (Q j).rat) := (hXr.cell _ (by omega)).trans ((pls_get m Q j 2 hlt (by omega)).trans (Q j).get2)
                    have e2s : wr.cell? ⟨bv, ov + j * 3 + 2, none⟩ = some (.int .i16 ((Q j).rat * PC / 100)) := (hbr.cell (p := ⟨bv, _, none⟩) hbv).trans ((hfv j 2 hlt (by omega)).trans (Pm.get2 _))
                    have m1 : 0 ≤ (Q j).rat * PC := Int.mul_nonneg hrj.1 hp1.1
                    have m2 : (Q j).rat * PC ≤ 400 * 100 := Int.mul_le_mul hrj.2 hp1.2 hp1.1 (by decide)
                    have bj : (0 : Int) ≤ j := by omega
                    have bl : (j : Int) < m := by omega
                    obtain ⟨r1, r2⟩ := hrj
                    have hq0 : ((Q j).rat * PC / 100 != (Q j).rat * PC / 100) = false := by simp
                    clear hfv hXr
                    go_upto_region 43 with fail
                    go_quiet (fail)
                    go_wp2_with fail
                    go_roundw
                    case rel => exact ⟨j + 1, by omega, by go_num, below_drewN hbr _⟩
                    case measure => simp [intOf]; omega
                  · obtain rfl : j = m := by omega
                    go_wp2_with fail
                    go_meet
                    exact hbx.trans (hbr.mono hbx.size)
              · subst h6
                go_wp2_with fail
                go_meet
                exact Below.refl _ _
            case rest =>
              have hSk := hSf.below hcut
              clear hSf hcut hsg hsc hgp
              go_upto_if 330 with fail
              rcases HF.out.code with h0 | h6
              · subst h0
                cases hK : KB
                · subst hK
                  go_wp2_with fail
                  go_ret
                  exact ⟨rfl, hSk.2.2.2⟩
                · subst hK
                  have hbb := HB.out rfl rfl
                  have bs1 : decide (sm ≤ MS) = true := decide_eq_true (by rw [HSM.out]; exact hbb.2)
                  have bs2 : decide (D.length ≤ FN) = true := decide_eq_true hbb.1
                  go_wp2_with fail
                  go_ret
                  exact ⟨rfl, hSk.2.2.2⟩
              · subst h6
                go_wp2_with fail
                go_ret
                exact ⟨rfl, hSk.2.2.2⟩
end Go.Proofs.YtokdpmpgonafmaaGreat
