import Derived.Test.YtglimhkpndfjgaaGreatDoorMW26
import Derived.Test.YtglimhkpndfjgaaGreatDoorMW27
import Derived.Test.YtglimhkpndfjgaaGreatDoorMW25
/- The law over drawdowns (FnDrawdowns): the walk through the law's own function. -/
namespace Go.Proofs.YtglimhkpndfjgaaGreatDoor
open Go.ChangeShapes Go.WideShapes Go.ChangeAt Go.RowKit
set_option linter.unusedVariables false
set_option linter.unusedSimpArgs false
attribute [local irreducible] Calls
theorem lsl_congr {w : World} {v : Value} {n : Nat} {P P' : Nat → Wl} (h : LSl w v n P) (he : ∀ i, i < n → P i = P' i) : LSl w v n P' := by
  obtain ⟨a, cap, rfl, h1, h2, h3⟩ := h
  refine ⟨a, cap, rfl, h1, h2, ?_⟩
  rcases h3 with h3 | ⟨b, o, rfl, hlt, hc⟩
  · exact .inl h3
  · exact .inr ⟨b, o, rfl, hlt, fun i c hi hcc => by rw [← he i hi]; exact hc i c hi hcc⟩
/-- What lies in memory all along: the aquifer at block b, the wells. -/
structure StD (w0 : World) (b : Nat) (T S : Nat) (u : Value) (n : Nat) (P : Nat → Wl) (w : World) : Prop where
  aq : Blk w b #[.float .f32 T, .float .f32 S] 26
  wl : LSl w u n P
  bel : Below w0.heap.size w0 w
theorem StD.below {w0 : World} {b T S : Nat} {u : Value} {n : Nat} {P : Nat → Wl} {w w' : World} (h : StD w0 b T S u n P w) (hb : Below w.heap.size w w') : StD w0 b T S u n P w' :=
  ⟨h.aq.below hb h.aq.lt, h.wl.below hb, h.bel.trans (hb.mono h.bel.size)⟩
theorem txtWl_short {n : Nat} {P : Nat → Wl} (hn : n ≤ 12) (hP : ∀ i, i < n → WlD (P i)) : (txtWl P n).length ≤ 1048576 := by
  have := txtWl_len (P := P) (k := n) (fun i hi => ⟨(hP i hi).ok.1, (hP i hi).ok.2.1, (hP i hi).ok.2.2.2⟩)
  omega
theorem wpList_load_wantD {P : Program} {ops : Array Oper} {rest : List Oper} {o : Oper} {a : Act} {Q : Exit → Act → World → Prop} {w : World} {ty t : TypeId} {x : Operand} {b n : Nat} {C : Array Value} (hw : Region.wanted o (yielded ops a.tmps) = true) (ho : o.op = .load ty x) (hx : a.eval x = .pointer (some ⟨b, 0, none⟩)) (hr : RowTy P ty n) (hb : Blk w b C t) (hs : C.size = n)
    (h : wpList P ops Q rest (a.put o.dst (.agg C)) w) : wpList P ops Q (o :: rest) a w := by
  obtain ⟨d, hu, hd, hi⟩ := hr
  exact wpList_step fun K hK => by
    simp only [hw, if_true]
    exact wp_load_row ty x ho b hx t C (0, 0) d hb hu (by cases d <;> simp_all) (by rw [hi, hs]) (hK _ _ h)
theorem wpList_load_wantW {ops : Array Oper} {rest : List Oper} {o : Oper} {a : Act} {Q : Exit → Act → World → Prop} {w : World} {x : Operand} {b f : Nat} {u v : Int} {r : Nat} (hw : Region.wanted o (yielded ops a.tmps) = true) (ho : o.op = .load 51 x) (hx : a.eval x = .pointer (some ⟨b, f, none⟩)) (c0 : w.cell? ⟨b, f, none⟩ = some (.int .i8 u)) (c1 : w.cell? ⟨b, f + 1, none⟩ = some (.int .i8 v)) (c2 : w.cell? ⟨b, f + 2, none⟩ = some (.float .f32 r))
    (h : wpList Tryz.prog ops Q rest (a.put o.dst (.agg #[.int .i8 u, .int .i8 v, .float .f32 r])) w) : wpList Tryz.prog ops Q (o :: rest) a w :=
  wpList_step fun K hK => by
    simp only [hw, if_true]
    obtain ⟨dst, op, ty, pos, af, gd⟩ := o
    simp only at ho
    subst ho
    unfold Oper.wp
    rw [load_well3 hx c0 c1 c2]
    exact hK _ _ h
set_option maxRecDepth 100000 in
set_option maxHeartbeats 8000000 in
theorem lawDrawdowns (v1 : Value) (n1 : Nat) (v2 : Value) (n2 : Nat) (w : World) (h1 : BSl w v1 n1) (h2 : BSl w v2 n2) (hV : NumVars w) (htab : Lib.TabIs Tryz.prog w "internal/strconv.uint64pow10" .u64 Lib.pow10Tab) (mx : Int) (hmx : w.cell? ⟨3, 0, none⟩ = some (.int .i64 mx)) :
    Calls Tryz.prog 3 #[v1, v2] w fun e w' => e = .returned (.bool true) ∧ Below w.heap.size w w' := by
  have h1' := h1
  have h2' := h2
  obtain ⟨a1, c1, rfl, m1, _⟩ := h1'
  obtain ⟨a2, c2, rfl, m2, _⟩ := h2'
  have hbig1 := fun w' => f6big_any a1 n1 c1 m1 w'
  have hbig2 := fun w' => f6big_any a2 n2 c2 m2 w'
  by_cases l1 : 4096 < n1
  · rw [decide_eq_true l1] at hbig1
    clear h1 h2 m1 m2 hV htab hmx
    go_enter Tryz.func3, Tryz.ntmps3
    go_wp2_with (go_at_call 5; refine (hbig1 _).mono ?_; rintro e w' ⟨rfl, hw⟩; rw [hw]; clear hw w')
    go_ret
    exact ⟨rfl, Below.refl _ _⟩
  by_cases l2 : 4096 < n2
  · rw [decide_eq_false l1] at hbig1
    rw [decide_eq_true l2] at hbig2
    clear h1 h2 m1 m2 hV htab hmx
    go_enter Tryz.func3, Tryz.ntmps3
    go_wp2_with (go_at_call 5; first | (refine (hbig1 _).mono ?_; rintro e w' ⟨rfl, hw⟩; rw [hw]; clear hw w') | (refine (hbig2 _).mono ?_; rintro e w' ⟨rfl, hw⟩; rw [hw]; clear hw w'))
    go_ret
    exact ⟨rfl, Below.refl _ _⟩
  rw [decide_eq_false l1] at hbig1
  rw [decide_eq_false l2] at hbig2
  have q1 : n1 ≤ 4096 := by omega
  have q2 : n2 ≤ 4096 := by omega
  have haq := p6Aquifer_any _ _ w (h1.bytes q1)
  have hwl := fun w' (hb : Below w.heap.size w w') => p6Wells_any _ _ w' ((h2.below hb).bytes q2)
  have hpk1 := fun m (a : 1 ≤ m) (b : m ≤ 1099511627776) w' (hb : Below w.heap.size w w') => p6Pick_any _ _ m a b w' ((h1.below hb).bytes q1)
  have hpk2 := fun m (a : 1 ≤ m) (b : m ≤ 1099511627776) w' (hb : Below w.heap.size w w') => p6Pick_any _ _ m a b w' ((h2.below hb).bytes q2)
  have HV := Lib.hid hV
  have HT := Lib.hid htab
  have HM := Lib.hid hmx
  clear l1 l2 h1 m1 m2 h2 hV htab hmx
  go_enter Tryz.func3, Tryz.ntmps3
  go_upto_region 4 with (first | (go_at_call 5; first | (refine (hbig1 _).mono ?_; rintro e w' ⟨rfl, hw⟩; rw [hw]; clear hw w') | (refine (hbig2 _).mono ?_; rintro e w' ⟨rfl, hw⟩; rw [hw]; clear hw w')) | (go_at_call 6; refine haq.mono ?_; rintro e w1 ⟨T, S, hD, rfl, hb1⟩))
  clear hbig1 hbig2 haq
  have hA := Blk.new w1 #[.float .f32 T, .float .f32 S] 26
  have hbel := hb1.alloc hb1.size (.cells #[.float .f32 T, .float .f32 S] 26)
  clear hb1
  generalize w1.alloc (.cells #[.float .f32 T, .float .f32 S] 26) = W1 at *
  obtain ⟨p5, hp5⟩ : ∃ p, w1.heap.size = p := ⟨_, rfl⟩
  rw [hp5] at hA ⊢
  clear hp5
  go_upto_region 5 with (go_at_call 7; refine (hwl _ hbel).mono ?_; rintro e W2 ⟨u, r, n, P, hn, rfl, hr, hP, hO, hb2⟩)
  have hS : StD w p5 T S u n P W2 := ⟨hA.below hb2 hA.lt, hO.lsl, hbel.trans (hb2.mono hbel.size)⟩
  clear hA hbel hb2 hO hr hwl w1 W1
  go_upto_region 6 with (go_at_call 8; refine (hpk1 8 (by decide) (by decide) _ hS.bel).mono ?_; rintro e W3 ⟨x, x0, x1, rfl, hbp⟩; replace hS := hS.below hbp; clear hbp)
  go_upto_region 7 with (go_at_call 8; refine (hpk2 8 (by decide) (by decide) _ hS.bel).mono ?_; rintro e W4 ⟨y, y0, y1, rfl, hbp⟩; replace hS := hS.below hbp; clear hbp)
  go_upto_region 8 with (go_at_call 8; refine (hpk1 60 (by decide) (by decide) _ hS.bel).mono ?_; rintro e W5 ⟨tm, tm0, tm1, rfl, hbp⟩; replace hS := hS.below hbp; clear hbp)
  obtain ⟨time, ht⟩ : ∃ time : Nat, 1 + tm = (time : Int) := ⟨(1 + tm).toNat, by omega⟩
  have t1 : 1 ≤ time := by omega
  have t2 : time ≤ 60 := by omega
  rw [ht]
  clear ht tm0 tm1
  have hx : 0 ≤ x ∧ x ≤ 7 := by omega
  have hy : 0 ≤ y ∧ y ≤ 7 := by omega
  have hvl : validL n P := ⟨by omega, fun i hi => (hP i hi).ok⟩
  have hgd := wl_good (l := txtWl P n) ⟨n, P, hvl, rfl⟩
  have hrt := wl_txt hvl
  have htx := fun w' (h : StD w p5 T S u n P w') => wellsTextD_any n (by omega) P hP u w' h.wl (HV.out.below h.bel) (tab_below HT.out h.bel)
  have hrd : ∀ w', StD w p5 T S u n P w' → Calls Tryz.prog 9 #[.string ⟨(txtWl P n).toArray⟩] w' fun e w'' => ∃ v, e = .returned (.tuple #[v, .int .i64 0]) ∧ LSl w'' v n P ∧ Below w'.heap.size w' w'' := fun w' h => by
    have h1 := readWellsI_any ⟨(txtWl P n).toArray⟩ (by rw [size_of]; exact txtWl_short (by omega) hP) w' (HV.out.below h.bel) (tab_below HT.out h.bel) mx ((h.bel.cell (p := ⟨3, 0, none⟩) (Lib.lt_of_cell HM.out)).trans HM.out)
    rw [show (⟨(txtWl P n).toArray⟩ : ByteArray).data.toList = txtWl P n by simp, hgd.1, hgd.2, hrt.1] at h1
    refine h1.mono ?_
    rintro e w'' ⟨v, rfl, rr, _, hres, hbel⟩
    exact ⟨v, rfl, lsl_congr hres.wsl fun i hi => (hrt.2 i hi).1, hbel⟩
  have hd1 := fun w' (h : StD w p5 T S u n P w') => drawdownsAt_any T S hD n (by omega) P hP u x y hx hy time t1 (by omega) w' h.wl
  have hd2 := fun w' (h : StD w p5 T S u n P w') => specDrawdownsAt_any T S hD n (by omega) P hP u x y hx hy time t1 (by omega) w' h.wl
  have hs1 := fun w' (h : StD w p5 T S u n P w') => sumAt_any T S hD n hn P hP u x y hx hy time t1 (by omega) w' h.wl
  have hs2 := fun w' (h : StD w p5 T S u n P w') => specSumAt_any T S hD n hn P hP u x y hx hy time t1 (by omega) w' h.wl
  have hf1 := fun w' (h : StD w p5 T S u n P w') => fieldAfter_any T S hD n hn P hP u time t1 (by omega) w' h.wl
  have hf2 := fun w' (h : StD w p5 T S u n P w') => specFieldAfter_any T S hD n hn P hP u time t1 (by omega) w' h.wl
  have hb1 := fun w' (h : StD w p5 T S u n P w') => strongestWell_any T S hD n (by omega) P hP u x y hx hy time t1 (by omega) w' h.wl
  have hb2 := fun w' (h : StD w p5 T S u n P w') => specStrongestWell_any T S hD n (by omega) P hP u x y hx hy time t1 (by omega) w' h.wl
  have hva := fun w' => validAquifer_any T S hD.ok w'
  have hsw := fun v w' h1 h2 => specSameWells_one n P v u w' h1 h2
  have hsi := fun v w' h1 h2 => sameWells_one n P v u w' h1 h2
  have hcell : fldF T S P n time (x + 8 * y).toNat = sumF T S P n x y time := by
    unfold fldF
    rw [show (((x + 8 * y).toNat % 8 : Nat) : Int) = x by omega, show (((x + 8 * y).toNat / 8 : Nat) : Int) = y by omega]
  have hZ : sumF T S P n x y time = fsumTo (ddF T S P x y time) n := rfl
  have hM := ddF_mg hD.aq hP hx hy t1 (by omega : time ≤ 100000)
  have hDD : ∀ i, i < n → ddF T S P x y time i = ddX T S (P i).rt (x - (P i).px) (y - (P i).py) time := fun i hi => rfl
  have HDD := Lib.hid hDD
  clear hDD
  generalize ddF T S P x y time = D at *
  generalize sumF T S P n x y time = Z at *
  generalize fldF T S P n time = FD at *
  have HZ := Lib.hid hZ
  clear hZ
  have hdn := fun g1 g2 u1 u2 w' h1 h2 => sameNumbers_one n D g1 g2 u1 u2 w' h1 h2
  have hnz := fun w' => sameNumberS_cn (x := Z) (y := Z) rfl w'
  have hsf := fun w' => sameFieldS_one FD w'
  generalize txtWl P n = TX at *
  go_upto_region 9 with (first | (go_at_call 10; refine (htx _ hS).mono ?_; rintro e W6 ⟨rfl, hbp⟩; replace hS := hS.below hbp; clear hbp) | (go_at_call 9; refine (hrd _ hS).mono ?_; rintro e W7 ⟨v10, rfl, hBk, hbp⟩; replace hS := hS.below hbp; clear hbp))
  clear htx hrd
  go_upto_region 10 with (first | (refine wpList_load_blk rfl rfl rfl rowAq hS.aq rfl ?_) | (go_at_call 11; refine (hd1 _ hS).mono ?_; rintro e W8 ⟨v12, g12, rfl, hg12, hO12, hbp⟩; replace hS := hS.below hbp; replace hBk := hBk.below hbp; clear hbp hg12))
  clear hd1
  go_upto_region 11 with (first | (refine wpList_load_blk rfl rfl rfl rowAq hS.aq rfl ?_) | (go_at_call 12; refine (hd2 _ hS).mono ?_; rintro e W9 ⟨v14, g14, rfl, hg14, hO14, hbp⟩; replace hS := hS.below hbp; replace hBk := hBk.below hbp; replace hO12 := hO12.below hbp hO12.lt; clear hbp hg14))
  clear hd2
  go_upto_region 12 with (first | (refine wpList_load_blk rfl rfl rfl rowAq hS.aq rfl ?_) | (go_at_call 13; refine (hs1 _ hS).mono ?_; rintro e W10 ⟨rfl, hbp⟩; replace hS := hS.below hbp; replace hBk := hBk.below hbp; replace hO12 := hO12.below hbp hO12.lt; replace hO14 := hO14.below hbp hO14.lt; clear hbp))
  clear hs1
  go_upto_region 13 with (first | (refine wpList_load_blk rfl rfl rfl rowAq hS.aq rfl ?_) | (go_at_call 14; refine (hs2 _ hS).mono ?_; rintro e W11 ⟨rfl, hbp⟩; replace hS := hS.below hbp; replace hBk := hBk.below hbp; replace hO12 := hO12.below hbp hO12.lt; replace hO14 := hO14.below hbp hO14.lt; clear hbp))
  clear hs2
  go_upto_region 14 with (first | (refine wpList_load_blk rfl rfl rfl rowAq hS.aq rfl ?_) | (go_at_call 15; refine (hf1 _ hS).mono ?_; rintro e W12 ⟨rfl, hbp⟩; replace hS := hS.below hbp; replace hBk := hBk.below hbp; replace hO12 := hO12.below hbp hO12.lt; replace hO14 := hO14.below hbp hO14.lt; clear hbp) | (refine wpList_alloc_as rfl rfl zero64 ?_) | (refine wpList_store_last rfl rfl rfl rfl rfl (by rw [fls_size]; kernel_rfl) (by rw [fls_size, fls_size]) (List.all_eq_true.2 (fls_one _ _)) ?_))
  have hF1 := Blk.new W12 (fls 64 FD).toArray 40
  replace hS := hS.below (below1 W12 (.cells (fls 64 FD).toArray 40))
  replace hBk := hBk.below (below1 W12 (.cells (fls 64 FD).toArray 40))
  replace hO12 := hO12.alloc (.cells (fls 64 FD).toArray 40)
  replace hO14 := hO14.alloc (.cells (fls 64 FD).toArray 40)
  generalize W12.alloc (.cells (fls 64 FD).toArray 40) = W13 at *
  obtain ⟨p20, hp20⟩ : ∃ p, W12.heap.size = p := ⟨_, rfl⟩
  rw [hp20] at hF1 ⊢
  clear hp20 hf1
  go_upto_region 15 with (first | (refine wpList_load_blk rfl rfl rfl rowAq hS.aq rfl ?_) | (go_at_call 16; refine (hf2 _ hS).mono ?_; rintro e W14 ⟨rfl, hbp⟩; replace hS := hS.below hbp; replace hBk := hBk.below hbp; replace hO12 := hO12.below hbp hO12.lt; replace hO14 := hO14.below hbp hO14.lt; replace hF1 := hF1.below hbp hF1.lt; clear hbp) | (refine wpList_alloc_as rfl rfl zero64 ?_) | (refine wpList_store_last rfl rfl rfl rfl rfl (by rw [fls_size]; kernel_rfl) (by rw [fls_size, fls_size]) (List.all_eq_true.2 (fls_one _ _)) ?_))
  have hF2 := Blk.new W14 (fls 64 FD).toArray 40
  replace hS := hS.below (below1 W14 (.cells (fls 64 FD).toArray 40))
  replace hBk := hBk.below (below1 W14 (.cells (fls 64 FD).toArray 40))
  replace hO12 := hO12.alloc (.cells (fls 64 FD).toArray 40)
  replace hO14 := hO14.alloc (.cells (fls 64 FD).toArray 40)
  replace hF1 := hF1.alloc (.cells (fls 64 FD).toArray 40)
  generalize W14.alloc (.cells (fls 64 FD).toArray 40) = W15 at *
  obtain ⟨p22, hp22⟩ : ∃ p, W14.heap.size = p := ⟨_, rfl⟩
  rw [hp22] at hF2 ⊢
  clear hp22 hf2
  obtain ⟨c14, rfl, hc14, hc14m⟩ := hO14.form
  obtain ⟨au, cu, rfl, hcu, hcum, _⟩ := id hS.wl
  unfold maxLen at hc14m hcum
  obtain ⟨K, hK⟩ : ∃ K, (x + 8 * y).toNat = K := ⟨_, rfl⟩
  have hK64 : K < 64 := by omega
  have hKi : x + 8 * y = (K : Int) := by omega
  have hcz : (fls 64 FD).toArray[K]? = some (.float .f32 Z) := by
    rw [← hcell, hK]
    simpa using fls_get 64 FD K hK64
  have hw8 : wrap64 (8 * y) = 8 * y := by unfold wrap64; omega
  have hwx : wrap64 (x + 8 * y) = (K : Int) := by unfold wrap64; omega
  have hnn : ((n : Int) != n) = false := by simp
  have bK : (0 : Int) ≤ K := by omega
  have bK2 : (K : Int) < 64 := by omega
  go_cut [195] from 114 to 195 (fun c wx => c = .bool false ∧ StD w p5 T S (.slice au n cu) n P wx ∧ Own wx g14 24 1 (.slice (some ⟨g14, 0, none⟩) n c14) n (fls n D))
  case first =>
    go_wp2_with (first | (refine wpList_load_wantD rfl rfl rfl row64 hF1 (fls_size _ _) ?_) | (refine wpList_load_wantD rfl rfl rfl row64 hF2 (fls_size _ _) ?_) | (go_at_call 17; refine (hsw _ _ hBk hS.wl).mono ?_; rintro e w' ⟨rfl, mm, rfl⟩; replace hS := hS.below (below_drewN (Below.refl _ _) mm); replace hBk := hBk.below (below_drewN (Below.refl _ _) mm); replace hO12 := hO12.drewN mm; replace hO14 := hO14.drewN mm; replace hF1 := hF1.drewN mm; replace hF2 := hF2.drewN mm) | (go_at_call 18; refine (hsi _ _ hBk hS.wl).mono ?_; rintro e Wa ⟨rfl, hbp⟩; replace hS := hS.below hbp; replace hBk := hBk.below hbp; replace hO12 := hO12.below hbp hO12.lt; replace hO14 := hO14.below hbp hO14.lt; replace hF1 := hF1.below hbp hF1.lt; replace hF2 := hF2.below hbp hF2.lt; clear hbp; have ca0 : Wa.cell? ⟨p5, 0, none⟩ = some (.float .f32 T) := hS.aq.cell 0; have ca1 : Wa.cell? ⟨p5, 1, none⟩ = some (.float .f32 S) := hS.aq.cell 1) | (go_at_call 19; refine (hva _).mono ?_; rintro e Wb ⟨rfl, hbp⟩; replace hS := hS.below hbp; replace hBk := hBk.below hbp; replace hO12 := hO12.below hbp hO12.lt; replace hO14 := hO14.below hbp hO14.lt; replace hF1 := hF1.below hbp hF1.lt; replace hF2 := hF2.below hbp hF2.lt; clear hbp) | (go_at_call 20; refine (hdn _ _ _ _ _ hO12 hO14).mono ?_; rintro e w' ⟨rfl, mm, rfl⟩; replace hS := hS.below (below_drewN (Below.refl _ _) mm); replace hBk := hBk.below (below_drewN (Below.refl _ _) mm); replace hO12 := hO12.drewN mm; replace hO14 := hO14.drewN mm; replace hF1 := hF1.drewN mm; replace hF2 := hF2.drewN mm) | (go_at_call 21; refine (hnz _).mono ?_; rintro e w' ⟨rfl, hw⟩; rw [hw]; clear hw w') | (go_at_call 22; refine (hsf _).mono ?_; rintro e Wc ⟨rfl, hbp⟩; replace hS := hS.below hbp; replace hBk := hBk.below hbp; replace hO12 := hO12.below hbp hO12.lt; replace hO14 := hO14.below hbp hO14.lt; replace hF1 := hF1.below hbp hF1.lt; replace hF2 := hF2.below hbp hF2.lt; clear hbp; have cz : Wc.cell? ⟨p22, K, none⟩ = some (.float .f32 Z) := (hF2.cell K).trans hcz))
    go_meet
    exact ⟨rfl, hS, hO14⟩
  case rest =>
    obtain ⟨rfl, hSc, hOc⟩ := hcut
    clear hS hBk hO12 hO14 hF1 hF2 hsw hsi hdn hsf hcz hK hKi hw8 hwx hcell
    have hS := hSc
    have hO14 := hOc
    clear hSc hOc
    have bn0 : (0 : Int) ≤ n := by omega
    have hn0 : fsumTo D 0 = 0 := rfl
    go_wp2_with fail
    go_loopw [24, 25] (fun tt i wr => ∃ k : Nat, k ≤ n ∧ i = .int .i64 k ∧ tt = .float .f32 (fsumTo D k) ∧ StD w p5 T S (.slice au n cu) n P wr ∧ Own wr g14 24 1 (.slice (some ⟨g14, 0, none⟩) n c14) n (fls n D)) (fun _ i _ => n - (intOf i).toNat)
    case atStart => exact ⟨0, by omega, rfl, rfl, hS, hO14⟩
    case round =>
      clear hS hO14
      obtain ⟨k, hk, rfl, rfl, hS, hO14⟩ := hrel
      have bk : (0 : Int) ≤ k := by omega
      by_cases hlt : k < n
      · have bl : (k : Int) < n := by omega
        obtain ⟨aw, cw, hv3, _, _, hcell⟩ := id hS.wl
        obtain ⟨rfl, rfl⟩ : au = aw ∧ cu = cw := by simpa using hv3
        obtain ⟨b, o, rfl, lb0, hcell⟩ := hcell.resolve_left (by omega)
        have z00 : wr.cell? ⟨b, o + k * 3, none⟩ = some (.int .i8 (P k).px) := (hcell k 0 hlt (by omega)).trans (P k).get0
        have z01 : wr.cell? ⟨b, o + k * 3 + 1, none⟩ = some (.int .i8 (P k).py) := (hcell k 1 hlt (by omega)).trans (P k).get1
        have z02 : wr.cell? ⟨b, o + k * 3 + 2, none⟩ = some (.float .f32 (P k).rt) := (hcell k 2 hlt (by omega)).trans (P k).get2
        clear hcell hv3
        have q1 := fun w' => drawdownAt_any T S hD (P k) (hP k hlt) x y hx hy time t1 (by omega) w'
        have q2 := fun w' => argumentAt_any T S hD (P k) (hP k hlt) x y hx hy time t1 (by omega) w'
        have q3 := fun w' => specArgumentAt_any T S hD (P k) (hP k hlt) x y hx hy time t1 (by omega) w'
        have q4 : ∀ (sp : Int), (time : Int) ≤ sp → sp < time + 9 → ∀ w', Calls Tryz.prog 26 #[.agg #[.float .f32 T, .float .f32 S], .agg (P k).cells, .int .i64 x, .int .i64 y, .int .i64 sp, .int .i64 time] w' fun e w'' => e = .returned (.tuple #[.float .f32 (ddX T S (P k).rt (x - (P k).px) (y - (P k).py) time), .int .i64 0]) ∧ Below w'.heap.size w' w'' := fun sp a b w' => by
          obtain ⟨m, rfl⟩ : ∃ m : Nat, sp = m := ⟨sp.toNat, by omega⟩
          exact recoveryAt_any T S hD (P k) (hP k hlt) x y hx hy time t1 (by omega) m (by omega) (by omega) w'
        have q5 := fun w' => validWell_any (P k).px (P k).py (P k).rt (hP k hlt).ok.1 (hP k hlt).ok.2.1 w'
        rw [(hP k hlt).ok.2.2.1] at q5
        have hDk := HDD.out k hlt
        rw [← hDk] at q1 q4
        clear hDk
        have hdk := hM k hlt
        generalize argV T S (x - (P k).px) (y - (P k).py) time = U at *
        have hnD := fun w' => sameNumberS_cn (x := D k) (y := D k) rfl w'
        have hnU := fun w' => sameNumberS_cn (x := U) (y := U) rfl w'
        rw [(P k).cells_eq] at q1 q2 q3 q4
        have hS0 := hS
        have hO0 := hO14
        clear hS hO14
        go_upto_region 21 with fail
        refine wp_loose (C := fun w' => Below wr.heap.size wr w') (R := fun w w' => Below w.heap.size w w') (F := fun _ dd vv => match dd, vv with
          | 203, vv => vv = .agg (#[.float .f32 T, .float .f32 S])
          | 204, vv => vv = .slice (some ⟨b, o, none⟩) n cu
          | 205, vv => vv = .int .i64 k
          | 206, vv => vv = .pointer (some ⟨b, o + k * 3, none⟩)
          | 207, vv => vv = .agg (#[.int .i8 (P k).px, .int .i8 (P k).py, .float .f32 (P k).rt])
          | 208, vv => vv = .int .i64 x
          | 209, vv => vv = .int .i64 y
          | 210, vv => vv = .int .i64 time
          | 211, vv => vv = .tuple #[.float .f32 (D k), .int .i64 0]
          | 202, vv => vv = .tuple #[.float .f32 (D k), .int .i64 0]
          | 212, vv => vv = .float .f32 (D k)
          | 213, vv => vv = .int .i64 0
          | 26, vv => vv = .float .f32 (D k)
          | 27, vv => vv = .int .i64 0
          | _, _ => True) (fun _ _ _ _ _ h => h) (by kernel_rfl) (by kernel_rfl) (by kernel_rfl) (Below.refl _ _).drew ?_ ?_
        · refine steps_cons (step_go rfl fun ev w1 hC kn => ?_) ?_
          · have e1 : ev (.tmp 5) = .pointer (some ⟨p5, 0, none⟩) := kn.out 5 rfl rfl rfl
            exact good_of (v := .agg (#[.float .f32 T, .float .f32 S])) rfl (load_blk e1 rowAq (hS0.aq.below hC hS0.aq.lt) rfl) hC (Below.refl _ _) rfl
          refine steps_cons (step_go rfl fun ev w1 hC kn => ?_) ?_
          · have e1 : ev (.tmp 6) = .slice (some ⟨b, o, none⟩) n cu := kn.out 6 rfl rfl rfl
            exact good_of (v := .slice (some ⟨b, o, none⟩) n cu) rfl (by simp [execOp, e1, kn.con, go_sem]) hC (Below.refl _ _) rfl
          refine steps_cons (step_go rfl fun ev w1 hC kn => ?_) ?_
          · have e1 : ev (.tmp 25) = .int .i64 k := kn.out 25 rfl rfl rfl
            exact good_of (v := .int .i64 k) rfl (by simp [execOp, e1, kn.con, go_sem]) hC (Below.refl _ _) rfl
          refine steps_cons (step_go rfl fun ev w1 hC kn => ?_) ?_
          · have e1 : ev (.tmp 204) = .slice (some ⟨b, o, none⟩) n cu := kn.inn 204 rfl rfl
            have e2 : ev (.tmp 205) = .int .i64 k := kn.inn 205 rfl rfl
            exact good_of (v := .pointer (some ⟨b, o + k * 3, none⟩)) rfl (by simp [execOp, e1, e2, kn.con, go_sem, bk, bl]) hC (Below.refl _ _) rfl
          refine steps_cons (step_go rfl fun ev w1 hC kn => ?_) ?_
          · have e1 : ev (.tmp 206) = .pointer (some ⟨b, o + k * 3, none⟩) := kn.inn 206 rfl rfl
            exact good_of (v := .agg (#[.int .i8 (P k).px, .int .i8 (P k).py, .float .f32 (P k).rt])) rfl (load_well3 e1 (below_cell hC lb0 z00) (below_cell hC lb0 z01) (below_cell hC lb0 z02)) hC (Below.refl _ _) rfl
          refine steps_cons (step_go rfl fun ev w1 hC kn => ?_) ?_
          · have e1 : ev (.tmp 7) = .int .i64 x := kn.out 7 rfl rfl rfl
            exact good_of (v := .int .i64 x) rfl (by simp [execOp, e1, kn.con, go_sem]) hC (Below.refl _ _) rfl
          refine steps_cons (step_go rfl fun ev w1 hC kn => ?_) ?_
          · have e1 : ev (.tmp 8) = .int .i64 y := kn.out 8 rfl rfl rfl
            exact good_of (v := .int .i64 y) rfl (by simp [execOp, e1, kn.con, go_sem]) hC (Below.refl _ _) rfl
          refine steps_cons (step_go rfl fun ev w1 hC kn => ?_) ?_
          · have e1 : ev (.tmp 9) = .int .i64 time := kn.out 9 rfl rfl rfl
            exact good_of (v := .int .i64 time) rfl (by simp [execOp, e1, kn.con, go_sem]) hC (Below.refl _ _) rfl
          refine steps_cons (step_go rfl fun ev w1 hC kn => ?_) ?_
          · have e1 : ev (.tmp 203) = .agg (#[.float .f32 T, .float .f32 S]) := kn.inn 203 rfl rfl
            have e2 : ev (.tmp 207) = .agg (#[.int .i8 (P k).px, .int .i8 (P k).py, .float .f32 (P k).rt]) := kn.inn 207 rfl rfl
            have e3 : ev (.tmp 208) = .int .i64 x := kn.inn 208 rfl rfl
            have e4 : ev (.tmp 209) = .int .i64 y := kn.inn 209 rfl rfl
            have e5 : ev (.tmp 210) = .int .i64 time := kn.inn 210 rfl rfl
            refine good_call (f := 23) (args := #[.agg (#[.float .f32 T, .float .f32 S]), .agg (#[.int .i8 (P k).px, .int .i8 (P k).py, .float .f32 (P k).rt]), .int .i64 x, .int .i64 y, .int .i64 time]) rfl (by simp [execOp, e1, e2, e3, e4, e5, kn.fn, kn.con, go_sem]) ((q1 w1).mono fun e w2 ⟨he, hb⟩ => ⟨_, he, hC.trans (hb.mono hC.size), hb, rfl⟩)
          refine steps_cons (step_go rfl fun ev w1 hC kn => ?_) ?_
          · have e1 : ev (.tmp 211) = .tuple #[.float .f32 (D k), .int .i64 0] := kn.inn 211 rfl rfl
            exact good_of (v := .tuple #[.float .f32 (D k), .int .i64 0]) rfl (by simp [execOp, e1, kn.con, go_sem]) hC (Below.refl _ _) rfl
          refine steps_cons (step_go rfl fun ev w1 hC kn => ?_) ?_
          · have e1 : ev (.tmp 202) = .tuple #[.float .f32 (D k), .int .i64 0] := kn.inn 202 rfl rfl
            exact good_of (v := .float .f32 (D k)) rfl (by simp [execOp, e1, go_sem]) hC (Below.refl _ _) rfl
          refine steps_cons (step_go rfl fun ev w1 hC kn => ?_) ?_
          · have e1 : ev (.tmp 202) = .tuple #[.float .f32 (D k), .int .i64 0] := kn.inn 202 rfl rfl
            exact good_of (v := .int .i64 0) rfl (by simp [execOp, e1, go_sem]) hC (Below.refl _ _) rfl
          refine steps_cons (step_go rfl fun ev w1 hC kn => ?_) ?_
          · have e1 : ev (.tmp 212) = .float .f32 (D k) := kn.inn 212 rfl rfl
            exact good_of (v := .float .f32 (D k)) rfl (by simp [execOp, e1, kn.con, go_sem]) hC (Below.refl _ _) rfl
          refine steps_cons (step_go rfl fun ev w1 hC kn => ?_) ?_
          · have e1 : ev (.tmp 213) = .int .i64 0 := kn.inn 213 rfl rfl
            exact good_of (v := .int .i64 0) rfl (by simp [execOp, e1, kn.con, go_sem]) hC (Below.refl _ _) rfl
          exact steps_nil
        rintro xv wA hxv hC1
        have y26 : xv 26 = .float .f32 (D k) := hxv 26 (by decide)
        have y27 : xv 27 = .int .i64 0 := hxv 27 (by decide)
        simp only [fill, dstsOf, List.filterMap_cons, List.filterMap_nil, List.foldl_cons, List.foldl_nil, List.set_cons_succ, List.set_cons_zero, y26, y27]
        clear hxv y26 y27
        have hS1 := hS0.below hC1
        have z10 := below_cell hC1 lb0 z00
        have z11 := below_cell hC1 lb0 z01
        have z12 := below_cell hC1 lb0 z02
        have lb1 := Nat.lt_of_lt_of_le lb0 hC1.size
        have hO1 := hO0.below hC1 hO0.lt
        go_upto_region 22 with fail
        refine wp_loose (C := fun w' => Below wA.heap.size wA w') (R := fun w w' => Below w.heap.size w w') (F := fun _ dd vv => match dd, vv with
          | 215, vv => vv = .agg (#[.float .f32 T, .float .f32 S])
          | 216, vv => vv = .slice (some ⟨b, o, none⟩) n cu
          | 217, vv => vv = .int .i64 k
          | 218, vv => vv = .pointer (some ⟨b, o + k * 3, none⟩)
          | 219, vv => vv = .agg (#[.int .i8 (P k).px, .int .i8 (P k).py, .float .f32 (P k).rt])
          | 220, vv => vv = .int .i64 x
          | 221, vv => vv = .int .i64 y
          | 222, vv => vv = .int .i64 time
          | 223, vv => vv = .tuple #[.float .f32 U, .int .i64 0]
          | 214, vv => vv = .tuple #[.float .f32 U, .int .i64 0]
          | 224, vv => vv = .float .f32 U
          | 225, vv => vv = .int .i64 0
          | 28, vv => vv = .float .f32 U
          | 29, vv => vv = .int .i64 0
          | _, _ => True) (fun _ _ _ _ _ h => h) (by kernel_rfl) (by kernel_rfl) (by kernel_rfl) (Below.refl _ _).drew ?_ ?_
        · refine steps_cons (step_go rfl fun ev w1 hC kn => ?_) ?_
          · have e1 : ev (.tmp 5) = .pointer (some ⟨p5, 0, none⟩) := kn.out 5 rfl rfl rfl
            exact good_of (v := .agg (#[.float .f32 T, .float .f32 S])) rfl (load_blk e1 rowAq (hS1.aq.below hC hS1.aq.lt) rfl) hC (Below.refl _ _) rfl
          refine steps_cons (step_go rfl fun ev w1 hC kn => ?_) ?_
          · have e1 : ev (.tmp 6) = .slice (some ⟨b, o, none⟩) n cu := kn.out 6 rfl rfl rfl
            exact good_of (v := .slice (some ⟨b, o, none⟩) n cu) rfl (by simp [execOp, e1, kn.con, go_sem]) hC (Below.refl _ _) rfl
          refine steps_cons (step_go rfl fun ev w1 hC kn => ?_) ?_
          · have e1 : ev (.tmp 25) = .int .i64 k := kn.out 25 rfl rfl rfl
            exact good_of (v := .int .i64 k) rfl (by simp [execOp, e1, kn.con, go_sem]) hC (Below.refl _ _) rfl
          refine steps_cons (step_go rfl fun ev w1 hC kn => ?_) ?_
          · have e1 : ev (.tmp 216) = .slice (some ⟨b, o, none⟩) n cu := kn.inn 216 rfl rfl
            have e2 : ev (.tmp 217) = .int .i64 k := kn.inn 217 rfl rfl
            exact good_of (v := .pointer (some ⟨b, o + k * 3, none⟩)) rfl (by simp [execOp, e1, e2, kn.con, go_sem, bk, bl]) hC (Below.refl _ _) rfl
          refine steps_cons (step_go rfl fun ev w1 hC kn => ?_) ?_
          · have e1 : ev (.tmp 218) = .pointer (some ⟨b, o + k * 3, none⟩) := kn.inn 218 rfl rfl
            exact good_of (v := .agg (#[.int .i8 (P k).px, .int .i8 (P k).py, .float .f32 (P k).rt])) rfl (load_well3 e1 (below_cell hC lb1 z10) (below_cell hC lb1 z11) (below_cell hC lb1 z12)) hC (Below.refl _ _) rfl
          refine steps_cons (step_go rfl fun ev w1 hC kn => ?_) ?_
          · have e1 : ev (.tmp 7) = .int .i64 x := kn.out 7 rfl rfl rfl
            exact good_of (v := .int .i64 x) rfl (by simp [execOp, e1, kn.con, go_sem]) hC (Below.refl _ _) rfl
          refine steps_cons (step_go rfl fun ev w1 hC kn => ?_) ?_
          · have e1 : ev (.tmp 8) = .int .i64 y := kn.out 8 rfl rfl rfl
            exact good_of (v := .int .i64 y) rfl (by simp [execOp, e1, kn.con, go_sem]) hC (Below.refl _ _) rfl
          refine steps_cons (step_go rfl fun ev w1 hC kn => ?_) ?_
          · have e1 : ev (.tmp 9) = .int .i64 time := kn.out 9 rfl rfl rfl
            exact good_of (v := .int .i64 time) rfl (by simp [execOp, e1, kn.con, go_sem]) hC (Below.refl _ _) rfl
          refine steps_cons (step_go rfl fun ev w1 hC kn => ?_) ?_
          · have e1 : ev (.tmp 215) = .agg (#[.float .f32 T, .float .f32 S]) := kn.inn 215 rfl rfl
            have e2 : ev (.tmp 219) = .agg (#[.int .i8 (P k).px, .int .i8 (P k).py, .float .f32 (P k).rt]) := kn.inn 219 rfl rfl
            have e3 : ev (.tmp 220) = .int .i64 x := kn.inn 220 rfl rfl
            have e4 : ev (.tmp 221) = .int .i64 y := kn.inn 221 rfl rfl
            have e5 : ev (.tmp 222) = .int .i64 time := kn.inn 222 rfl rfl
            refine good_call (f := 24) (args := #[.agg (#[.float .f32 T, .float .f32 S]), .agg (#[.int .i8 (P k).px, .int .i8 (P k).py, .float .f32 (P k).rt]), .int .i64 x, .int .i64 y, .int .i64 time]) rfl (by simp [execOp, e1, e2, e3, e4, e5, kn.fn, kn.con, go_sem]) ((q2 w1).mono fun e w2 ⟨he, hb⟩ => ⟨_, he, hC.trans (hb.mono hC.size), hb, rfl⟩)
          refine steps_cons (step_go rfl fun ev w1 hC kn => ?_) ?_
          · have e1 : ev (.tmp 223) = .tuple #[.float .f32 U, .int .i64 0] := kn.inn 223 rfl rfl
            exact good_of (v := .tuple #[.float .f32 U, .int .i64 0]) rfl (by simp [execOp, e1, kn.con, go_sem]) hC (Below.refl _ _) rfl
          refine steps_cons (step_go rfl fun ev w1 hC kn => ?_) ?_
          · have e1 : ev (.tmp 214) = .tuple #[.float .f32 U, .int .i64 0] := kn.inn 214 rfl rfl
            exact good_of (v := .float .f32 U) rfl (by simp [execOp, e1, go_sem]) hC (Below.refl _ _) rfl
          refine steps_cons (step_go rfl fun ev w1 hC kn => ?_) ?_
          · have e1 : ev (.tmp 214) = .tuple #[.float .f32 U, .int .i64 0] := kn.inn 214 rfl rfl
            exact good_of (v := .int .i64 0) rfl (by simp [execOp, e1, go_sem]) hC (Below.refl _ _) rfl
          refine steps_cons (step_go rfl fun ev w1 hC kn => ?_) ?_
          · have e1 : ev (.tmp 224) = .float .f32 U := kn.inn 224 rfl rfl
            exact good_of (v := .float .f32 U) rfl (by simp [execOp, e1, kn.con, go_sem]) hC (Below.refl _ _) rfl
          refine steps_cons (step_go rfl fun ev w1 hC kn => ?_) ?_
          · have e1 : ev (.tmp 225) = .int .i64 0 := kn.inn 225 rfl rfl
            exact good_of (v := .int .i64 0) rfl (by simp [execOp, e1, kn.con, go_sem]) hC (Below.refl _ _) rfl
          exact steps_nil
        rintro xv wB hxv hC2
        have y28 : xv 28 = .float .f32 U := hxv 28 (by decide)
        have y29 : xv 29 = .int .i64 0 := hxv 29 (by decide)
        simp only [fill, dstsOf, List.filterMap_cons, List.filterMap_nil, List.foldl_cons, List.foldl_nil, List.set_cons_succ, List.set_cons_zero, y28, y29]
        clear hxv y28 y29
        have hS2 := hS1.below hC2
        have z20 := below_cell hC2 lb1 z10
        have z21 := below_cell hC2 lb1 z11
        have z22 := below_cell hC2 lb1 z12
        have lb2 := Nat.lt_of_lt_of_le lb1 hC2.size
        have hO2 := hO1.below hC2 hO1.lt
        go_upto_region 23 with fail
        refine wp_loose (C := fun w' => Below wB.heap.size wB w') (R := fun w w' => Below w.heap.size w w') (F := fun _ dd vv => match dd, vv with
          | 227, vv => vv = .agg (#[.float .f32 T, .float .f32 S])
          | 228, vv => vv = .slice (some ⟨b, o, none⟩) n cu
          | 229, vv => vv = .int .i64 k
          | 230, vv => vv = .pointer (some ⟨b, o + k * 3, none⟩)
          | 231, vv => vv = .agg (#[.int .i8 (P k).px, .int .i8 (P k).py, .float .f32 (P k).rt])
          | 232, vv => vv = .int .i64 x
          | 233, vv => vv = .int .i64 y
          | 234, vv => vv = .int .i64 time
          | 235, vv => vv = .tuple #[.float .f32 U, .int .i64 0]
          | 226, vv => vv = .tuple #[.float .f32 U, .int .i64 0]
          | 236, vv => vv = .float .f32 U
          | 237, vv => vv = .int .i64 0
          | 30, vv => vv = .float .f32 U
          | 31, vv => vv = .int .i64 0
          | _, _ => True) (fun _ _ _ _ _ h => h) (by kernel_rfl) (by kernel_rfl) (by kernel_rfl) (Below.refl _ _).drew ?_ ?_
        · refine steps_cons (step_go rfl fun ev w1 hC kn => ?_) ?_
          · have e1 : ev (.tmp 5) = .pointer (some ⟨p5, 0, none⟩) := kn.out 5 rfl rfl rfl
            exact good_of (v := .agg (#[.float .f32 T, .float .f32 S])) rfl (load_blk e1 rowAq (hS2.aq.below hC hS2.aq.lt) rfl) hC (Below.refl _ _) rfl
          refine steps_cons (step_go rfl fun ev w1 hC kn => ?_) ?_
          · have e1 : ev (.tmp 6) = .slice (some ⟨b, o, none⟩) n cu := kn.out 6 rfl rfl rfl
            exact good_of (v := .slice (some ⟨b, o, none⟩) n cu) rfl (by simp [execOp, e1, kn.con, go_sem]) hC (Below.refl _ _) rfl
          refine steps_cons (step_go rfl fun ev w1 hC kn => ?_) ?_
          · have e1 : ev (.tmp 25) = .int .i64 k := kn.out 25 rfl rfl rfl
            exact good_of (v := .int .i64 k) rfl (by simp [execOp, e1, kn.con, go_sem]) hC (Below.refl _ _) rfl
          refine steps_cons (step_go rfl fun ev w1 hC kn => ?_) ?_
          · have e1 : ev (.tmp 228) = .slice (some ⟨b, o, none⟩) n cu := kn.inn 228 rfl rfl
            have e2 : ev (.tmp 229) = .int .i64 k := kn.inn 229 rfl rfl
            exact good_of (v := .pointer (some ⟨b, o + k * 3, none⟩)) rfl (by simp [execOp, e1, e2, kn.con, go_sem, bk, bl]) hC (Below.refl _ _) rfl
          refine steps_cons (step_go rfl fun ev w1 hC kn => ?_) ?_
          · have e1 : ev (.tmp 230) = .pointer (some ⟨b, o + k * 3, none⟩) := kn.inn 230 rfl rfl
            exact good_of (v := .agg (#[.int .i8 (P k).px, .int .i8 (P k).py, .float .f32 (P k).rt])) rfl (load_well3 e1 (below_cell hC lb2 z20) (below_cell hC lb2 z21) (below_cell hC lb2 z22)) hC (Below.refl _ _) rfl
          refine steps_cons (step_go rfl fun ev w1 hC kn => ?_) ?_
          · have e1 : ev (.tmp 7) = .int .i64 x := kn.out 7 rfl rfl rfl
            exact good_of (v := .int .i64 x) rfl (by simp [execOp, e1, kn.con, go_sem]) hC (Below.refl _ _) rfl
          refine steps_cons (step_go rfl fun ev w1 hC kn => ?_) ?_
          · have e1 : ev (.tmp 8) = .int .i64 y := kn.out 8 rfl rfl rfl
            exact good_of (v := .int .i64 y) rfl (by simp [execOp, e1, kn.con, go_sem]) hC (Below.refl _ _) rfl
          refine steps_cons (step_go rfl fun ev w1 hC kn => ?_) ?_
          · have e1 : ev (.tmp 9) = .int .i64 time := kn.out 9 rfl rfl rfl
            exact good_of (v := .int .i64 time) rfl (by simp [execOp, e1, kn.con, go_sem]) hC (Below.refl _ _) rfl
          refine steps_cons (step_go rfl fun ev w1 hC kn => ?_) ?_
          · have e1 : ev (.tmp 227) = .agg (#[.float .f32 T, .float .f32 S]) := kn.inn 227 rfl rfl
            have e2 : ev (.tmp 231) = .agg (#[.int .i8 (P k).px, .int .i8 (P k).py, .float .f32 (P k).rt]) := kn.inn 231 rfl rfl
            have e3 : ev (.tmp 232) = .int .i64 x := kn.inn 232 rfl rfl
            have e4 : ev (.tmp 233) = .int .i64 y := kn.inn 233 rfl rfl
            have e5 : ev (.tmp 234) = .int .i64 time := kn.inn 234 rfl rfl
            refine good_call (f := 25) (args := #[.agg (#[.float .f32 T, .float .f32 S]), .agg (#[.int .i8 (P k).px, .int .i8 (P k).py, .float .f32 (P k).rt]), .int .i64 x, .int .i64 y, .int .i64 time]) rfl (by simp [execOp, e1, e2, e3, e4, e5, kn.fn, kn.con, go_sem]) ((q3 w1).mono fun e w2 ⟨he, hb⟩ => ⟨_, he, hC.trans (hb.mono hC.size), hb, rfl⟩)
          refine steps_cons (step_go rfl fun ev w1 hC kn => ?_) ?_
          · have e1 : ev (.tmp 235) = .tuple #[.float .f32 U, .int .i64 0] := kn.inn 235 rfl rfl
            exact good_of (v := .tuple #[.float .f32 U, .int .i64 0]) rfl (by simp [execOp, e1, kn.con, go_sem]) hC (Below.refl _ _) rfl
          refine steps_cons (step_go rfl fun ev w1 hC kn => ?_) ?_
          · have e1 : ev (.tmp 226) = .tuple #[.float .f32 U, .int .i64 0] := kn.inn 226 rfl rfl
            exact good_of (v := .float .f32 U) rfl (by simp [execOp, e1, go_sem]) hC (Below.refl _ _) rfl
          refine steps_cons (step_go rfl fun ev w1 hC kn => ?_) ?_
          · have e1 : ev (.tmp 226) = .tuple #[.float .f32 U, .int .i64 0] := kn.inn 226 rfl rfl
            exact good_of (v := .int .i64 0) rfl (by simp [execOp, e1, go_sem]) hC (Below.refl _ _) rfl
          refine steps_cons (step_go rfl fun ev w1 hC kn => ?_) ?_
          · have e1 : ev (.tmp 236) = .float .f32 U := kn.inn 236 rfl rfl
            exact good_of (v := .float .f32 U) rfl (by simp [execOp, e1, kn.con, go_sem]) hC (Below.refl _ _) rfl
          refine steps_cons (step_go rfl fun ev w1 hC kn => ?_) ?_
          · have e1 : ev (.tmp 237) = .int .i64 0 := kn.inn 237 rfl rfl
            exact good_of (v := .int .i64 0) rfl (by simp [execOp, e1, kn.con, go_sem]) hC (Below.refl _ _) rfl
          exact steps_nil
        rintro xv wC hxv hC3
        have y30 : xv 30 = .float .f32 U := hxv 30 (by decide)
        have y31 : xv 31 = .int .i64 0 := hxv 31 (by decide)
        simp only [fill, dstsOf, List.filterMap_cons, List.filterMap_nil, List.foldl_cons, List.foldl_nil, List.set_cons_succ, List.set_cons_zero, y30, y31]
        clear hxv y30 y31
        have hpk := fun w' (h : Below wC.heap.size wC w') => hpk2 9 (by decide) (by decide) w' ((hS2.below hC3).below h).bel
        have hS3 := hS2.below hC3
        have z30 := below_cell hC3 lb2 z20
        have z31 := below_cell hC3 lb2 z21
        have z32 := below_cell hC3 lb2 z22
        have lb3 := Nat.lt_of_lt_of_le lb2 hC3.size
        have hO3 := hO2.below hC3 hO2.lt
        go_upto_region 24 with fail
        refine wp_loose (C := fun w' => Below wC.heap.size wC w') (R := fun w w' => Below w.heap.size w w') (F := fun _ dd vv => match dd, vv with
          | 239, vv => vv = .agg (#[.float .f32 T, .float .f32 S])
          | 240, vv => vv = .slice (some ⟨b, o, none⟩) n cu
          | 241, vv => vv = .int .i64 k
          | 242, vv => vv = .pointer (some ⟨b, o + k * 3, none⟩)
          | 243, vv => vv = .agg (#[.int .i8 (P k).px, .int .i8 (P k).py, .float .f32 (P k).rt])
          | 244, vv => vv = .int .i64 x
          | 245, vv => vv = .int .i64 y
          | 246, vv => vv = .int .i64 time
          | 247, vv => vv = .slice a2 n2 c2
          | 248, vv => ∃ zz : Int, vv = .int .i64 zz ∧ 0 ≤ zz ∧ zz < 9
          | 249, vv => ∃ zz : Int, vv = .int .i64 zz ∧ time ≤ zz ∧ zz < (time + 9)
          | 250, vv => vv = .int .i64 time
          | 251, vv => vv = .tuple #[.float .f32 (D k), .int .i64 0]
          | 238, vv => vv = .tuple #[.float .f32 (D k), .int .i64 0]
          | 252, vv => vv = .float .f32 (D k)
          | 253, vv => vv = .int .i64 0
          | 32, vv => vv = .float .f32 (D k)
          | 33, vv => vv = .int .i64 0
          | _, _ => True) (fun _ _ _ _ _ h => h) (by kernel_rfl) (by kernel_rfl) (by kernel_rfl) (Below.refl _ _).drew ?_ ?_
        · refine steps_cons (step_go rfl fun ev w1 hC kn => ?_) ?_
          · have e1 : ev (.tmp 5) = .pointer (some ⟨p5, 0, none⟩) := kn.out 5 rfl rfl rfl
            exact good_of (v := .agg (#[.float .f32 T, .float .f32 S])) rfl (load_blk e1 rowAq (hS3.aq.below hC hS3.aq.lt) rfl) hC (Below.refl _ _) rfl
          refine steps_cons (step_go rfl fun ev w1 hC kn => ?_) ?_
          · have e1 : ev (.tmp 6) = .slice (some ⟨b, o, none⟩) n cu := kn.out 6 rfl rfl rfl
            exact good_of (v := .slice (some ⟨b, o, none⟩) n cu) rfl (by simp [execOp, e1, kn.con, go_sem]) hC (Below.refl _ _) rfl
          refine steps_cons (step_go rfl fun ev w1 hC kn => ?_) ?_
          · have e1 : ev (.tmp 25) = .int .i64 k := kn.out 25 rfl rfl rfl
            exact good_of (v := .int .i64 k) rfl (by simp [execOp, e1, kn.con, go_sem]) hC (Below.refl _ _) rfl
          refine steps_cons (step_go rfl fun ev w1 hC kn => ?_) ?_
          · have e1 : ev (.tmp 240) = .slice (some ⟨b, o, none⟩) n cu := kn.inn 240 rfl rfl
            have e2 : ev (.tmp 241) = .int .i64 k := kn.inn 241 rfl rfl
            exact good_of (v := .pointer (some ⟨b, o + k * 3, none⟩)) rfl (by simp [execOp, e1, e2, kn.con, go_sem, bk, bl]) hC (Below.refl _ _) rfl
          refine steps_cons (step_go rfl fun ev w1 hC kn => ?_) ?_
          · have e1 : ev (.tmp 242) = .pointer (some ⟨b, o + k * 3, none⟩) := kn.inn 242 rfl rfl
            exact good_of (v := .agg (#[.int .i8 (P k).px, .int .i8 (P k).py, .float .f32 (P k).rt])) rfl (load_well3 e1 (below_cell hC lb3 z30) (below_cell hC lb3 z31) (below_cell hC lb3 z32)) hC (Below.refl _ _) rfl
          refine steps_cons (step_go rfl fun ev w1 hC kn => ?_) ?_
          · have e1 : ev (.tmp 7) = .int .i64 x := kn.out 7 rfl rfl rfl
            exact good_of (v := .int .i64 x) rfl (by simp [execOp, e1, kn.con, go_sem]) hC (Below.refl _ _) rfl
          refine steps_cons (step_go rfl fun ev w1 hC kn => ?_) ?_
          · have e1 : ev (.tmp 8) = .int .i64 y := kn.out 8 rfl rfl rfl
            exact good_of (v := .int .i64 y) rfl (by simp [execOp, e1, kn.con, go_sem]) hC (Below.refl _ _) rfl
          refine steps_cons (step_go rfl fun ev w1 hC kn => ?_) ?_
          · have e1 : ev (.tmp 9) = .int .i64 time := kn.out 9 rfl rfl rfl
            exact good_of (v := .int .i64 time) rfl (by simp [execOp, e1, kn.con, go_sem]) hC (Below.refl _ _) rfl
          refine steps_cons (step_go rfl fun ev w1 hC kn => ?_) ?_
          · have e1 : ev (.tmp 1) = .slice a2 n2 c2 := kn.out 1 rfl rfl rfl
            exact good_of (v := .slice a2 n2 c2) rfl (by simp [execOp, e1, kn.con, go_sem]) hC (Below.refl _ _) rfl
          refine steps_cons (step_go rfl fun ev w1 hC kn => ?_) ?_
          · have e1 : ev (.tmp 247) = .slice a2 n2 c2 := kn.inn 247 rfl rfl
            refine good_call (f := 8) (args := #[.slice a2 n2 c2, .int .i64 9]) rfl (by simp [execOp, e1, kn.fn, kn.con, go_sem]) ((hpk w1 hC).mono fun e w2 ⟨z, z0, z1, he, hb⟩ => ⟨_, he, hC.trans (hb.mono hC.size), hb, z, rfl, z0, z1⟩)
          refine steps_cons (step_go rfl fun ev w1 hC kn => ?_) ?_
          · have e1 : ev (.tmp 246) = .int .i64 time := kn.inn 246 rfl rfl
            obtain ⟨z2, e2, l2, u2⟩ : ∃ zz : Int, ev (.tmp 248) = .int .i64 zz ∧ 0 ≤ zz ∧ zz < 9 := kn.inn 248 rfl rfl
            exact good_of (v := .int .i64 (time + z2)) rfl (by have wz : IntKind.i64.wrap ((time : Int) + z2) = (time : Int) + z2 := (by rw [IntKind.wrap_i64]; omega); simp [execOp, e1, e2, kn.con, go_sem, wz]) hC (Below.refl _ _) ⟨_, rfl, by omega, by omega⟩
          refine steps_cons (step_go rfl fun ev w1 hC kn => ?_) ?_
          · have e1 : ev (.tmp 9) = .int .i64 time := kn.out 9 rfl rfl rfl
            exact good_of (v := .int .i64 time) rfl (by simp [execOp, e1, kn.con, go_sem]) hC (Below.refl _ _) rfl
          refine steps_cons (step_go rfl fun ev w1 hC kn => ?_) ?_
          · have e1 : ev (.tmp 239) = .agg (#[.float .f32 T, .float .f32 S]) := kn.inn 239 rfl rfl
            have e2 : ev (.tmp 243) = .agg (#[.int .i8 (P k).px, .int .i8 (P k).py, .float .f32 (P k).rt]) := kn.inn 243 rfl rfl
            have e3 : ev (.tmp 244) = .int .i64 x := kn.inn 244 rfl rfl
            have e4 : ev (.tmp 245) = .int .i64 y := kn.inn 245 rfl rfl
            obtain ⟨z5, e5, l5, u5⟩ : ∃ zz : Int, ev (.tmp 249) = .int .i64 zz ∧ time ≤ zz ∧ zz < (time + 9) := kn.inn 249 rfl rfl
            have e6 : ev (.tmp 250) = .int .i64 time := kn.inn 250 rfl rfl
            refine good_call (f := 26) (args := #[.agg (#[.float .f32 T, .float .f32 S]), .agg (#[.int .i8 (P k).px, .int .i8 (P k).py, .float .f32 (P k).rt]), .int .i64 x, .int .i64 y, .int .i64 z5, .int .i64 time]) rfl (by simp [execOp, e1, e2, e3, e4, e5, e6, kn.fn, kn.con, go_sem]) ((q4 z5 l5 u5 w1).mono fun e w2 ⟨he, hb⟩ => ⟨_, he, hC.trans (hb.mono hC.size), hb, rfl⟩)
          refine steps_cons (step_go rfl fun ev w1 hC kn => ?_) ?_
          · have e1 : ev (.tmp 251) = .tuple #[.float .f32 (D k), .int .i64 0] := kn.inn 251 rfl rfl
            exact good_of (v := .tuple #[.float .f32 (D k), .int .i64 0]) rfl (by simp [execOp, e1, kn.con, go_sem]) hC (Below.refl _ _) rfl
          refine steps_cons (step_go rfl fun ev w1 hC kn => ?_) ?_
          · have e1 : ev (.tmp 238) = .tuple #[.float .f32 (D k), .int .i64 0] := kn.inn 238 rfl rfl
            exact good_of (v := .float .f32 (D k)) rfl (by simp [execOp, e1, go_sem]) hC (Below.refl _ _) rfl
          refine steps_cons (step_go rfl fun ev w1 hC kn => ?_) ?_
          · have e1 : ev (.tmp 238) = .tuple #[.float .f32 (D k), .int .i64 0] := kn.inn 238 rfl rfl
            exact good_of (v := .int .i64 0) rfl (by simp [execOp, e1, go_sem]) hC (Below.refl _ _) rfl
          refine steps_cons (step_go rfl fun ev w1 hC kn => ?_) ?_
          · have e1 : ev (.tmp 252) = .float .f32 (D k) := kn.inn 252 rfl rfl
            exact good_of (v := .float .f32 (D k)) rfl (by simp [execOp, e1, kn.con, go_sem]) hC (Below.refl _ _) rfl
          refine steps_cons (step_go rfl fun ev w1 hC kn => ?_) ?_
          · have e1 : ev (.tmp 253) = .int .i64 0 := kn.inn 253 rfl rfl
            exact good_of (v := .int .i64 0) rfl (by simp [execOp, e1, kn.con, go_sem]) hC (Below.refl _ _) rfl
          exact steps_nil
        rintro xv wD hxv hC4
        have y32 : xv 32 = .float .f32 (D k) := hxv 32 (by decide)
        have y33 : xv 33 = .int .i64 0 := hxv 33 (by decide)
        simp only [fill, dstsOf, List.filterMap_cons, List.filterMap_nil, List.foldl_cons, List.foldl_nil, List.set_cons_succ, List.set_cons_zero, y32, y33]
        clear hxv y32 y33
        have hS4 := hS3.below hC4
        have z40 := below_cell hC4 lb3 z30
        have z41 := below_cell hC4 lb3 z31
        have z42 := below_cell hC4 lb3 z32
        have lb4 := Nat.lt_of_lt_of_le lb3 hC4.size
        have hO4 := hO3.below hC4 hO3.lt
        go_upto_region 25 with fail
        have cD : wD.cell? ⟨g14, k, none⟩ = some (.float .f32 (D k)) := (hO4.cell k (by omega)).trans (fls_get n D k hlt)
        clear hS0 hS1 hS2 hS3 hO0 hO1 hO2 hO3 hC1 hC2 hC3 hC4 z00 z01 z02 z10 z11 z12 z20 z21 z22 z30 z31 z32 lb0 lb1 lb2 lb3 hpk q1 q2 q3 q4 hb1 hb2
        go_cut [300] from 254 to 300 (fun c wx => c = .bool false ∧ Below wD.heap.size wD wx)
        case first =>
          go_wp2_with (first | (go_at_call 21; first | (refine (hnD _).mono ?_; rintro e w' ⟨rfl, hw⟩; rw [hw]; clear hw w') | (refine (hnU _).mono ?_; rintro e w' ⟨rfl, hw⟩; rw [hw]; clear hw w')) | (refine wpList_load_wantW rfl rfl rfl z40 z41 z42 ?_) | (go_at_call 27; refine (q5 _).mono ?_; rintro e w' ⟨rfl, hbp⟩))
          go_meet
          exact ⟨rfl, hbp⟩
        case rest =>
          obtain ⟨rfl, hbp⟩ := hcut
          have hS5 := hS4.below hbp
          have hO5 := hO4.below hbp hO4.lt
          have cE : wc.cell? ⟨g14, k, none⟩ = some (.float .f32 (D k)) := (hO5.cell k (by omega)).trans (fls_get n D k hlt)
          by_cases h0 : k = 0
          · subst h0
            go_wp2_with fail
            go_roundw
            case rel => exact ⟨1, by omega, by go_num, by unfold fsumTo; rfl, hS5, hO5⟩
            case measure => simp [intOf]; omega
          · obtain ⟨m, rfl⟩ : ∃ m, k = m + 1 := ⟨k - 1, by omega⟩
            have hst := fsum_step (f := D) (n := m) (by omega) (fun i hi => hM i (by omega))
            obtain ⟨s1, s2⟩ := hst
            go_wp2_with fail
            go_roundw
            case rel => exact ⟨m + 2, by omega, by go_num, rfl, hS5, hO5⟩
            case measure => simp [intOf]; omega
      · obtain rfl : k = n := by omega
        have hZe := HZ.out
        have hnt := fun w' => sameNumberS_cn (x := fsumTo D k) (y := Z) (by rw [hZe]) w'
        generalize fsumTo D k = ZZ at *
        clear hZe
        by_cases h0 : k = 0
        · subst h0
          have hR : bestR 0 D = .tuple #[.int .i64 0, .float .f32 0, .int .i64 6] := rfl
          rw [hR] at hb1
          go_wp2_with (first | (refine wpList_load_blk rfl rfl rfl rowAq hS.aq rfl ?_) | (go_at_call 21; refine (hnt _).mono ?_; rintro e w' ⟨rfl, hw⟩; rw [hw]; clear hw w') | (go_at_call 28; refine (hb1 _ hS).mono ?_; rintro e Wx ⟨rfl, hbp⟩; replace hS := hS.below hbp; clear hbp))
          go_ret
          exact ⟨rfl, hS.bel⟩
        · have hR : bestR k D = .tuple #[.int .i64 (bestTo D k : Nat), .float .f32 (D (bestTo D k)), .int .i64 0] := by unfold bestR; rw [if_neg h0]
          rw [hR] at hb1 hb2
          have hlb := bestTo_lt D k (by omega)
          have hmax := bestTo_max D k
          have hMb := hM _ hlb
          obtain ⟨b, hbb⟩ : ∃ b, bestTo D k = b := ⟨_, rfl⟩
          rw [hbb] at hb1 hb2 hlb hmax hMb
          clear hbb hR
          have bb : (0 : Int) ≤ b := by omega
          have bb2 : (b : Int) < k := by omega
          have bk1 : ¬ (k : Int) = 0 := by omega
          have hbbn : ((b : Int) != b) = false := by simp
          go_upto_region 36 with (first | (refine wpList_load_blk rfl rfl rfl rowAq hS.aq rfl ?_) | (go_at_call 21; refine (hnt _).mono ?_; rintro e w' ⟨rfl, hw⟩; rw [hw]; clear hw w') | (go_at_call 28; refine (hb1 _ hS).mono ?_; rintro e Wx ⟨rfl, hbp⟩; replace hS := hS.below hbp; replace hO14 := hO14.below hbp hO14.lt; clear hbp) | (go_at_call 29; refine (hb2 _ hS).mono ?_; rintro e Wy ⟨rfl, hbp⟩; replace hS := hS.below hbp; replace hO14 := hO14.below hbp hO14.lt; clear hbp))
          have hcl : ∀ i, i < k → Wy.cell? ⟨g14, i, none⟩ = some (.float .f32 (D i)) := fun i hi => (hO14.cell i (by omega)).trans (fls_get k D i hi)
          have HCL := Lib.hid hcl
          have HMX := Lib.hid hmax
          have HMM := Lib.hid hM
          have e0 := hcl b hlb
          have hnb := fun w' => sameNumberS_cn (x := D b) (y := D b) rfl w'
          clear hcl hmax hM hb1 hb2 hnt hnz
          go_cut [377] from 341 to 377 (fun c wx => c = .bool false ∧ wx = Wy)
          case first =>
            go_wp2_with (go_at_call 21; refine (hnb _).mono ?_; rintro e w' ⟨rfl, hw⟩; rw [hw]; clear hw w')
            go_meet
            exact ⟨by have a1 : ¬ ((b : Int) < 0) := by omega
                      have a2 : ¬ k ≤ b := by omega
                      simp [a1, a2], rfl⟩
          case rest =>
            obtain ⟨rfl, hwx⟩ := hcut
            rw [hwx]
            clear hwx
            go_wp2_with fail
            go_loopw [40] (fun i wr => ∃ j : Nat, j ≤ k ∧ i = .int .i64 j ∧ wr = Wy) (fun i _ => k - (intOf i).toNat)
            case atStart => exact ⟨0, by omega, rfl, rfl⟩
            case round =>
              obtain ⟨j, hj, rfl, hwr⟩ := hrel
              rw [hwr]
              clear hwr wr
              have bj : (0 : Int) ≤ j := by omega
              by_cases hjl : j < k
              · have bl : (j : Int) < k := by omega
                have e1 := HCL.out j hjl
                have hz1 := fun w' => sizeOf_is (D j) w'
                have hz2 := fun w' => sizeOf_is (D b) w'
                have hcmp := fgt_eq (szS (D j)) (szS (D b))
                have hle := HMX.out j hjl
                rw [fgt_szS (HMM.out j hjl) hMb, decide_eq_false (by omega)] at hcmp
                go_wp2_with (go_at_call 30; first | (refine (hz1 _).mono ?_; rintro e w' ⟨rfl, hw⟩; rw [hw]; clear hw w') | (refine (hz2 _).mono ?_; rintro e w' ⟨rfl, hw⟩; rw [hw]; clear hw w'))
                go_roundw
                case rel => exact ⟨j + 1, by omega, by go_num, by first | trivial | rfl⟩
                case measure => simp [intOf]; omega
              · obtain rfl : j = k := by omega
                go_wp2_with fail
                go_ret
                exact ⟨rfl, hS.bel⟩
end Go.Proofs.YtglimhkpndfjgaaGreatDoor
