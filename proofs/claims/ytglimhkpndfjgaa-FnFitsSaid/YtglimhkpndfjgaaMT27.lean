import Derived.Test.YtglimhkpndfjgaaMT26
/- Fits: the program's misfits, what it asks of a fit. -/
namespace Go.Proofs.Ytglimhkpndfjgaa
open Go.ChangeShapes Go.WideShapes Go.ChangeAt Go.RowKit
set_option linter.unusedVariables false
set_option linter.unusedSimpArgs false
attribute [local irreducible] Calls
theorem sumN_is {F : Nat → Nat} {j n : Nat} (hj : 1 ≤ j) (hn : j + 2 * n ≤ 252) (hF : ∀ i, i < n → Mg (F i) j) (g : Nat) (v : Value) (w : World) (hO : Own w g 24 1 v n (fls n F)) :
    Calls Try.prog 64 #[v] w fun e w' => e = .returned (.float .f32 (fsumTo F n)) ∧ ∃ k, w' = w.drewN k := by
  refine (sum_any g v n F (by unfold maxLen; omega) w hO).mono ?_
  rintro e w' ⟨r, rfl, hr, hw⟩
  rw [sum_word hj hn hF hr]
  exact ⟨rfl, hw⟩
/-- The sizes of the first k, the others as they are. -/
def szTo (E : Nat → Nat) (k : Nat) (i : Nat) : Nat := if i < k then fab (E i) else E i
theorem szTo_set (n : Nat) (E : Nat → Nat) (k : Nat) (hk : k < n) : (fls n (szTo E k)).set k (.float .f32 (fab (E k))) = fls n (szTo E (k + 1)) := by
  apply List.ext_getElem?
  intro i
  by_cases hi : i < n
  · by_cases e : k = i
    · subst e
      rw [List.getElem?_set_self (by rw [fls_length]; exact hi), fls_get _ _ _ hi]
      unfold szTo; rw [if_pos (by omega)]
    · rw [List.getElem?_set_ne e, fls_get _ _ _ hi, fls_get _ _ _ hi]
      unfold szTo
      by_cases h : i < k
      · rw [if_pos h, if_pos (by omega)]
      · rw [if_neg h, if_neg (by omega)]
  · rw [List.getElem?_eq_none (by rw [List.length_set, fls_length]; omega), List.getElem?_eq_none (by rw [fls_length]; omega)]
theorem szF1 : (Try.prog.info? 24).map (·.size) = some 1 := by kernel_rfl
set_option maxRecDepth 100000 in
set_option maxHeartbeats 8000000 in
theorem misfit_any (T S : Nat) (hA : Aq T S) (s : Si) (hs : SiD s) (n : Nat) (hn : n ≤ 8) (R : Nat → Rg) (hR : ∀ i, i < n → RgD (R i)) (bs : Nat) (v : Value) (w : World) (hB : Blk w bs #[.int .i8 s.px, .int .i8 s.py, .float .f32 s.rt, .int .i8 s.x, .int .i8 s.y] 32) (hv : RSl w v n R) :
    Calls Try.prog 36 #[.pointer (some ⟨bs, 0, none⟩), .agg #[.float .f32 T, .float .f32 S], v] w fun e w' => e = .returned (.float .f32 (mfX s R n T S)) ∧ Below w.heap.size w w' := by
  have hb := below1 w (.cells #[.float .f32 T, .float .f32 S] 26)
  have hv := hv.below hb
  have hB0 := hB.alloc (.cells #[.float .f32 T, .float .f32 S] 26)
  have hdf := fun w' hB hv => differences_any T S hA s hs n hn R hR bs v w' hB hv
  have hmg := fun i (hi : i < n) => dfX_mg hA hs (hR i hi)
  have hA0 := Blk.new w #[.float .f32 T, .float .f32 S] 26
  have hM : fsumTo (fun i => fab (dfX T S s (R i))) n = mfX s R n T S := rfl
  obtain ⟨Z, hZ⟩ : ∃ Z, mfX s R n T S = Z := ⟨_, rfl⟩
  rw [hZ] at hM ⊢
  obtain ⟨E, hE⟩ : ∃ E : Nat → Nat, (fun i => dfX T S s (R i)) = E := ⟨_, rfl⟩
  have hE2 : ∀ i, dfX T S s (R i) = E i := fun i => congrFun hE i
  rw [hE] at hdf
  simp only [hE2] at hmg hM
  have hsm := fun g v w' hO => sumN_is (F := szTo E n) (j := 220) (n := n) (by omega) (by omega) (fun i hi => by unfold szTo; rw [if_pos hi]; unfold Mg fab; rw [Nat.mod_mod]; exact hmg i hi) g v w' hO
  have hM2 : fsumTo (szTo E n) n = Z := (fsumTo_congr n fun i hi => by unfold szTo; rw [if_pos hi]).trans hM
  rw [hM2] at hsm
  have hsz := fun i (hi : i < n) w' => size_any (E i) ((hmg i hi).num (by omega)) w'
  clear hM hM2 hZ hE hE2 hmg hA hs hR hB
  go_enter Try.func36, Try.ntmps36
  go_upto_region 1 with fail
  generalize w.alloc (.cells #[.float .f32 T, .float .f32 S] 26) = W at *
  go_upto_region 2 with (first | (refine wpList_load_blk rfl rfl rfl rowAq hA0 rfl ?_) | (go_at_call 50; refine (hdf _ hB0 hv).mono ?_; rintro e w2 ⟨v7, g, rfl, hg, hO, hb2⟩))
  have hb3 := hb.trans (hb2.mono hb.size)
  have lg : w.heap.size ≤ g := by have := hb.size; omega
  obtain ⟨cap, rfl, hcap, hcapm⟩ := hO.form
  unfold maxLen at hcapm
  have hO0 : Own w2 g 24 1 (.slice (some ⟨g, 0, none⟩) n cap) n (fls n (szTo E 0)) := by
    rw [fls_congr (g := E) (fun i _ => by unfold szTo; rw [if_neg (by omega)])]; exact hO
  clear hO hdf hA0 hB0 hv hb
  go_wp2_with fail
  go_loopw [8, 15] (fun _ i wr => ∃ k : Nat, k ≤ n ∧ i = .int .i64 k ∧ Own wr g 24 1 (.slice (some ⟨g, 0, none⟩) n cap) n (fls n (szTo E k)) ∧ Below w.heap.size w wr) (fun _ i _ => n - (intOf i).toNat)
  case atStart => exact ⟨0, by omega, rfl, hO0, hb3⟩
  case round =>
    clear hO0 hb3
    obtain ⟨k, hk, rfl, hO, hbs⟩ := hrel
    have bk : (0 : Int) ≤ k := by omega
    by_cases hlt : k < n
    · have bl : (k : Int) < n := by omega
      have y0 : wr.cell? ⟨g, k, none⟩ = some (.float .f32 (E k)) := by
        rw [hO.cell k (by omega), fls_get _ _ _ hlt]; unfold szTo; rw [if_neg (by omega)]
      have hz := hsz k hlt
      have lG := hO.lt
      go_wp2_with (first | (go_at_call 63; refine (hz _).mono ?_; rintro e w' ⟨rfl, hw⟩; rw [hw]; clear hw w') | (refine wpList_store_own (v := .float .f32 (fab (E k))) rfl rfl rfl rfl szF1 rfl rfl hO (by omega) ?_; intro W6 hO6 hg6))
      rw [szTo_set n E k hlt] at hO6
      go_roundw
      case rel => exact ⟨k + 1, by omega, by go_num, hO6, hbs.grown hg6 hbs.size (fun k e => by injection e; omega)⟩
      case measure => simp [intOf]; omega
    · obtain rfl : k = n := by omega
      have hsm := hsm g _ wr hO
      go_wp2_with (go_at_call 64; refine hsm.mono ?_; rintro e w8 ⟨rfl, q, rfl⟩)
      go_ret
      exact ⟨rfl, below_drewN hbs _⟩
theorem callBadAq : Callable Try.prog 60 := ⟨_, Try.func60, by kernel_rfl, by kernel_rfl⟩
set_option maxRecDepth 100000 in
set_option maxHeartbeats 400000 in
theorem badAq_any (T S : Nat) (h : aqOk T S = true) (w : World) :
    Calls Try.prog 60 #[.agg #[.float .f32 T, .float .f32 S]] w fun e w' => e = .returned (.bool false) ∧ Below w.heap.size w w' := by
  have hq := fun w' => validAquifer_any T S h w'
  have hb := below1 w (.cells #[.float .f32 T, .float .f32 S] 26)
  have hA0 := Blk.new w #[.float .f32 T, .float .f32 S] 26
  clear h
  go_enter Try.func60, Try.ntmps60
  go_upto_region 1 with fail
  generalize w.alloc (.cells #[.float .f32 T, .float .f32 S] 26) = W at *
  go_wp2_with (first | (refine wpList_load_blk rfl rfl rfl rowAq hA0 rfl ?_) | (go_at_call 15; refine (hq _).mono ?_; rintro e w2 ⟨rfl, hb2⟩))
  go_ret
  exact ⟨rfl, hb.trans (hb2.mono hb.size)⟩
set_option maxRecDepth 100000 in
set_option maxHeartbeats 400000 in
theorem indexQ_any (n : Nat) (P : Nat → Aqf) (hP : ∀ i, i < n → AqD (P i).T (P i).S) (v : Value) (w : World) (hv : QSl w v n P) :
    Calls Try.prog 74 #[v, .func (.func 60) #[] #[]] w fun e w' => e = .returned (.int .i64 (-1)) ∧ Below w.heap.size w w' := by
  obtain ⟨a, c, rfl, hc1, hc2, hcell⟩ := hv
  unfold maxLen at hc2
  have hcall := fun i (hi : i < n) w' => badAq_any (P i).T (P i).S (hP i hi).ok w'
  clear hP
  go_enter Try.func74, Try.ntmps74
  go_wp2
  go_loopw [8] (fun i wr => ∃ k : Nat, k ≤ n ∧ i = .int .i64 k ∧ Below w.heap.size w wr) (fun i _ => n - (intOf i).toNat)
  case atStart => exact ⟨0, by omega, rfl, Below.refl _ _⟩
  case round =>
    obtain ⟨k, hk, rfl, hbel⟩ := hrel
    by_cases hlt : k < n
    · obtain ⟨b, o, rfl, hb, hcell⟩ := hcell.resolve_left (by omega)
      have e0 : wr.cell? ⟨b, o + k * 2, none⟩ = some (.float .f32 (P k).T) := (hbel.cell (p := ⟨b, _, none⟩) hb).trans ((hcell k 0 hlt (by omega)).trans (P k).get0)
      have e1 : wr.cell? ⟨b, o + k * 2 + 1, none⟩ = some (.float .f32 (P k).S) := (hbel.cell (p := ⟨b, _, none⟩) hb).trans ((hcell k 1 hlt (by omega)).trans (P k).get1)
      have hcall := hcall k hlt wr
      have hpos : (0 : Int) ≤ k := by omega
      clear hcell
      go_wp2_with (refine wpList_callv (cap := #[]) (l := [.agg #[.float .f32 (P k).T, .float .f32 (P k).S]]) rfl rfl rfl rfl callBadAq ?_; refine hcall.mono ?_; rintro e w1 ⟨rfl, hb1⟩; refine ⟨_, rfl, ?_⟩)
      go_roundw
      case rel => exact ⟨k + 1, by omega, by go_num, hbel.trans (hb1.mono hbel.size)⟩
      case measure => simp [intOf]; omega
    · go_wp2
      go_ret
      exact ⟨rfl, hbel⟩
set_option maxRecDepth 100000 in
set_option maxHeartbeats 400000 in
theorem containsQ_any (n : Nat) (P : Nat → Aqf) (hP : ∀ i, i < n → AqD (P i).T (P i).S) (v : Value) (w : World) (hv : QSl w v n P) :
    Calls Try.prog 59 #[v, .func (.func 60) #[] #[]] w fun e w' => e = .returned (.bool false) ∧ Below w.heap.size w w' := by
  have hi := indexQ_any n P hP v w hv
  clear hP
  go_enter Try.func59, Try.ntmps59
  go_wp2_with (go_at_call 74; refine hi.mono ?_; rintro e w1 ⟨rfl, hb⟩)
  go_ret
  exact ⟨rfl, hb⟩
set_option maxRecDepth 100000 in
set_option maxHeartbeats 400000 in
theorem validSite_any (s : Si) (hs : SiD s) (w : World) :
    Calls Try.prog 61 #[.agg s.cells] w fun e w' => e = .returned (.bool true) ∧ Below w.heap.size w w' := by
  have h1 := fun w' => validWell_any s.px s.py s.rt (by have := hs.px; omega) (by have := hs.py; omega) w'
  have h2 := fun w' => isPlaceW_any s.x w'
  have h3 := fun w' => isPlaceW_any s.y w'
  rw [hs.rate.1] at h1
  rw [hs.at100.1] at h2
  rw [hs.at100.2] at h3
  have a1 := hs.x
  have a2 := hs.y
  have wx : IntKind.i64.wrap s.x = s.x := by rw [IntKind.wrap_i64]; omega
  have wy : IntKind.i64.wrap s.y = s.y := by rw [IntKind.wrap_i64]; omega
  clear a1 a2
  rw [s.cells_eq]
  have hB := Blk.new w #[.int .i8 s.px, .int .i8 s.py, .float .f32 s.rt, .int .i8 s.x, .int .i8 s.y] 32
  have hb := below1 w (.cells #[.int .i8 s.px, .int .i8 s.py, .float .f32 s.rt, .int .i8 s.x, .int .i8 s.y] 32)
  have z3 : (w.alloc (.cells #[.int .i8 s.px, .int .i8 s.py, .float .f32 s.rt, .int .i8 s.x, .int .i8 s.y] 32)).cell? ⟨w.heap.size, 3, none⟩ = some (.int .i8 s.x) := hB.cell 3
  have z4 : (w.alloc (.cells #[.int .i8 s.px, .int .i8 s.py, .float .f32 s.rt, .int .i8 s.x, .int .i8 s.y] 32)).cell? ⟨w.heap.size, 4, none⟩ = some (.int .i8 s.y) := hB.cell 4
  clear hs
  go_enter Try.func61, Try.ntmps61
  go_upto_region 1 with fail
  generalize w.alloc (.cells #[.int .i8 s.px, .int .i8 s.py, .float .f32 s.rt, .int .i8 s.x, .int .i8 s.y] 32) = W at *
  go_wp2_with (first | (refine wpList_load_partF rfl rfl rfl rowWlF hB (siZ s) (siE s) ?_) | (go_at_call 75; refine (h1 _).mono ?_; rintro e w1 ⟨rfl, hb1⟩; have q3 := (hb1.cell (p := ⟨w.heap.size, 3, none⟩) hB.lt).trans z3; have q4 := (hb1.cell (p := ⟨w.heap.size, 4, none⟩) hB.lt).trans z4) | (go_at_call 76; first | (refine (h2 _).mono ?_; rintro e w' ⟨rfl, hw⟩; rw [hw]; clear hw w') | (refine (h3 _).mono ?_; rintro e w' ⟨rfl, hw⟩; rw [hw]; clear hw w')))
  go_ret
  exact ⟨rfl, hb.trans (hb1.mono hb.size)⟩
set_option maxRecDepth 100000 in
set_option maxHeartbeats 8000000 in
theorem fitFault_any (s : Si) (hs : SiD s) (m : Nat) (R : Nat → Rg) (hR : RdD m R) (v : Value) (n : Nat) (P : Nat → Aqf) (hP : ∀ i, i < n → AqD (P i).T (P i).S) (u : Value) (w : World) (hv : RSl w v m R) (hu : QSl w u n P) :
    Calls Try.prog 35 #[.agg s.cells, v, u] w fun e w' => e = .returned (.int .i64 0) ∧ Below w.heap.size w w' := by
  have q1 := fun w' hu => containsQ_any n P hP u w' hu
  have q2 := fun w' => validSite_any s hs w'
  have q3 := fun w' hv => validReadings_any m (by have := hR.le; omega) R v w' hv
  rw [hR.ok] at q3
  rw [s.cells_eq] at q2 ⊢
  have hB := Blk.new w #[.int .i8 s.px, .int .i8 s.py, .float .f32 s.rt, .int .i8 s.x, .int .i8 s.y] 32
  have hb := below1 w (.cells #[.int .i8 s.px, .int .i8 s.py, .float .f32 s.rt, .int .i8 s.x, .int .i8 s.y] 32)
  have hv := hv.below hb
  have hu := hu.below hb
  clear hs hR hP
  go_enter Try.func35, Try.ntmps35
  go_upto_region 1 with fail
  generalize w.alloc (.cells #[.int .i8 s.px, .int .i8 s.py, .float .f32 s.rt, .int .i8 s.x, .int .i8 s.y] 32) = W at *
  go_wp2_with (first | (refine wpList_load_wantT rfl rfl rfl rowSi hB rfl ?_) | (go_at_call 59; refine (q1 _ hu).mono ?_; rintro e w1 ⟨rfl, hb1⟩; replace hB := hB.below hb1 hB.lt; replace hv := hv.below hb1; replace hb := hb.trans (hb1.mono hb.size); clear hb1) | (go_at_call 61; refine (q2 _).mono ?_; rintro e w2 ⟨rfl, hb2⟩; replace hv := hv.below hb2; replace hb := hb.trans (hb2.mono hb.size); clear hb2) | (go_at_call 62; refine (q3 _ hv).mono ?_; rintro e w3 ⟨rfl, hb3⟩; replace hb := hb.trans (hb3.mono hb.size); clear hb3))
  go_ret
  exact ⟨rfl, hb⟩
theorem qsl_one {w : World} {q : Nat} {T S : Nat} {t : TypeId} (h : Blk w q #[.float .f32 T, .float .f32 S] t) : QSl w (.slice (some ⟨q, 0, none⟩) 1 1) 1 (fun _ => ⟨T, S⟩) :=
  ⟨_, 1, rfl, Nat.le_refl _, by decide, .inr ⟨q, 0, rfl, h.lt, fun i c hi hc => by
    obtain rfl : i = 0 := by omega
    rw [show 0 + 0 * 2 + c = c by omega, h.cell c, Aqf.cells_eq]⟩⟩
set_option maxRecDepth 100000 in
set_option maxHeartbeats 8000000 in
theorem misfitOf_any (T S : Nat) (hA : AqD T S) (s : Si) (hs : SiD s) (n : Nat) (R : Nat → Rg) (hR : RdD n R) (v : Value) (w : World) (hv : RSl w v n R) :
    Calls Try.prog 10 #[.agg #[.float .f32 T, .float .f32 S], .agg s.cells, v] w fun e w' => e = .returned (.tuple #[.float .f32 (mfX s R n T S), .int .i64 0]) ∧ Below w.heap.size w w' := by
  have q1 := fun u w' (hv : RSl w' v n R) hu => fitFault_any s hs n R hR v 1 (fun _ => ⟨T, S⟩) (fun _ _ => hA) u w' hv hu
  have q2 := fun bs w' hB (hv : RSl w' v n R) => misfit_any T S hA.aq s hs n hR.le R hR.each bs v w' hB hv
  rw [s.cells_eq] at q1 ⊢
  have hb := below2 w (.cells #[.float .f32 T, .float .f32 S] 26) (.cells #[.int .i8 s.px, .int .i8 s.py, .float .f32 s.rt, .int .i8 s.x, .int .i8 s.y] 32)
  have hv := hv.below hb
  have hA0 : Blk ((w.alloc (.cells #[.float .f32 T, .float .f32 S] 26)).alloc (.cells #[.int .i8 s.px, .int .i8 s.py, .float .f32 s.rt, .int .i8 s.x, .int .i8 s.y] 32)) w.heap.size #[.float .f32 T, .float .f32 S] 26 := (Blk.new _ _ _).alloc _
  have hB0 : Blk ((w.alloc (.cells #[.float .f32 T, .float .f32 S] 26)).alloc (.cells #[.int .i8 s.px, .int .i8 s.py, .float .f32 s.rt, .int .i8 s.x, .int .i8 s.y] 32)) (w.heap.size + 1) #[.int .i8 s.px, .int .i8 s.py, .float .f32 s.rt, .int .i8 s.x, .int .i8 s.y] 32 := Blk.new1 _ _ _ _
  generalize mfX s R n T S = Z at *
  clear hA hs hR
  go_enter Try.func10, Try.ntmps10
  go_upto_region 1 with fail
  generalize (w.alloc (.cells #[.float .f32 T, .float .f32 S] 26)).alloc (.cells #[.int .i8 s.px, .int .i8 s.py, .float .f32 s.rt, .int .i8 s.x, .int .i8 s.y] 32) = W at *
  have hu := qsl_one (Blk.new W #[.float .f32 T, .float .f32 S] 26)
  have hv1 := hv.below (below1 W (.cells #[.float .f32 T, .float .f32 S] 26))
  have hb1 := hb.alloc hb.size (.cells #[.float .f32 T, .float .f32 S] 26)
  have hA1 := hA0.alloc (.cells #[.float .f32 T, .float .f32 S] 26)
  have hB1 := hB0.alloc (.cells #[.float .f32 T, .float .f32 S] 26)
  go_upto_region 2 with (first | (refine wpList_load_blk rfl rfl rfl rowAq hA0 rfl ?_) | (refine wpList_load_blk rfl rfl rfl rowSi hB0 rfl ?_) | (go_at_call 35; refine (q1 _ _ hv1 hu).mono ?_; rintro e w1 ⟨rfl, hb2⟩))
  have hA2 := hA1.below hb2 hA1.lt
  have hB2 := hB1.below hb2 hB1.lt
  have hv2 := hv1.below hb2
  have hb3 := hb1.trans (hb2.mono hb1.size)
  clear hA0 hB0 hA1 hB1 hv hv1 hb hb1 hb2 hu q1
  go_wp2_with (first | (refine wpList_load_blk rfl rfl rfl rowAq hA2 rfl ?_) | (go_at_call 36; refine (q2 _ _ hB2 hv2).mono ?_; rintro e w5 ⟨rfl, hb5⟩))
  go_ret2
  exact ⟨rfl, hb3.trans (hb5.mono hb3.size)⟩
set_option maxRecDepth 100000 in
set_option maxHeartbeats 8000000 in
theorem worstReading_any (T S : Nat) (hA : AqD T S) (s : Si) (hs : SiD s) (n : Nat) (R : Nat → Rg) (hR : RdD n R) (v : Value) (w : World) (hv : RSl w v n R) :
    Calls Try.prog 23 #[.agg #[.float .f32 T, .float .f32 S], .agg s.cells, v] w fun e w' => e = .returned (bestR n (fun i => dfX T S s (R i))) ∧ Below w.heap.size w w' := by
  have q1 := fun u w' (hv : RSl w' v n R) hu => fitFault_any s hs n R hR v 1 (fun _ => ⟨T, S⟩) (fun _ _ => hA) u w' hv hu
  have q2 := fun bs w' hB (hv : RSl w' v n R) => differences_any T S hA.aq s hs n hR.le R hR.each bs v w' hB hv
  have hmg := fun i (hi : i < n) => (dfX_mg hA.aq hs (hR.each i hi)).mono (by omega : 220 ≤ 240)
  have hn8 := hR.le
  rw [s.cells_eq] at q1 ⊢
  have hb := below2 w (.cells #[.float .f32 T, .float .f32 S] 26) (.cells #[.int .i8 s.px, .int .i8 s.py, .float .f32 s.rt, .int .i8 s.x, .int .i8 s.y] 32)
  have hv := hv.below hb
  have hA0 : Blk ((w.alloc (.cells #[.float .f32 T, .float .f32 S] 26)).alloc (.cells #[.int .i8 s.px, .int .i8 s.py, .float .f32 s.rt, .int .i8 s.x, .int .i8 s.y] 32)) w.heap.size #[.float .f32 T, .float .f32 S] 26 := (Blk.new _ _ _).alloc _
  have hB0 : Blk ((w.alloc (.cells #[.float .f32 T, .float .f32 S] 26)).alloc (.cells #[.int .i8 s.px, .int .i8 s.py, .float .f32 s.rt, .int .i8 s.x, .int .i8 s.y] 32)) (w.heap.size + 1) #[.int .i8 s.px, .int .i8 s.py, .float .f32 s.rt, .int .i8 s.x, .int .i8 s.y] 32 := Blk.new1 _ _ _ _
  obtain ⟨E, hE⟩ : ∃ E : Nat → Nat, (fun i => dfX T S s (R i)) = E := ⟨_, rfl⟩
  have hE2 : ∀ i, dfX T S s (R i) = E i := fun i => congrFun hE i
  rw [hE] at q2 ⊢
  simp only [hE2] at hmg
  have q3 := fun g v w' hO => strongest_any g v n E (by omega) hmg w' hO
  clear hE hE2 hA hs hR
  go_enter Try.func23, Try.ntmps23
  go_upto_region 1 with fail
  generalize (w.alloc (.cells #[.float .f32 T, .float .f32 S] 26)).alloc (.cells #[.int .i8 s.px, .int .i8 s.py, .float .f32 s.rt, .int .i8 s.x, .int .i8 s.y] 32) = W at *
  have hu := qsl_one (Blk.new W #[.float .f32 T, .float .f32 S] 26)
  have hv1 := hv.below (below1 W (.cells #[.float .f32 T, .float .f32 S] 26))
  have hb1 := hb.alloc hb.size (.cells #[.float .f32 T, .float .f32 S] 26)
  have hA1 := hA0.alloc (.cells #[.float .f32 T, .float .f32 S] 26)
  have hB1 := hB0.alloc (.cells #[.float .f32 T, .float .f32 S] 26)
  go_upto_region 2 with (first | (refine wpList_load_blk rfl rfl rfl rowAq hA0 rfl ?_) | (refine wpList_load_blk rfl rfl rfl rowSi hB0 rfl ?_) | (go_at_call 35; refine (q1 _ _ hv1 hu).mono ?_; rintro e w1 ⟨rfl, hb2⟩))
  have hA2 := hA1.below hb2 hA1.lt
  have hB2 := hB1.below hb2 hB1.lt
  have hv2 := hv1.below hb2
  have hb3 := hb1.trans (hb2.mono hb1.size)
  clear hA0 hB0 hA1 hB1 hv hv1 hb hb1 hb2 hu q1
  go_upto_region 5 with (first | (refine wpList_load_blk rfl rfl rfl rowAq hA2 rfl ?_) | (go_at_call 50; refine (q2 _ _ hB2 hv2).mono ?_; rintro e w5 ⟨v10, g, rfl, hg, hO, hb5⟩))
  have hb6 := hb3.trans (hb5.mono hb3.size)
  by_cases h0 : n = 0
  · subst h0
    have HR0 : Hid (bestR 0 E = .tuple #[.int .i64 0, .float .f32 0, .int .i64 6]) := Lib.hid rfl
    have q3 := q3 g _ w5 hO
    rw [if_pos rfl] at q3
    clear q2
    go_wp2_with (go_at_call 51; refine q3.mono ?_; rintro e w' ⟨rfl, kk, rfl⟩)
    go_ret3
    exact ⟨by rw [HR0.out]; rfl, below_drewN hb6 _⟩
  · have hR0 : bestR n E = .tuple #[.int .i64 (bestTo E n : Nat), .float .f32 (E (bestTo E n)), .int .i64 0] := by unfold bestR; rw [if_neg h0]
    have HR0 := Lib.hid hR0
    have q3 := q3 g _ w5 hO
    rw [if_neg h0] at q3
    have hlt := bestTo_lt E n (by omega)
    clear hR0 q2 hmg
    generalize bestTo E n = b at *
    have bb : (0 : Int) ≤ b := by omega
    have bbl : (b : Int) < n := by omega
    obtain ⟨c, rfl, hc1, hc2⟩ := hO.form
    have e0 : w5.cell? ⟨g, b, none⟩ = some (.float .f32 (E b)) := (hO.cell b (by omega)).trans (fls_get n E b hlt)
    go_upto_region 8 with (go_at_call 51; refine q3.mono ?_; rintro e w' ⟨rfl, kk, rfl⟩)
    have e0 : (w5.drewN kk).cell? ⟨g, b, none⟩ = some (.float .f32 (E b)) := e0
    have hb7 := below_drewN hb6 kk
    generalize w5.drewN kk = W4 at *
    go_quiet (fail)
    go_wp2_with fail
    go_ret3
    exact ⟨by rw [HR0.out]; rfl, below_drewN hb7 _⟩
end Go.Proofs.Ytglimhkpndfjgaa
/- Fits: the program's lists of misfits, the best guess, those within a bound, their span. -/
namespace Go.Proofs.Ytglimhkpndfjgaa
open Go.ChangeShapes Go.WideShapes Go.ChangeAt Go.RowKit
set_option linter.unusedVariables false
set_option linter.unusedSimpArgs false
attribute [local irreducible] Calls
theorem run_minF {P : Program} (w : World) (ts : Array TypeId) (t : TypeId) {a b : Nat} (ha : a < 2139095040) (hb : b < 2139095040) : (Builtin.min_ ts t #[.float .f32 a, .float .f32 b]).run P w = .ok (.float .f32 (if b < a then b else a)) w := by
  have h : FloatKind.f32.format.order a b = some (compare (a : Int) (b : Int)) := order_fin ha hb
  rw [cmp_int] at h
  rcases Nat.lt_trichotomy a b with hl | hl | hl
  · rw [if_pos (by omega)] at h
    rw [if_neg (by omega)]
    simp [Builtin.min_, Builtin.min2, h]
  · subst hl
    rw [if_neg (by omega), if_pos rfl] at h
    simp [Builtin.min_, Builtin.min2, h]
  · rw [if_neg (by omega), if_neg (by omega)] at h
    rw [if_pos hl]
    simp [Builtin.min_, Builtin.min2, h]
theorem run_maxF {P : Program} (w : World) (ts : Array TypeId) (t : TypeId) {a b : Nat} (ha : a < 2139095040) (hb : b < 2139095040) : (Builtin.max_ ts t #[.float .f32 a, .float .f32 b]).run P w = .ok (.float .f32 (if a < b then b else a)) w := by
  have h : FloatKind.f32.format.order a b = some (compare (a : Int) (b : Int)) := order_fin ha hb
  rw [cmp_int] at h
  rcases Nat.lt_trichotomy a b with hl | hl | hl
  · rw [if_pos (by omega)] at h
    rw [if_pos hl]
    simp [Builtin.max_, Builtin.max2, h]
  · subst hl
    rw [if_neg (by omega), if_pos rfl] at h
    simp [Builtin.max_, Builtin.max2, h]
  · rw [if_neg (by omega), if_neg (by omega)] at h
    rw [if_neg (by omega)]
    simp [Builtin.max_, Builtin.max2, h]
theorem mnTo_fin {F : Nat → Nat} {n : Nat} (hF : ∀ i, i < n → F i < 2139095040) : ∀ k, 0 < k → k ≤ n → mnTo F k < 2139095040 := fun k hk hn => by
  rw [mnTo_is F k hk]
  exact hF _ (by have := lsTo_lt F k hk; omega)
theorem mxTo_fin {F : Nat → Nat} {n : Nat} (hF : ∀ i, i < n → F i < 2139095040) : ∀ k, 0 < k → k ≤ n → mxTo F k < 2139095040 := fun k hk hn => by
  obtain ⟨i, h1, h2⟩ := mxTo_in F k hk
  rw [h2]
  exact hF i (by omega)
set_option maxRecDepth 100000 in
set_option maxHeartbeats 400000 in
theorem slmin_any (n : Nat) (hn : 1 ≤ n ∧ n ≤ 20) (E : Nat → Nat) (hE : ∀ i, i < n → E i < 2139095040) (g : Nat) (v : Value) (w : World) (hO : Own w g 24 1 v n (fls n E)) :
    Calls Try.prog 46 #[v] w fun e w' => e = .returned (.float .f32 (mnTo E n)) ∧ w' = w := by
  obtain ⟨c, rfl, hc1, hc2⟩ := hO.form
  unfold maxLen at hc2
  have hcl : ∀ i, i < n → w.cell? ⟨g, i, none⟩ = some (.float .f32 (E i)) := fun i hi => (hO.cell i (by omega)).trans (fls_get n E i hi)
  have z0 := hcl 0 (by omega)
  have bn : (0 : Int) < n := by omega
  have bn1 : ¬ (n : Int) < 1 := by omega
  obtain ⟨n1, n2⟩ := hn
  have HC := Lib.hid hcl
  have HE := Lib.hid hE
  clear hcl hO hE
  go_enter Try.func46, Try.ntmps46
  go_wp2_with fail
  clear z0
  go_loopw [3, 4] (fun x i wr => ∃ k : Nat, 1 ≤ k ∧ k ≤ n ∧ i = .int .i64 k ∧ x = .float .f32 (mnTo E k) ∧ wr = w) (fun _ i _ => n - (intOf i).toNat)
  case atStart => exact ⟨1, by omega, by omega, rfl, rfl, rfl⟩
  case round =>
    obtain ⟨k, hk1, hk, rfl, rfl, hwr⟩ := hrel
    rw [hwr]
    clear hwr wr
    have bk : (0 : Int) ≤ k := by omega
    by_cases hlt : k < n
    · have bl : (k : Int) < n := by omega
      have z1 := HC.out k hlt
      have hst := Lib.hid (mnTo_step E k hk1)
      have hm := fun (w : World) ts t => run_minF (P := Try.prog) w ts t (mnTo_fin HE.out k hk1 hk) (HE.out k hlt)
      generalize mnTo E k = m at *
      go_wp2_with fail
      go_roundw
      case rel => exact ⟨k + 1, by omega, by omega, by go_num, by rw [hst.out], by first | trivial | rfl⟩
      case measure => simp [intOf]; omega
    · obtain rfl : k = n := by omega
      go_wp2_with fail
      go_ret
      exact ⟨rfl, rfl⟩
set_option maxRecDepth 100000 in
set_option maxHeartbeats 400000 in
theorem slmax_any (n : Nat) (hn : 1 ≤ n ∧ n ≤ 20) (E : Nat → Nat) (hE : ∀ i, i < n → E i < 2139095040) (g : Nat) (v : Value) (w : World) (hO : Own w g 24 1 v n (fls n E)) :
    Calls Try.prog 48 #[v] w fun e w' => e = .returned (.float .f32 (mxTo E n)) ∧ w' = w := by
  obtain ⟨c, rfl, hc1, hc2⟩ := hO.form
  unfold maxLen at hc2
  have hcl : ∀ i, i < n → w.cell? ⟨g, i, none⟩ = some (.float .f32 (E i)) := fun i hi => (hO.cell i (by omega)).trans (fls_get n E i hi)
  have z0 := hcl 0 (by omega)
  have bn : (0 : Int) < n := by omega
  have bn1 : ¬ (n : Int) < 1 := by omega
  obtain ⟨n1, n2⟩ := hn
  have HC := Lib.hid hcl
  have HE := Lib.hid hE
  clear hcl hO hE
  go_enter Try.func48, Try.ntmps48
  go_wp2_with fail
  clear z0
  go_loopw [3, 4] (fun x i wr => ∃ k : Nat, 1 ≤ k ∧ k ≤ n ∧ i = .int .i64 k ∧ x = .float .f32 (mxTo E k) ∧ wr = w) (fun _ i _ => n - (intOf i).toNat)
  case atStart => exact ⟨1, by omega, by omega, rfl, rfl, rfl⟩
  case round =>
    obtain ⟨k, hk1, hk, rfl, rfl, hwr⟩ := hrel
    rw [hwr]
    clear hwr wr
    have bk : (0 : Int) ≤ k := by omega
    by_cases hlt : k < n
    · have bl : (k : Int) < n := by omega
      have z1 := HC.out k hlt
      have hst := Lib.hid (mxTo_step E k hk1)
      have hm := fun (w : World) ts t => run_maxF (P := Try.prog) w ts t (mxTo_fin HE.out k hk1 hk) (HE.out k hlt)
      generalize mxTo E k = m at *
      go_wp2_with fail
      go_roundw
      case rel => exact ⟨k + 1, by omega, by omega, by go_num, by rw [hst.out], by first | trivial | rfl⟩
      case measure => simp [intOf]; omega
    · obtain rfl : k = n := by omega
      go_wp2_with fail
      go_ret
      exact ⟨rfl, rfl⟩
set_option maxRecDepth 100000 in
set_option maxHeartbeats 400000 in
theorem slIndex_any (n : Nat) (hn : n ≤ 20) (E : Nat → Nat) (hE : ∀ i, i < n → E i < 2139095040) (j : Nat) (hj : j < n) (hfirst : ∀ i, i < j → E j < E i) (g : Nat) (v : Value) (w : World) (hO : Own w g 24 1 v n (fls n E)) :
    Calls Try.prog 45 #[v, .float .f32 (E j)] w fun e w' => e = .returned (.int .i64 j) ∧ w' = w := by
  obtain ⟨c, rfl, hc1, hc2⟩ := hO.form
  unfold maxLen at hc2
  have hcl : ∀ i, i < n → w.cell? ⟨g, i, none⟩ = some (.float .f32 (E i)) := fun i hi => (hO.cell i (by omega)).trans (fls_get n E i hi)
  have HC := Lib.hid hcl
  have HE := Lib.hid hE
  have HF := Lib.hid hfirst
  clear hcl hO hE hfirst
  go_enter Try.func45, Try.ntmps45
  go_wp2_with fail
  go_loopw [5, 8] (fun _ i wr => ∃ k : Nat, k ≤ j ∧ i = .int .i64 k ∧ wr = w) (fun _ i _ => n - (intOf i).toNat)
  case atStart => exact ⟨0, by omega, rfl, rfl⟩
  case round =>
    obtain ⟨k, hk, rfl, hwr⟩ := hrel
    rw [hwr]
    clear hwr wr
    have bk : (0 : Int) ≤ k := by omega
    have hlt : k < n := by omega
    have bl : (k : Int) < n := by omega
    have z1 := HC.out k hlt
    have ht := feq_eq (E j) (E k)
    rw [feq_fin (HE.out j hj) (HE.out k hlt)] at ht
    by_cases hkj : k = j
    · subst hkj
      rw [decide_eq_true rfl] at ht
      go_wp2_with fail
      go_ret
      exact ⟨rfl, rfl⟩
    · have := HF.out k (by omega)
      rw [decide_eq_false (by omega)] at ht
      go_wp2_with fail
      go_roundw
      case rel => exact ⟨k + 1, by omega, by go_num, by first | trivial | rfl⟩
      case measure => simp [intOf]; omega
/-- What misfits gives. -/
def GaveMf (w : World) (n : Nat) (F : Nat → Nat) (e : Ending) (w' : World) : Prop := ∃ (v : Value) (g : Nat), e = .returned (.tuple #[v, .int .i64 0]) ∧ w.heap.size ≤ g ∧ Own w' g 24 1 v n (fls n F) ∧ Below w.heap.size w w'
set_option maxRecDepth 100000 in
set_option maxHeartbeats 8000000 in
theorem misfits_any (n : Nat) (hn : 1 ≤ n ∧ n ≤ 20) (P : Nat → Aqf) (hP : ∀ i, i < n → AqD (P i).T (P i).S) (s : Si) (hs : SiD s) (m : Nat) (R : Nat → Rg) (hR : RdD m R) (u v : Value) (w : World) (hu : QSl w u n P) (hv : RSl w v m R) :
    Calls Try.prog 44 #[u, .agg s.cells, v] w (GaveMf w n (mfL s R m P)) := by
  have q1 := fun w' (hv : RSl w' v m R) hu => fitFault_any s hs m R hR v n P hP u w' hv hu
  have hmf := fun i (hi : i < n) bs w' hB hv => misfit_any (P i).T (P i).S (hP i hi).aq s hs m hR.le R hR.each bs v w' hB hv
  change ∀ i, i < n → ∀ bs w', _ → _ → Calls _ _ _ w' (fun e w'' => e = .returned (.float .f32 (mfL s R m P i)) ∧ _) at hmf
  have q5 := fun w' => in_any (n : Int) 1 20 w'
  rw [decide_eq_true (by omega : (1 : Int) ≤ n), decide_eq_true (by omega : (n : Int) ≤ 20)] at q5
  rw [s.cells_eq] at q1 ⊢
  generalize mfL s R m P = E at *
  have hb := below1 w (.cells #[.int .i8 s.px, .int .i8 s.py, .float .f32 s.rt, .int .i8 s.x, .int .i8 s.y] 32)
  have hu := hu.below hb
  have hv := hv.below hb
  have hB := Blk.new w #[.int .i8 s.px, .int .i8 s.py, .float .f32 s.rt, .int .i8 s.x, .int .i8 s.y] 32
  obtain ⟨n1, n2⟩ := hn
  have HM := Lib.hid hmf
  clear hs hR hP hmf
  go_enter Try.func44, Try.ntmps44
  go_upto_region 1 with fail
  generalize w.alloc (.cells #[.int .i8 s.px, .int .i8 s.py, .float .f32 s.rt, .int .i8 s.x, .int .i8 s.y] 32) = W at *
  obtain ⟨a, c, rfl, hc1, hc2, hcell⟩ := id hu
  unfold maxLen at hc2
  go_upto_region 6 with (first | (refine wpList_load_blk rfl rfl rfl rowSi hB rfl ?_) | (go_at_call 35; refine (q1 _ hv hu).mono ?_; rintro e w1 ⟨rfl, hb1⟩; replace hB := hB.below hb1 hB.lt; replace hv := hv.below hb1; replace hu := hu.below hb1; replace hb := hb.trans (hb1.mono hb.size); clear hb1) | (go_at_call 39; refine (q5 _).mono ?_; rintro e w' ⟨rfl, hw⟩; rw [hw]; clear hw w'))
  obtain ⟨a', c', hvv, hc1', hc2', hcell'⟩ := hu
  obtain ⟨rfl, rfl⟩ : a = a' ∧ c = c' := by simpa using hvv
  obtain ⟨b, o, rfl, hbl, hcell'⟩ := hcell'.resolve_left (by omega)
  have HC := Lib.hid hcell'
  have HV := Lib.hid hv
  have lB := hB.lt
  have sw := hb.size
  clear hcell hcell' hv hvv hc1' hc2' q1 q5
  go_upto_region 7 with fail
  have hG : Own (w1.alloc (.cells #[] 24)) w1.heap.size 24 1 (.slice (some ⟨w1.heap.size, 0, none⟩) 0 0) 0 (fls 0 E) := own_blk (Blk.new _ _ _) rfl (by decide) (by rw [fls_zero])
  have hB1 := hB.alloc (.cells #[] 24)
  have hb2 := hb.alloc sw (.cells #[] 24)
  have hW2 := below1 w1 (.cells #[] 24)
  generalize w1.alloc (.cells #[] 24) = W2 at *
  obtain ⟨g0, hg0⟩ : ∃ g, w1.heap.size = g := ⟨_, rfl⟩
  rw [hg0] at hG lB ⊢
  obtain ⟨b0, e0⟩ : ∃ b, w.heap.size = b := ⟨_, rfl⟩
  rw [e0] at hB1 lB ⊢
  clear hB hb
  go_wp2_with fail
  go_loopw [9, 26] (fun y i wr => ∃ (k gb : Nat), k ≤ n ∧ i = .int .i64 k ∧ Own wr gb 24 1 y k (fls k E) ∧ g0 ≤ gb ∧ Blk wr b0 #[.int .i8 s.px, .int .i8 s.py, .float .f32 s.rt, .int .i8 s.x, .int .i8 s.y] 32 ∧ Below b0 w wr ∧ Below w1.heap.size w1 wr) (fun _ i _ => n - (intOf i).toNat)
  case atStart => exact ⟨0, g0, by omega, rfl, hG, Nat.le_refl _, hB1, by rw [← e0]; exact hb2, hW2⟩
  case round =>
    clear hG hB1 hb2 hW2
    obtain ⟨k, gb, hk, rfl, hG, hgb, hB1, hbs, hbW⟩ := hrel
    have bk : (0 : Int) ≤ k := by omega
    by_cases hlt : k < n
    · have bl : (k : Int) < n := by omega
      have y0 : wr.cell? ⟨b, o + k * 2, none⟩ = some (.float .f32 (P k).T) := (hbW.cell (p := ⟨b, _, none⟩) hbl).trans ((HC.out k 0 hlt (by omega)).trans (P k).get0)
      have y1 : wr.cell? ⟨b, o + k * 2 + 1, none⟩ = some (.float .f32 (P k).S) := (hbW.cell (p := ⟨b, _, none⟩) hbl).trans ((HC.out k 1 hlt (by omega)).trans (P k).get1)
      have sW := hbW.size
      have sr := hbs.size
      have lB1 := hB1.lt
      have lG := hG.lt
      obtain ⟨cap, rfl, hcap, hcapm⟩ := hG.form
      unfold maxLen at hcapm
      have hmk := HM.out k hlt b0
      go_upto_region 10 with fail
      have hA9 := Blk.new wr #[.float .f32 (P k).T, .float .f32 (P k).S] 26
      have hB2 := hB1.alloc (.cells #[.float .f32 (P k).T, .float .f32 (P k).S] 26)
      have hG2 := hG.alloc (.cells #[.float .f32 (P k).T, .float .f32 (P k).S] 26)
      have hbs2 := hbs.alloc (by omega) (.cells #[.float .f32 (P k).T, .float .f32 (P k).S] 26)
      have hbW2 := hbW.alloc sW (.cells #[.float .f32 (P k).T, .float .f32 (P k).S] 26)
      have hv2 := HV.out.below hbW2
      generalize wr.alloc (.cells #[.float .f32 (P k).T, .float .f32 (P k).S] 26) = W3 at *
      clear y0 y1 hG hB1 hbs hbW
      have s2 := hbs2.size
      have t2 := hbW2.size
      go_wp2_with (first | (refine wpList_load_blk rfl rfl rfl rowAq hA9 rfl ?_) | (go_at_call 36; refine (hmk _ hB2 hv2).mono ?_; rintro e w5 ⟨rfl, hb5⟩; have hG5 := hG2.below hb5 hG2.lt; have hB5 := hB2.below hb5 hB2.lt; have hbs5 := hbs2.trans (hb5.mono (by omega)); have hbW5 := hbW2.trans (hb5.mono t2)) | (at_builtin; refine wpList_app elFW rfl rfl rfl rfl (by decide) (hG5.alloc _) (Blk.new _ _ _) rfl ?_ ?_ ?_ ?_; (· intro u hu; simp at hu; subst hu; rfl); (· unfold maxLen; omega); (· omega); intro v1 w7 g2 hown1 hgr1 hg1))
      have s5 := hbs5.size
      have t5 := hbW5.size
      go_roundw
      case rel =>
        refine ⟨k + 1, g2, by omega, by go_num, ?_, ?_, ?_, ?_, ?_⟩
        · rw [fls_succ]; exact hown1
        · rcases hg1 with h | h
          · omega
          · rw [h]; simp; omega
        · exact (hB5.alloc _).grown hgr1 (fun e => by injection e; omega)
        · exact (hbs5.alloc (by omega) _).grown hgr1 (by simp; omega) (fun k e => by injection e; omega)
        · exact (hbW5.alloc (by omega) _).grown hgr1 (by simp; omega) (fun k e => by injection e; omega)
      case measure => simp [intOf]; omega
    · obtain rfl : k = n := by omega
      go_wp2_with fail
      go_ret2
      exact ⟨_, gb, rfl, by omega, hG, by rw [e0]; exact hbs⟩
end Go.Proofs.Ytglimhkpndfjgaa
