/- LoggedLevels, in the program and in the reference, over what is kept of one head (lg). -/
import Derived.Test.YtnfoemgiebplmaaUntil
import Derived.Test.YtnfoemgiebplmaaDrops
namespace Go.Proofs.Ytnfoemgiebplmaa
open Go.ChangeShapes Go.WideShapes Go.ChangeAt Go.RowKit
set_option linter.unusedVariables false
set_option linter.unusedSimpArgs false
attribute [local irreducible] Calls

def updI (f : Nat → Int) (k : Nat) (x : Int) : Nat → Int := fun i => if i = k then x else f i
theorem i16s_set (n : Nat) (f : Nat → Int) (k : Nat) (x : Int) (hk : k < n) : (i16s n f).setIfInBounds k (.int .i16 x) = i16s n (updI f k x) := by
  apply Array.ext_getElem?
  intro i
  rw [Array.getElem?_setIfInBounds]
  by_cases hi : i < n
  · rw [i16s_get n (updI f k x) i hi]
    by_cases h : k = i
    · subst h; rw [if_pos rfl, if_pos (by rw [i16s_size]; exact hk)]; unfold updI; rw [if_pos rfl]
    · rw [if_neg h, i16s_get n f i hi]; unfold updI; rw [if_neg (Ne.symm h)]
  · rw [Array.getElem?_eq_none (by rw [i16s_size]; omega), if_neg (by omega), Array.getElem?_eq_none (by rw [i16s_size]; omega)]
theorem i16s_congr {n : Nat} {f f' : Nat → Int} (h : ∀ i, i < n → f i = f' i) : i16s n f = i16s n f' := by
  apply Array.ext_getElem?
  intro i
  by_cases hi : i < n
  · rw [i16s_get n _ i hi, i16s_get n _ i hi, h i hi]
  · rw [Array.getElem?_eq_none (by rw [i16s_size]; omega), Array.getElem?_eq_none (by rw [i16s_size]; omega)]
theorem row42 : RowTy Try.prog 42 64 := ⟨_, Try.underlying42, rfl, by kernel_rfl⟩
theorem zero42 : ZeroTy Try.prog 42 (i16s 64 fun _ => 0) := by unfold ZeroTy i16s; kernel_rfl
theorem built42 : Try.prog.built 42 [] = some (i16s 64 fun _ => 0) := by unfold i16s; kernel_rfl
theorem size42 : (Try.prog.info? 42).map (·.size) = some 64 := by kernel_rfl

/-- What the loggers keep of a ground. -/
def levF (lg : Nat → Int) (g : Gr) (k : Nat) : Int := if validG g && isC g k then lg (g.hea k) else 0
def levC (g : Gr) : Int := if validG g then 0 else 1

set_option maxRecDepth 100000 in
set_option maxHeartbeats 400000 in
theorem loggedLevels_any (lg : Nat → Int) (hlg : ∀ b w, plain b = true → Calls Try.prog 79 #[.float .f32 b] w fun e w' => e = .returned (.int .i16 (lg b)) ∧ ∃ q, w' = w.drewN q) (g : Gr) (hg : g.ok) (w : World) :
    Calls Try.prog 24 #[.agg g.cells] w fun e w' => e = .returned (.tuple #[.agg (i16s 64 (levF lg g)), .int .i64 (levC g)]) ∧ Below w.heap.size w w' := by
  obtain ⟨R, hR⟩ : ∃ R, R = i16s 64 (levF lg g) := ⟨_, rfl⟩
  obtain ⟨V, hV⟩ : ∃ V, V = levC g := ⟨_, rfl⟩
  rw [← hR, ← hV]
  have HF := Lib.hid (And.intro hR hV)
  clear hR hV
  have hvg := fun w' => validGround_any g hg w'
  have HLG := Lib.hid hlg
  clear hlg
  go_enter Try.func24, Try.ntmps24
  go_upto_region 1 with (first | (refine wpList_box_as rfl rfl rfl ?_) | (refine wpList_alloc_as rfl rfl zero42 ?_))
  have hA : Blk ((w.alloc (.cells g.cells 30)).alloc (.cells (i16s 64 fun _ => 0) 42)) w.heap.size g.cells 30 := (Blk.new _ _ _).alloc _
  have hS : Blk ((w.alloc (.cells g.cells 30)).alloc (.cells (i16s 64 fun _ => 0) 42)) (w.heap.size + 1) (i16s 64 fun _ => 0) 42 := Blk.new1 _ _ _ _
  have hbel := below2 w (.cells g.cells 30) (.cells (i16s 64 fun _ => 0) 42)
  generalize ((w.alloc (.cells g.cells 30)).alloc (.cells (i16s 64 fun _ => 0) 42)) = W at *
  have lS := hS.lt
  go_upto_region 2 with (first | (refine wpList_zero rfl rfl built42 ?_) | (refine wpList_alloc_as rfl rfl zero42 ?_) | (refine wpList_store_last rfl rfl rfl rfl rfl (by rw [i16s_size]; exact size42) rfl (List.all_eq_true.2 (i16s_one _ _)) ?_))
  have hO := Blk.new W (i16s 64 fun _ => 0) 42
  have hA := hA.alloc (.cells (i16s 64 fun _ => 0) 42)
  have hS := hS.alloc (.cells (i16s 64 fun _ => 0) 42)
  have hbel := hbel.alloc hbel.size (.cells (i16s 64 fun _ => 0) 42)
  generalize W.alloc (.cells (i16s 64 fun _ => 0) 42) = W2 at *
  generalize W.heap.size = r at *
  have lS2 := hS.lt
  have lA := hA.lt
  have lO := hO.lt
  cases hv : validG g
  · have HZ : Hid (R = i16s 64 (fun _ => 0) ∧ V = 1) := Lib.hid (by rw [HF.out.1, HF.out.2]; unfold levC; rw [hv]; exact ⟨i16s_congr fun i hi => by unfold levF; rw [hv]; rfl, rfl⟩)
    rw [hv] at hvg
    clear hv
    go_wp2_with (first | (refine wpList_load_blk rfl rfl rfl row66 hA g.size ?_) | (go_at_call 64; refine (hvg _).mono ?_; rintro e w4 ⟨rfl, hb4⟩; have hS4 := hS.below hb4 lS2; have hO4 := hO.below hb4 lO) | (refine wpList_load_blk rfl rfl rfl row42 hO4 (i16s_size _ _) ?_) | (refine wpList_store_blk rfl rfl rfl rfl row42 hS4 (i16s_size _ _) (i16s_size _ _) (i16s_one _ _) ?_))
    refine bodyPost_row2 rfl rfl row42 (hS4.setRow _) (i16s_size _ _) rfl ⟨?_, below_setRow (hbel.trans (hb4.mono hbel.size)) (by omega) _⟩
    rw [HZ.out.1, HZ.out.2]; rfl
  · have HZ : Hid (∀ hh : Nat → Int, (∀ k, k < 64 → hh k = if k ∈ cellsTo g 64 then lg (g.hea k) else 0) → R = i16s 64 hh ∧ V = 0) := Lib.hid fun hh h => by
      rw [HF.out.1, HF.out.2]; unfold levC; rw [hv]
      refine ⟨i16s_congr fun i hi => ?_, rfl⟩
      rw [h i hi]; unfold levF; rw [hv]; simp only [cellsTo_mem, hi, true_and, Bool.true_and]
    have HPL : Hid (∀ k, k ∈ cellsTo g 64 → k < 64 ∧ plain (g.hea k) = true) := Lib.hid fun k hk => by
      obtain ⟨h1, h2⟩ := cellsTo_mem.1 hk
      exact ⟨h1, (fieldIs_at (validG_parts hv).2.2.2.2.1 k h1).1 h2⟩
    have HND : Hid (cellsTo g 64).Nodup := Lib.hid (nodup_cells g 64)
    rw [hv] at hvg
    clear hv HF
    have hcl := fun w' h => cells_any g w.heap.size hg w' h
    have hlen := cellsTo_length g 64
    generalize cellsTo g 64 = L at *
    go_upto_region 4 with (first | (refine wpList_load_blk rfl rfl rfl row66 hA g.size ?_) | (go_at_call 64; refine (hvg _).mono ?_; rintro e w4 ⟨rfl, hb4⟩))
    have hA4 := hA.below hb4 lA
    have hcl4 := hcl w4 hA4.gat
    go_upto_region 5 with (go_at_call 78; refine hcl4.mono ?_; rintro e w5 ⟨p, cap1, rfl, hp, hown, hb5⟩)
    have lA4 := hA4.lt
    have hb45 := hb4.trans (hb5.mono hb4.size)
    have hA := hA.below hb45 lA
    have hS := hS.below hb45 lS2
    have hO := hO.below hb45 lO
    have hbel := hbel.trans (hb45.mono hbel.size)
    have hpr : r < p := by have := hb4.size; omega
    obtain ⟨_, hcap, hc1, hc2⟩ := hown.form
    injection hcap with _ _ hcap
    subst hcap
    have hr1 : w.heap.size + 1 < r := lS
    clear hb4 hb5 hb45 hvg hcl hcl4 hA4 lA4 lS2 lA lO lS hp
    go_loopw [14] (fun i wr => ∃ (j : Nat) (hh : Nat → Int), j ≤ L.length ∧ i = .int .i64 j ∧ Hid (∀ k, k < 64 → hh k = if k ∈ L.take j then lg (g.hea k) else 0) ∧ Blk wr w.heap.size g.cells 30 ∧ Blk wr (w.heap.size + 1) (i16s 64 fun _ => 0) 42 ∧ Blk wr r (i16s 64 hh) 42 ∧ Own wr p 3 1 (.slice (some ⟨p, 0, none⟩) L.length cap1) L.length (ils L) ∧ Below w.heap.size w wr) (fun i _ => L.length - (intOf i).toNat)
    case atStart => exact ⟨0, fun _ => 0, by omega, rfl, Lib.hid fun k hk => by simp, hA, hS, hO, hown, hbel⟩
    case round =>
      clear hA hS hO hown hbel
      obtain ⟨j, hh, hj, rfl, hhh, hA, hS, hO, hown, hbel⟩ := hrel
      have lS := hS.lt
      by_cases hlt : j < L.length
      · obtain ⟨k, hk⟩ : ∃ k, L[j]? = some k := ⟨_, List.getElem?_eq_getElem hlt⟩
        obtain ⟨hk64, hpl⟩ := HPL.out k (List.mem_of_getElem? hk)
        have HT : Hid (L.take (j + 1) = L.take j ++ [k]) := Lib.hid (by rw [List.take_add_one, hk]; rfl)
        have c0 : wr.cell? ⟨p, j, none⟩ = some (.int .i64 k) := (hown.cell _ (by omega)).trans (ils_get _ _ _ hk)
        have c1 : wr.cell? ⟨w.heap.size, 130 + k, none⟩ = some (.float .f32 (g.hea k)) := hA.gat.getH k hk64
        have hlg := HLG.out (g.hea k) wr hpl
        have d1 := fun n => ((hO.drewN n).cell k).trans (i16s_get 64 hh k hk64)
        have f1 := fun n => (hO.drewN n).free k
        clear hk hpl
        have bk : (0 : Int) ≤ k := by omega
        have bl : (k : Int) < 64 := by omega
        have bj : (0 : Int) ≤ j := by omega
        go_wp2_with (go_at_call 79; refine hlg.mono ?_; rintro e w' ⟨rfl, n, rfl⟩; have d1 := d1 n; have f1 := f1 n)
        go_roundw
        case rel =>
          refine ⟨j + 1, updI hh k (lg (g.hea k)), by omega, by go_num, Lib.hid fun i hi => ?_, (hA.drewN n).setOther (a := ⟨r, k, none⟩) _ (by show w.heap.size ≠ r; omega), (hS.drewN n).setOther (a := ⟨r, k, none⟩) _ (by show w.heap.size + 1 ≠ r; omega), ?_, (hown.drewN n).setOther (a := ⟨r, k, none⟩) _ (by show p ≠ r; omega), (below_drewN hbel n).setCell (p := ⟨r, k, none⟩) (by show w.heap.size ≤ r; omega) _⟩
          · rw [HT.out]
            unfold updI
            by_cases hik : i = k
            · subst hik; simp
            · simp only [hik, if_false, List.mem_append, List.mem_singleton, or_false]; exact hhh.out i hi
          · have := (hO.drewN n).setCell k (.int .i16 (lg (g.hea k)))
            rw [i16s_set _ _ _ _ hk64] at this
            exact this
        case measure => simp [intOf]; omega
      · obtain rfl : j = L.length := by omega
        have HE := Lib.hid (HZ.out hh (fun k hk => by have := hhh.out k hk; rwa [List.take_length] at this))
        go_wp2_with (first | (refine wpList_load_blk rfl rfl rfl row42 hO (i16s_size _ _) ?_) | (refine wpList_store_blk rfl rfl rfl rfl row42 hS (i16s_size _ _) (i16s_size _ _) (i16s_one _ _) ?_))
        refine bodyPost_row2 rfl rfl row42 (hS.setRow _) (i16s_size _ _) rfl ⟨?_, below_setRow hbel (by omega) _⟩
        rw [HE.out.1, HE.out.2]; rfl
set_option maxRecDepth 100000 in
set_option maxHeartbeats 400000 in
theorem specLoggedLevels_any (lg : Nat → Int) (hlg : ∀ b w, plain b = true → Calls Try.prog 77 #[.float .f32 b] w fun e w' => e = .returned (.int .i16 (lg b)) ∧ ∃ q, w' = w.drewN q) (g : Gr) (hg : g.ok) (w : World) :
    Calls Try.prog 23 #[.agg g.cells] w fun e w' => e = .returned (.tuple #[.agg (i16s 64 (levF lg g)), .int .i64 (levC g)]) ∧ Below w.heap.size w w' := by
  obtain ⟨R, hR⟩ : ∃ R, R = i16s 64 (levF lg g) := ⟨_, rfl⟩
  obtain ⟨V, hV⟩ : ∃ V, V = levC g := ⟨_, rfl⟩
  rw [← hR, ← hV]
  have HF := Lib.hid (And.intro hR hV)
  clear hR hV
  have hvg := fun w' h => l01Ok_any g w.heap.size hg w' h
  have HLG := Lib.hid hlg
  clear hlg
  go_enter Try.func23, Try.ntmps23
  go_upto_region 1 with (first | (refine wpList_box_as rfl rfl rfl ?_) | (refine wpList_alloc_as rfl rfl zero42 ?_))
  have hA : Blk ((w.alloc (.cells g.cells 30)).alloc (.cells (i16s 64 fun _ => 0) 42)) w.heap.size g.cells 30 := (Blk.new _ _ _).alloc _
  have hS : Blk ((w.alloc (.cells g.cells 30)).alloc (.cells (i16s 64 fun _ => 0) 42)) (w.heap.size + 1) (i16s 64 fun _ => 0) 42 := Blk.new1 _ _ _ _
  have hbel := below2 w (.cells g.cells 30) (.cells (i16s 64 fun _ => 0) 42)
  generalize ((w.alloc (.cells g.cells 30)).alloc (.cells (i16s 64 fun _ => 0) 42)) = W at *
  have lS := hS.lt
  go_upto_region 2 with (first | (refine wpList_zero rfl rfl built42 ?_) | (refine wpList_alloc_as rfl rfl zero42 ?_) | (refine wpList_store_last rfl rfl rfl rfl rfl (by rw [i16s_size]; exact size42) rfl (List.all_eq_true.2 (i16s_one _ _)) ?_))
  have hO := Blk.new W (i16s 64 fun _ => 0) 42
  have hA := hA.alloc (.cells (i16s 64 fun _ => 0) 42)
  have hS := hS.alloc (.cells (i16s 64 fun _ => 0) 42)
  have hbel := hbel.alloc hbel.size (.cells (i16s 64 fun _ => 0) 42)
  generalize W.alloc (.cells (i16s 64 fun _ => 0) 42) = W2 at *
  generalize W.heap.size = r at *
  have lS2 := hS.lt
  have lA := hA.lt
  have lO := hO.lt
  cases hv : validG g
  · have HZ : Hid (R = i16s 64 (fun _ => 0) ∧ V = 1) := Lib.hid (by rw [HF.out.1, HF.out.2]; unfold levC; rw [hv]; exact ⟨i16s_congr fun i hi => by unfold levF; rw [hv]; rfl, rfl⟩)
    rw [hv] at hvg
    clear hv
    go_wp2_with (first | (go_at_call 75; refine (hvg _ hA.gat).mono ?_; rintro e w4 ⟨rfl, m4, rfl⟩; have hS4 := hS.drewN m4; have hO4 := hO.drewN m4) | (refine wpList_load_blk rfl rfl rfl row42 hO4 (i16s_size _ _) ?_) | (refine wpList_store_blk rfl rfl rfl rfl row42 hS4 (i16s_size _ _) (i16s_size _ _) (i16s_one _ _) ?_))
    refine bodyPost_row2 rfl rfl row42 (hS4.setRow _) (i16s_size _ _) rfl ⟨?_, below_setRow (below_drewN hbel m4) (by omega) _⟩
    rw [HZ.out.1, HZ.out.2]; rfl
  · have HZ : Hid (∀ hh : Nat → Int, (∀ k, k < 64 → hh k = if isC g k then lg (g.hea k) else 0) → R = i16s 64 hh ∧ V = 0) := Lib.hid fun hh h => by
      rw [HF.out.1, HF.out.2]; unfold levC; rw [hv]
      refine ⟨i16s_congr fun i hi => ?_, rfl⟩
      rw [h i hi]; unfold levF; rw [hv]; rfl
    have HPL : Hid (∀ k, k < 64 → isC g k = true → plain (g.hea k) = true) := Lib.hid fun k hk h => (fieldIs_at (validG_parts hv).2.2.2.2.1 k hk).1 h
    rw [hv] at hvg
    clear hv HF
    have hr1 : w.heap.size + 1 < r := lS
    go_upto_region 5 with (go_at_call 75; refine (hvg _ hA.gat).mono ?_; rintro e w4 ⟨rfl, m4, rfl⟩)
    have hA := hA.drewN m4
    have hS := hS.drewN m4
    have hO := hO.drewN m4
    have hbel := below_drewN hbel m4
    generalize W2.drewN m4 = W4 at *
    clear hvg lS2 lA lO lS
    go_loopw [5] (fun i wr => ∃ (k : Nat) (hh : Nat → Int), k ≤ 64 ∧ i = .int .i64 k ∧ Hid (∀ i, i < 64 → hh i = if i < k then (if isC g i then lg (g.hea i) else 0) else 0) ∧ Blk wr w.heap.size g.cells 30 ∧ Blk wr (w.heap.size + 1) (i16s 64 fun _ => 0) 42 ∧ Blk wr r (i16s 64 hh) 42 ∧ Below w.heap.size w wr) (fun i _ => 64 - (intOf i).toNat)
    case atStart => exact ⟨0, fun _ => 0, by omega, rfl, Lib.hid fun k hk => by simp, hA, hS, hO, hbel⟩
    case round =>
      clear hA hS hO hbel
      obtain ⟨k, hh, hj, rfl, hhh, hA, hS, hO, hbel⟩ := hrel
      have lS := hS.lt
      by_cases hk64 : k < 64
      · have bk : (0 : Int) ≤ k := by omega
        have bl : (k : Int) < 64 := by omega
        have his := l01Is_any g w.heap.size k hg hk64 wr hA.gat
        have HI := Lib.hid (HPL.out k hk64)
        cases hc : isC g k <;> rw [hc] at his
        · have HC := Lib.hid hc
          clear hc
          go_wp2_with (go_at_call 76; refine his.mono ?_; rintro e w' ⟨rfl, hw⟩; rw [hw]; clear hw w')
          go_roundw
          case rel => exact ⟨k + 1, hh, by omega, by go_num, Lib.hid (fun i hi => by
            rw [hhh.out i hi]
            by_cases hik : i = k
            · subst hik; simp [HC.out]
            · simp only [show i < k + 1 ↔ i < k by omega]), hA, hS, hO, hbel⟩
          case measure => simp [intOf]; omega
        · have c1 : wr.cell? ⟨w.heap.size, 130 + k, none⟩ = some (.float .f32 (g.hea k)) := hA.gat.getH k hk64
          have hlg := HLG.out (g.hea k) wr (HI.out hc)
          have HC := Lib.hid hc
          clear hc
          have d1 := fun n => ((hO.drewN n).cell k).trans (i16s_get 64 hh k hk64)
          have f1 := fun n => (hO.drewN n).free k
          go_wp2_with (first | (go_at_call 76; refine his.mono ?_; rintro e w' ⟨rfl, hw⟩; rw [hw]; clear hw w') | (go_at_call 77; refine hlg.mono ?_; rintro e w' ⟨rfl, n, rfl⟩; have d1 := d1 n; have f1 := f1 n))
          go_roundw
          case rel =>
            refine ⟨k + 1, updI hh k (lg (g.hea k)), by omega, by go_num, Lib.hid fun i hi => ?_, (hA.drewN n).setOther (a := ⟨r, k, none⟩) _ (by show w.heap.size ≠ r; omega), (hS.drewN n).setOther (a := ⟨r, k, none⟩) _ (by show w.heap.size + 1 ≠ r; omega), ?_, (below_drewN hbel n).setCell (p := ⟨r, k, none⟩) (by show w.heap.size ≤ r; omega) _⟩
            · unfold updI
              by_cases hik : i = k
              · subst hik; simp [HC.out]
              · simp only [hik, if_false, show i < k + 1 ↔ i < k by omega]; exact hhh.out i hi
            · have := (hO.drewN n).setCell k (.int .i16 (lg (g.hea k)))
              rw [i16s_set _ _ _ _ hk64] at this
              exact this
          case measure => simp [intOf]; omega
      · obtain rfl : k = 64 := by omega
        have HE := Lib.hid (HZ.out hh (fun k hk => by have := hhh.out k hk; rwa [if_pos hk] at this))
        go_wp2_with (first | (refine wpList_load_blk rfl rfl rfl row42 hO (i16s_size _ _) ?_) | (refine wpList_store_blk rfl rfl rfl rfl row42 hS (i16s_size _ _) (i16s_size _ _) (i16s_one _ _) ?_))
        refine bodyPost_row2 rfl rfl row42 (hS.setRow _) (i16s_size _ _) rfl ⟨?_, below_setRow hbel (by omega) _⟩
        rw [HE.out.1, HE.out.2]; rfl
end Go.Proofs.Ytnfoemgiebplmaa
