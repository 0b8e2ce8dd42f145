/- The law over ValidOffice: the walk through the law's own function; offices that a caller hands in, opened. -/
import Derived.Test.YtililmlgladnaaaOfficeV
import Derived.Test.YtililmlgladnaaaOpenPm
import Derived.Test.YtililmlgladnaaaLoose
namespace Go.Proofs.Ytililmlgladnaaa
open Go.ChangeShapes Go.WideShapes Go.ChangeAt Go.RowKit
set_option linter.unusedVariables false
set_option linter.unusedSimpArgs false
attribute [local irreducible] Calls

set_option maxRecDepth 100000 in
set_option maxHeartbeats 400000 in
theorem eqOffice_same (g : Gr) (v u : Value) (n : Nat) (P : Nat → Wt) (w : World) (hv : WSl w v n P) (hu : WSl w u n P) :
    Calls Try.prog 41 #[.agg (ofc g v), .agg (ofc g u)] w fun e w' => e = .returned (.bool true) ∧ Below w.heap.size w w' := by
  obtain ⟨a, c, rfl, hf1⟩ := id hv
  obtain ⟨a', c', rfl, hf2⟩ := id hu
  clear hf1 hf2
  have heq := fun w' => eqGround_alike g g (GrEq.refl g) w'
  go_enter Try.func41, Try.ntmps41
  go_upto_region 1 with (refine wpList_box_as rfl rfl rfl ?_)
  have hA : Blk ((w.alloc (.cells (ofc g (.slice a n c)) 76)).alloc (.cells (ofc g (.slice a' n c')) 76)) w.heap.size (ofc g (.slice a n c)) 76 := (Blk.new _ _ _).alloc _
  have hB : Blk ((w.alloc (.cells (ofc g (.slice a n c)) 76)).alloc (.cells (ofc g (.slice a' n c')) 76)) (w.heap.size + 1) (ofc g (.slice a' n c')) 76 := Blk.new1 _ _ _ _
  have hbel := below2 w (.cells (ofc g (.slice a n c)) 76) (.cells (ofc g (.slice a' n c')) 76)
  generalize ((w.alloc (.cells (ofc g (.slice a n c)) 76)).alloc (.cells (ofc g (.slice a' n c')) 76)) = W at *
  have lA := hA.lt
  have lB := hB.lt
  go_upto_region 3 with (first
    | (refine wpList_load_part rfl rfl rfl row66 hA (by rw [ofc_size]; omega) ?_; rw [Nat.zero_add, ofc_ext])
    | (refine wpList_load_part rfl rfl rfl row66 hB (by rw [ofc_size]; omega) ?_; rw [Nat.zero_add, ofc_ext])
    | (go_at_call 49; refine (heq _).mono ?_; rintro e W1 ⟨rfl, hb1⟩))
  have cA : W1.cell? ⟨w.heap.size, 195, none⟩ = some (.slice a n c) := ((hA.below hb1 lA).cell _).trans (ofc_last _ _)
  have cB : W1.cell? ⟨w.heap.size + 1, 195, none⟩ = some (.slice a' n c') := ((hB.below hb1 lB).cell _).trans (ofc_last _ _)
  have hbel := hbel.trans (hb1.mono hbel.size)
  have hw := eqWatchS_same n P _ _ W1 (hv.below hbel) (hu.below hbel)
  go_wp2_with (go_at_call 85; refine hw.mono ?_; rintro e W2 ⟨rfl, hb2⟩)
  go_ret
  exact ⟨rfl, hbel.trans (hb2.mono hbel.size)⟩

set_option maxRecDepth 100000 in
set_option maxHeartbeats 400000 in
theorem lawOffice (v : Value) (p : Gr × Nat × (Nat → Wt)) (w : World) (hp : p.1.ok ∧ WSl w v p.2.1 p.2.2 ∧ (∀ i, i < p.2.1 → (p.2.2 i).ok) ∧ p.2.1 ≤ maxLen) :
    Calls Try.prog 9 #[.agg (ofc p.1 v)] w fun e w' => e = .returned (.bool true) ∧ Below w.heap.size w w' := by
  obtain ⟨g, n, P⟩ := p
  obtain ⟨hg, hv, hP, hmax⟩ := hp
  simp only at hg hv hP hmax ⊢
  unfold maxLen at hmax
  obtain ⟨a, c, rfl, hform⟩ := id hv
  clear hform
  by_cases hbig : n ≤ 1048576
  · have hsz := fun w' => szOffice_any g a n c 1048576 (by omega) (by decide) (by decide) w'
    rw [if_neg (by omega)] at hsz
    have b1 : (0 : Int) ≤ 1048576 - n := by omega
    have hd : decide ((1048576 : Int) - n < 0) = false := by simp; omega
    have hto := fun w' (hb : Below w.heap.size w w') => toOffice_any g _ n P hbig w' (hv.below hb)
    have hspec := fun v' w' (h' : WSl w' v' n P) => specValidOffice_any g v' n P hg hP w' h'
    have himpl := fun v' w' (h' : WSl w' v' n P) => validOffice_any g v' n P hg hP w' h'
    generalize validO g n P = V at *
    have hV : (V != V) = false := by simp
    go_enter Try.func9, Try.ntmps9
    go_upto_region 1 with (refine wpList_box_as rfl rfl rfl ?_)
    have hA : Blk (w.alloc (.cells (ofc g (.slice a n c)) 71)) w.heap.size (ofc g (.slice a n c)) 71 := Blk.new _ _ _
    have hbel := below1 w (.cells (ofc g (.slice a n c)) 71)
    generalize w.alloc (.cells (ofc g (.slice a n c)) 71) = W at *
    have lA := hA.lt
    go_upto_region 5 with (first | (refine wpList_load_blk rfl rfl rfl row71 hA (ofc_size _ _) ?_) | (go_at_call 37; refine (hsz _).mono ?_; rintro e W1 ⟨rfl, hb1⟩))
    have hA := hA.below hb1 lA
    have hbel := hbel.trans (hb1.mono hbel.size)
    have lA := hA.lt
    clear hb1 hsz
    have hto1 := hto W1 hbel
    go_upto_region 6 with (first | (refine wpList_load_blk rfl rfl rfl row71 hA (ofc_size _ _) ?_) | (go_at_call 39; refine hto1.mono ?_; rintro e W2 ⟨r2, rfl, hr2, ho2, hb2⟩; have hsp := hspec _ W2 ho2.wsl) | (go_at_call 38; refine hsp.mono ?_; rintro e W3 ⟨rfl, hb3⟩))
    have hb3 := hb2.trans (hb3.mono hb2.size)
    have hA := hA.below hb3 lA
    have hbel := hbel.trans (hb3.mono hbel.size)
    have lA := hA.lt
    clear hb2 hb3 ho2 hr2 hsp hto1
    have hto1 := hto W3 hbel
    have size76 : (Try.prog.info? 76).map (·.size) = some 196 := by kernel_rfl
    go_upto_region 7 with (first | (refine wpList_load_blk rfl rfl rfl row71 hA (ofc_size _ _) ?_) | (go_at_call 39; refine hto1.mono ?_; rintro e W4 ⟨r4, rfl, hr4, ho4, hb4⟩) | (refine wpList_alloc_as rfl rfl zero76 ?_) | (refine wpList_store_last (c' := ofc g (.slice (some ⟨r4, 0, none⟩) n n)) rfl rfl rfl rfl rfl (by rw [ofc_size]; exact size76) (by rw [ofc_size, ofc_size]) (List.all_eq_true.2 (ofc_one _ _ rfl)) ?_))
    have hA := (hA.below hb4 lA).alloc (.cells (ofc g (.slice (some ⟨r4, 0, none⟩) n n)) 76)
    have hO := Blk.new W4 (ofc g (.slice (some ⟨r4, 0, none⟩) n n)) 76
    have ho := (ho4.alloc (.cells (ofc g (.slice (some ⟨r4, 0, none⟩) n n)) 76)).wsl
    have hbel := (hbel.trans (hb4.mono hbel.size)).alloc (hbel.trans (hb4.mono hbel.size)).size (.cells (ofc g (.slice (some ⟨r4, 0, none⟩) n n)) 76)
    generalize W4.alloc (.cells (ofc g (.slice (some ⟨r4, 0, none⟩) n n)) 76) = W5 at *
    generalize W4.heap.size = q5 at *
    clear hb4 ho4 hr4 hto1
    have lA := hA.lt
    have lO := hO.lt
    have him := himpl _ W5 ho
    go_upto_region 10 with (first | (refine wpList_load_blk rfl rfl rfl row76 hO (ofc_size _ _) ?_) | (go_at_call 40; refine him.mono ?_; rintro e W6 ⟨rfl, hb6⟩))
    have hA := hA.below hb6 lA
    have hO := hO.below hb6 lO
    have ho := ho.below hb6
    have hbel := hbel.trans (hb6.mono hbel.size)
    clear hb6 him
    have lA := hA.lt
    have lO := hO.lt
    refine wp_loose (C := fun w' => Below W6.heap.size W6 w') (R := fun w w' => Below w.heap.size w w') (F := fun w d v => match d, v with
      | 22, v => v = .agg (ofc g (.slice (some ⟨r4, 0, none⟩) n n))
      | 23, v => v = .agg (ofc g (.slice a n c))
      | 24, v => ∃ r, v = .agg (ofc g (.slice (some ⟨r, 0, none⟩) n n)) ∧ WSl w (.slice (some ⟨r, 0, none⟩) n n) n P
      | 25, v => v = .bool true
      | 26, v => v = .bool false
      | _, _ => True) ?_ (by kernel_rfl) (by kernel_rfl) (by kernel_rfl) (Below.refl _ _).drew ?_ ?_
    · intro w1 w2 d v hR hF
      split at hF
      · exact hF
      · exact hF
      · obtain ⟨r, h1, h2⟩ := hF
        exact ⟨r, h1, h2.below hR⟩
      · exact hF
      · exact hF
      · trivial
    · refine steps_cons (step_go rfl fun ev w1 hC k => ?_) ?_
      · have e := k.out 5 rfl rfl rfl
        exact good_of rfl (load_blk e row76 (hO.below hC lO) (ofc_size _ _)) hC (Below.refl _ _) rfl
      refine steps_cons (step_go rfl fun ev w1 hC k => ?_) ?_
      · have e := k.out 1 rfl rfl rfl
        exact good_of rfl (load_blk e row71 (hA.below hC lA) (ofc_size _ _)) hC (Below.refl _ _) rfl
      refine steps_cons (step_go rfl fun ev w1 hC k => ?_) ?_
      · have e2 : ev (.tmp 23) = .agg (ofc g (.slice a n c)) := k.inn 23 rfl rfl
        refine good_call (f := 39) (args := #[.agg (ofc g (.slice a n c))]) rfl (by simp [execOp, e2, k.fn, go_sem]) ((hto w1 (hbel.trans (hC.mono hbel.size))).mono fun e w2 ⟨r, he, h1, h2, h3⟩ => ⟨_, he, hC.trans (h3.mono hC.size), h3, r, rfl, h2.wsl⟩)
      refine steps_cons (step_go rfl fun ev w1 hC k => ?_) ?_
      · have e1 : ev (.tmp 22) = .agg (ofc g (.slice (some ⟨r4, 0, none⟩) n n)) := k.inn 22 rfl rfl
        obtain ⟨r, e2, hr⟩ : ∃ r, ev (.tmp 24) = .agg (ofc g (.slice (some ⟨r, 0, none⟩) n n)) ∧ WSl w1 (.slice (some ⟨r, 0, none⟩) n n) n P := k.inn 24 rfl rfl
        refine good_call (f := 41) (args := #[.agg (ofc g (.slice (some ⟨r4, 0, none⟩) n n)), .agg (ofc g (.slice (some ⟨r, 0, none⟩) n n))]) rfl (by simp [execOp, e1, e2, k.fn, go_sem]) ((eqOffice_same g _ _ n P w1 (ho.below hC) hr).mono fun e w2 ⟨he, h3⟩ => ⟨_, he, hC.trans (h3.mono hC.size), h3, rfl⟩)
      refine steps_cons (step_go rfl fun ev w1 hC k => ?_) ?_
      · have e2 : ev (.tmp 25) = .bool true := k.inn 25 rfl rfl
        exact good_of (v := .bool false) rfl (by simp [execOp, e2, go_sem]) hC (Below.refl _ _) rfl
      exact steps_nil
    · intro x w1 hx hC
      have y : x 26 = .bool false := hx 26 (by decide)
      simp only [fill, dstsOf, List.filterMap_cons, List.filterMap_nil, List.foldl_cons, List.foldl_nil, List.set_cons_succ, List.set_cons_zero, y]
      go_wp2_with fail
      go_ret
      exact ⟨rfl, hbel.trans (hC.mono hbel.size)⟩
  · have hsz := fun w' => szOffice_any g a n c 1048576 (by omega) (by decide) (by decide) w'
    rw [if_pos (by omega)] at hsz
    go_enter Try.func9, Try.ntmps9
    go_upto_region 1 with (refine wpList_box_as rfl rfl rfl ?_)
    have hA : Blk (w.alloc (.cells (ofc g (.slice a n c)) 71)) w.heap.size (ofc g (.slice a n c)) 71 := Blk.new _ _ _
    have hbel := below1 w (.cells (ofc g (.slice a n c)) 71)
    generalize w.alloc (.cells (ofc g (.slice a n c)) 71) = W at *
    go_wp2_with (first | (refine wpList_load_blk rfl rfl rfl row71 hA (ofc_size _ _) ?_) | (go_at_call 37; refine (hsz _).mono ?_; rintro e W1 ⟨rfl, hb1⟩))
    go_ret
    exact ⟨rfl, hbel.trans (hb1.mono hbel.size)⟩
end Go.Proofs.Ytililmlgladnaaa
