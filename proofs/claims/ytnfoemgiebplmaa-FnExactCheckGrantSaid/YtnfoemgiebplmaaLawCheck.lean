/- The law over CheckGrant: the walk through the law's own function. -/
import Derived.Test.YtnfoemgiebplmaaCheck
import Derived.Test.YtnfoemgiebplmaaLawOffice
import Derived.Test.YtnfoemgiebplmaaLawStep
namespace Go.Proofs.Ytnfoemgiebplmaa
open Go.ChangeShapes Go.WideShapes Go.ChangeAt Go.RowKit
set_option linter.unusedVariables false
set_option linter.unusedSimpArgs false
attribute [local irreducible] Calls

set_option maxRecDepth 100000 in
set_option maxHeartbeats 400000 in
theorem lawCheckGrant (v : Value) (p : Gr × Nat × (Nat → Wt)) (u : Value) (q : Nat × (Nat → Pm)) (y : Value) (s : Nat × (Nat → Int)) (w : World) (hp : p.1.ok ∧ WSl w v p.2.1 p.2.2 ∧ (∀ i, i < p.2.1 → (p.2.2 i).ok) ∧ p.2.1 ≤ maxLen) (hq : PSl w u q.1 q.2 ∧ (∀ i, i < q.1 → (q.2 i).ok) ∧ q.1 ≤ maxLen) (hs : ISl w y s.1 s.2 ∧ s.1 ≤ maxLen) :
    Calls Try.prog 12 #[.agg (ofc p.1 v), u, y] w fun e w' => e = .returned (.bool true) ∧ Below w.heap.size w w' := by
  obtain ⟨g, n, P⟩ := p
  obtain ⟨m, Q⟩ := q
  obtain ⟨hg, hv, hP, hmax⟩ := hp
  obtain ⟨hu, hQ, hmax'⟩ := hq
  obtain ⟨l, f⟩ := s
  obtain ⟨hy, hmax2⟩ := hs
  simp only at hg hv hP hmax hu hQ hmax' hy hmax2 ⊢
  unfold maxLen at hmax hmax' hmax2
  obtain ⟨a, c, rfl, hform⟩ := id hv
  obtain ⟨a', c', rfl, hform'⟩ := id hu
  obtain ⟨a2, c2, rfl, hform2⟩ := id hy
  clear hform hform' hform2
  by_cases hbig3 : l ≤ 1048576
  · have bl : decide ((1048576 : Int) < l) = false := by simp; omega
    have hsz0 := fun w' => szOffice_any g a n c 1048576 (by omega) (by decide) (by decide) w'
    by_cases hbig : n ≤ 1048576
    · rw [if_neg (by omega)] at hsz0
      have b1 : (0 : Int) ≤ 1048576 - n := by omega
      have hd : decide ((1048576 : Int) - n < 0) = false := by simp; omega
      have hsz1 := fun w' => szPermitS_any a' m c' (1048576 - n) (by omega) (by omega) (by omega) w'
      by_cases hbig2 : (m : Int) ≤ 1048576 - n
      · rw [if_neg (by omega)] at hsz1
        have b2 : (0 : Int) ≤ 1048576 - n - m := by omega
        have hd2 : decide ((1048576 : Int) - n - m < 0) = false := by simp; omega
        have hto := fun w' (hb : Below w.heap.size w w') => toOffice_any g _ n P hbig w' (hv.below hb)
        have htp := fun w' (hb : Below w.heap.size w w') => toPermitS_any m Q _ (by omega) w' (hu.below hb)
        have hti := fun w' (hb : Below w.heap.size w w') => toI_any l f _ hbig3 w' (hy.below hb)
        have heqI := fun v' u' w' (h1 : ISl w' v' l f) (h2 : ISl w' u' l f) => eqIS_any l l f f v' u' w' h1 h2
        have hss : sameIL l l f f = true := by unfold sameIL; rw [(anyTo_false (q := fun i => f i != f i) (P := fun i : Nat => i)).2 (fun i hi => by simp)]; simp
        rw [hss] at heqI
        have hspec := fun v' u' y' w' (h' : WSl w' v' n P) (h2 : PSl w' u' m Q) (h3 : ISl w' y' l f) => specCheckGrant_any g v' u' y' n m l P Q f hg hP hQ w' h' h2 h3
        have himpl := fun v' u' y' w' (h' : WSl w' v' n P) (h2 : PSl w' u' m Q) (h3 : ISl w' y' l f) => checkGrant_any g v' u' y' n m l P Q f hg hP hQ w' h' h2 h3
        generalize (cgT g n P m Q l f).1 = R at *
        generalize (cgT g n P m Q l f).2 = V at *
        have hR : (R != R) = false := by simp
        have hV : (V != V) = false := by simp
        go_enter Try.func12, Try.ntmps12
        go_upto_region 1 with (refine wpList_box_as rfl rfl rfl ?_)
        have hA : Blk (w.alloc (.cells (ofc g (.slice a n c)) 49)) w.heap.size (ofc g (.slice a n c)) 49 := Blk.new _ _ _
        have hbel := below1 w (.cells (ofc g (.slice a n c)) 49)
        generalize w.alloc (.cells (ofc g (.slice a n c)) 49) = W at *
        have lA := hA.lt
        go_upto_region 10 with (first | (refine wpList_load_blk rfl rfl rfl row71 hA (ofc_size _ _) ?_) | (go_at_call 26; refine (hsz0 _).mono ?_; rintro e W1 ⟨rfl, hb1⟩) | (go_at_call 27; refine (hsz1 _).mono ?_; rintro e w' ⟨rfl, hw⟩; rw [hw]; clear hw w'))
        have hA := hA.below hb1 lA
        have hbel := hbel.trans (hb1.mono hbel.size)
        have lA := hA.lt
        clear hb1 hsz0 hsz1
        have hto1 := hto W1 hbel
        go_upto_region 11 with (first | (refine wpList_load_blk rfl rfl rfl row71 hA (ofc_size _ _) ?_) | (go_at_call 29; refine hto1.mono ?_; rintro e W2 ⟨r2, rfl, hr2, ho2, hb2⟩; have htp2 := htp W2 (hbel.trans (hb2.mono hbel.size))) | (go_at_call 30; refine htp2.mono ?_; rintro e W3 ⟨g3, rfl, hg3, hp3, hb3⟩; have hti3 := hti W3 ((hbel.trans (hb2.mono hbel.size)).trans (hb3.mono (hbel.trans (hb2.mono hbel.size)).size))) | (go_at_call 49; refine hti3.mono ?_; rintro e W3i ⟨gi, rfl, hgi, hi3, hbi⟩; have hsp := hspec _ _ _ W3i ((ho2.wsl.below hb3).below hbi) (hp3.psl.below hbi) hi3) | (go_at_call 48; refine hsp.mono ?_; rintro e W4 ⟨rfl, hb4⟩))
        have hbi4 := hbi.trans (hb4.mono hbi.size)
        have hb3 := hb2.trans ((hb3.trans (hbi4.mono hb3.size)).mono hb2.size)
        have hA := hA.below hb3 lA
        have hbel := hbel.trans (hb3.mono hbel.size)
        clear hb2 hb3 hb4 ho2 hr2 hsp hto1 htp2 hp3 hg3 hbi hbi4 hti3 hi3 hgi
        obtain ⟨WX, rfl⟩ : ∃ WX, WX = W4 := ⟨_, rfl⟩
        have lA := hA.lt
        have hto1 := hto WX hbel
        have size76 : (Try.prog.info? 56).map (·.size) = some 196 := by kernel_rfl
        go_upto_region 12 with (first | (refine wpList_load_blk rfl rfl rfl row71 hA (ofc_size _ _) ?_) | (go_at_call 29; refine hto1.mono ?_; rintro e W5 ⟨r4, rfl, hr4, ho4, hb4⟩) | (refine wpList_alloc_as rfl rfl zero76 ?_) | (refine wpList_store_last (c' := ofc g (.slice (some ⟨r4, 0, none⟩) n n)) rfl rfl rfl rfl rfl (by rw [ofc_size]; exact size76) (by rw [ofc_size, ofc_size]) (List.all_eq_true.2 (ofc_one _ _ rfl)) ?_))
        have hA := (hA.below hb4 lA).alloc (.cells (ofc g (.slice (some ⟨r4, 0, none⟩) n n)) 56)
        have hO := Blk.new W5 (ofc g (.slice (some ⟨r4, 0, none⟩) n n)) 56
        have ho := (ho4.alloc (.cells (ofc g (.slice (some ⟨r4, 0, none⟩) n n)) 56)).wsl
        have hbel := (hbel.trans (hb4.mono hbel.size)).alloc (hbel.trans (hb4.mono hbel.size)).size (.cells (ofc g (.slice (some ⟨r4, 0, none⟩) n n)) 56)
        generalize W5.alloc (.cells (ofc g (.slice (some ⟨r4, 0, none⟩) n n)) 56) = W6 at *
        generalize W5.heap.size = q5 at *
        clear hb4 ho4 hr4 hto1
        have lA := hA.lt
        have lO := hO.lt
        have htp2 := htp W6 hbel
        go_upto_region 13 with (go_at_call 30; refine htp2.mono ?_; rintro e W7 ⟨g8, rfl, hg8, hp8, hb7⟩)
        have hA := hA.below hb7 lA
        have hO := hO.below hb7 lO
        have ho := ho.below hb7
        have hbel := hbel.trans (hb7.mono hbel.size)
        have hp8 := hp8.psl
        clear hb7 hg8 htp2
        have lA := hA.lt
        have lO := hO.lt
        have hti7 := hti W7 hbel
        go_upto_region 14 with (go_at_call 49; refine hti7.mono ?_; rintro e W7i ⟨gj, rfl, hgj, hij, hbj⟩)
        have hA := hA.below hbj lA
        have hO := hO.below hbj lO
        have ho := ho.below hbj
        have hp8 := hp8.below hbj
        have hbel := hbel.trans (hbj.mono hbel.size)
        clear hbj hti7 hgj
        have lA := hA.lt
        have lO := hO.lt
        have him := himpl _ _ _ W7i ho hp8 hij
        go_upto_region 15 with (first | (refine wpList_load_blk rfl rfl rfl row76 hO (ofc_size _ _) ?_) | (go_at_call 50; refine him.mono ?_; rintro e W8 ⟨rfl, hb6⟩))
        have hA := hA.below hb6 lA
        have hO := hO.below hb6 lO
        have ho := ho.below hb6
        have hp8 := hp8.below hb6
        have hij := hij.below hb6
        have hbel := hbel.trans (hb6.mono hbel.size)
        clear hb6 him
        obtain ⟨WZ, rfl⟩ : ∃ WZ, WZ = W8 := ⟨_, rfl⟩
        go_upto_region 17 with fail
        have lA := hA.lt
        have lO := hO.lt
        refine wp_loose (C := fun w' => Below WZ.heap.size WZ w') (R := fun w w' => Below w.heap.size w w') (F := fun w d v => match d, v with
          | 59, v => v = .agg (ofc g (.slice (some ⟨r4, 0, none⟩) n n))
          | 60, v => v = .agg (ofc g (.slice a n c))
          | 61, v => ∃ r, v = .agg (ofc g (.slice (some ⟨r, 0, none⟩) n n)) ∧ WSl w (.slice (some ⟨r, 0, none⟩) n n) n P
          | 62, v => v = .bool true
          | 63, v => v = .bool false
          | _, _ => True) ?_ (by kernel_rfl) (by kernel_rfl) (by kernel_rfl) (Below.refl _ _).drew ?_ ?_
        · intro w1 w2 d v hR hF
          split at hF
          · exact hF
          · exact hF
          · obtain ⟨r, h1, h2⟩ := hF
            exact ⟨r, h1, h2.below hR⟩
          · exact hF
          · exact hF
          · trivial
        · refine steps_cons (step_go rfl fun ev w1 hC k => ?_) ?_
          · have e := k.out 10 rfl rfl rfl
            exact good_of rfl (load_blk e row76 (hO.below hC lO) (ofc_size _ _)) hC (Below.refl _ _) rfl
          refine steps_cons (step_go rfl fun ev w1 hC k => ?_) ?_
          · have e := k.out 3 rfl rfl rfl
            exact good_of rfl (load_blk e row71 (hA.below hC lA) (ofc_size _ _)) hC (Below.refl _ _) rfl
          refine steps_cons (step_go rfl fun ev w1 hC k => ?_) ?_
          · have e2 : ev (.tmp 60) = .agg (ofc g (.slice a n c)) := k.inn 60 rfl rfl
            refine good_call (f := 29) (args := #[.agg (ofc g (.slice a n c))]) rfl (by simp [execOp, e2, k.fn, go_sem]) ((hto w1 (hbel.trans (hC.mono hbel.size))).mono fun e w2 ⟨r, he, h1, h2, h3⟩ => ⟨_, he, hC.trans (h3.mono hC.size), h3, r, rfl, h2.wsl⟩)
          refine steps_cons (step_go rfl fun ev w1 hC k => ?_) ?_
          · have e1 : ev (.tmp 59) = .agg (ofc g (.slice (some ⟨r4, 0, none⟩) n n)) := k.inn 59 rfl rfl
            obtain ⟨r, e2, hr⟩ : ∃ r, ev (.tmp 61) = .agg (ofc g (.slice (some ⟨r, 0, none⟩) n n)) ∧ WSl w1 (.slice (some ⟨r, 0, none⟩) n n) n P := k.inn 61 rfl rfl
            refine good_call (f := 32) (args := #[.agg (ofc g (.slice (some ⟨r4, 0, none⟩) n n)), .agg (ofc g (.slice (some ⟨r, 0, none⟩) n n))]) rfl (by simp [execOp, e1, e2, k.fn, go_sem]) ((eqOffice_same g _ _ n P w1 (ho.below hC) hr).mono fun e w2 ⟨he, h3⟩ => ⟨_, he, hC.trans (h3.mono hC.size), h3, rfl⟩)
          refine steps_cons (step_go rfl fun ev w1 hC k => ?_) ?_
          · have e2 : ev (.tmp 62) = .bool true := k.inn 62 rfl rfl
            exact good_of (v := .bool false) rfl (by simp [execOp, e2, go_sem]) hC (Below.refl _ _) rfl
          exact steps_nil
        · intro x w1 hx hC
          have y : x 63 = .bool false := hx 63 (by decide)
          simp only [fill, dstsOf, List.filterMap_cons, List.filterMap_nil, List.foldl_cons, List.foldl_nil, List.set_cons_succ, List.set_cons_zero, y]
          have hbel := hbel.trans (hC.mono hbel.size)
          have htp2 := htp w1 hbel
          have hp8 := hp8.below hC
          have hij := hij.below hC
          go_upto_region 21 with (first | (go_at_call 30; refine htp2.mono ?_; rintro e W9 ⟨g9, rfl, hg9, hp9, hb9⟩; have heq9 := eqPermitS_same m Q _ _ W9 (hp8.below hb9) hp9.psl) | (go_at_call 33; refine heq9.mono ?_; rintro e W10 ⟨rfl, hb10⟩))
          have hbx := hb9.trans (hb10.mono hb9.size)
          have hij := hij.below hbx
          have hbel := hbel.trans (hbx.mono hbel.size)
          have hti10 := hti W10 hbel
          clear hbx hb9 hb10
          go_wp2_with (first | (go_at_call 49; refine hti10.mono ?_; rintro e W11 ⟨gk, rfl, hgk, hik, hbk⟩; have hq := heqI _ _ W11 (hij.below hbk) hik) | (go_at_call 51; refine hq.mono ?_; rintro e w' ⟨rfl, q21, rfl⟩))
          go_ret
          exact ⟨rfl, below_drewN (hbel.trans (hbk.mono hbel.size)) _⟩
      · rw [if_pos (by omega)] at hsz1
        go_enter Try.func12, Try.ntmps12
        go_upto_region 1 with (refine wpList_box_as rfl rfl rfl ?_)
        have hA : Blk (w.alloc (.cells (ofc g (.slice a n c)) 49)) w.heap.size (ofc g (.slice a n c)) 49 := Blk.new _ _ _
        have hbel := below1 w (.cells (ofc g (.slice a n c)) 49)
        generalize w.alloc (.cells (ofc g (.slice a n c)) 49) = W at *
        have lA := hA.lt
        go_wp2_with (first | (refine wpList_load_blk rfl rfl rfl row71 hA (ofc_size _ _) ?_) | (go_at_call 26; refine (hsz0 _).mono ?_; rintro e W1 ⟨rfl, hb1⟩) | (go_at_call 27; refine (hsz1 _).mono ?_; rintro e w' ⟨rfl, hw⟩; rw [hw]; clear hw w'))
        go_ret
        exact ⟨rfl, hbel.trans (hb1.mono hbel.size)⟩
    · rw [if_pos (by omega)] at hsz0
      go_enter Try.func12, Try.ntmps12
      go_upto_region 1 with (refine wpList_box_as rfl rfl rfl ?_)
      have hA : Blk (w.alloc (.cells (ofc g (.slice a n c)) 49)) w.heap.size (ofc g (.slice a n c)) 49 := Blk.new _ _ _
      have hbel := below1 w (.cells (ofc g (.slice a n c)) 49)
      generalize w.alloc (.cells (ofc g (.slice a n c)) 49) = W at *
      have lA := hA.lt
      go_wp2_with (first | (refine wpList_load_blk rfl rfl rfl row71 hA (ofc_size _ _) ?_) | (go_at_call 26; refine (hsz0 _).mono ?_; rintro e W1 ⟨rfl, hb1⟩))
      go_ret
      exact ⟨rfl, hbel.trans (hb1.mono hbel.size)⟩
  · have bl : decide ((1048576 : Int) < l) = true := by simp; omega
    have bl0 : (l : Int) ≤ 9223372036854775807 := by omega
    go_enter Try.func12, Try.ntmps12
    go_upto_region 1 with (refine wpList_box_as rfl rfl rfl ?_)
    have hbel := below1 w (.cells (ofc g (.slice a n c)) 49)
    generalize w.alloc (.cells (ofc g (.slice a n c)) 49) = W at *
    go_wp2_with fail
    go_ret
    exact ⟨rfl, hbel⟩
end Go.Proofs.Ytnfoemgiebplmaa
