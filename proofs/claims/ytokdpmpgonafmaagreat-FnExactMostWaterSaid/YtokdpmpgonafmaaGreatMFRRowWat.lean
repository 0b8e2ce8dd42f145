import Derived.Test.YtokdpmpgonafmaaGreatMF33
import Derived.Test.YtokdpmpgonafmaaGreatMF23
import Derived.Test.YtokdpmpgonafmaaGreatMF34
import Derived.Below
import Derived.Carry
import Derived.ChangeOld
import Derived.OpenShut
import Derived.ShutString
/- The law over MostWater: the walk through the law's own function. -/
namespace Go.Proofs.YtokdpmpgonafmaaGreat
open Go.ChangeShapes Go.WideShapes Go.ChangeAt Go.RowKit
set_option linter.unusedVariables false
set_option linter.unusedSimpArgs false
attribute [local irreducible] Calls

set_option maxRecDepth 100000 in
set_option maxHeartbeats 400000 in
theorem lawMostWater (v : Value) (p : Gr × Nat × (Nat → Wt)) (u : Value) (q : Nat × (Nat → Pm)) (w : World) (hp : p.1.ok ∧ WSl w v p.2.1 p.2.2 ∧ (∀ i, i < p.2.1 → (p.2.2 i).ok) ∧ p.2.1 ≤ maxLen) (hq : PSl w u q.1 q.2 ∧ (∀ i, i < q.1 → (q.2 i).ok) ∧ q.1 ≤ maxLen) :
    Calls Tryz.prog 4 #[.agg (ofc p.1 v), u] w fun e w' => e = .returned (.bool true) ∧ Below w.heap.size w w' := by
  obtain ⟨g, n, P⟩ := p
  obtain ⟨m, Q⟩ := q
  obtain ⟨hg, hv, hP, hmax⟩ := hp
  obtain ⟨hu, hQ, hmax'⟩ := hq
  simp only at hg hv hP hmax hu hQ hmax' ⊢
  unfold maxLen at hmax hmax'
  obtain ⟨a, c, rfl, hform⟩ := id hv
  obtain ⟨a', c', rfl, hform'⟩ := id hu
  clear hform hform'
  have hsz0 := fun w' => szOffice_any g a n c 1048576 (by omega) (by decide) (by decide) w'
  by_cases hbig : n ≤ 1048576
  · rw [if_neg (by omega)] at hsz0
    have b1 : (0 : Int) ≤ 1048576 - n := by omega
    have hd : decide ((1048576 : Int) - n < 0) = false := by simp; omega
    have hsz1 := fun w' => szPermitS_any a' m c' (1048576 - n) (by omega) (by omega) (by omega) w'
    by_cases hbig2 : (m : Int) ≤ 1048576 - n
    · rw [if_neg (by omega)] at hsz1
      have b2 : (0 : Int) ≤ 1048576 - n - m := by omega
      have hd2 : decide ((1048576 : Int) - n - m < 0) = false := by simp; omega
      have hto := fun w' (hb : Below w.heap.size w w') => toOffice_any g _ n P hbig w' (hv.below hb)
      have htp := fun w' (hb : Below w.heap.size w w') => toPermitS_any m Q _ (by omega) w' (hu.below hb)
      have hspec := fun v' u' w' (h' : WSl w' v' n P) (h2 : PSl w' u' m Q) => specWatB g v' u' n m P Q hg hP hQ w' h' h2
      have himpl := fun v' u' w' (h' : WSl w' v' n P) (h2 : PSl w' u' m Q) => watB g v' u' n m P Q hg hP hQ w' h' h2
      have hNle : mwN g n P m Q ≤ 1048576 := mwN_le
      have hfn := mwN_eq g n P m Q
      generalize (mwT g n P m Q).2 = V at *
      generalize mwS g n P m Q = S at *
      have hS : (S != S) = false := by simp
      generalize hNe : mwN g n P m Q = N at *
      generalize mwL g n P m Q = F at *
      have heq := fun g1 g2 v u w' h1 h2 => eqI_same N g1 g2 F v u hNle hfn w' h1 h2
      have hmk := fun g v w' h => markI_any N g F v 1 (by decide) hNle w' h
      have hhe := fun g v w' h => heldI_any N g v 1 (by decide) hNle w' h
      have hmo := fun r xs w' h => markO_any g n r xs 1 (by decide) hbig w' h
      have hmp := fun r v w' h => markPm_any m r Q v (1 + 2 * n) (by omega) (by omega) w' h
      have hNN : decide ((1 : Int) + N = 1 + N) = true := by simp
      have hN0 : decide ((1 : Int) + N < 0) = false := by simp; omega
      have hn0 : decide ((1 : Int) + 2 * n + 3 * m < 0) = false := by simp; omega
      clear hNe
      have hV : (V != V) = false := by simp
      go_enter Tryz.func4, Tryz.ntmps4
      go_upto_region 1 with (refine wpList_box_as rfl rfl rfl ?_)
      have hA : Blk (w.alloc (.cells (ofc g (.slice a n c)) 30)) w.heap.size (ofc g (.slice a n c)) 30 := Blk.new _ _ _
      have hbel := below1 w (.cells (ofc g (.slice a n c)) 30)
      generalize w.alloc (.cells (ofc g (.slice a n c)) 30) = W at *
      have lA := hA.lt
      go_upto_region 8 with (first | (refine wpList_load_blk rfl rfl rfl row71 hA (ofc_size _ _) ?_) | (go_at_call 6; refine (hsz0 _).mono ?_; rintro e W1 ⟨rfl, hb1⟩) | (go_at_call 7; refine (hsz1 _).mono ?_; rintro e w' ⟨rfl, hw⟩; rw [hw]; clear hw w'))
      have hA := hA.below hb1 lA
      have hbel := hbel.trans (hb1.mono hbel.size)
      have lA := hA.lt
      clear hb1 hsz0 hsz1
      have hto1 := hto W1 hbel
      go_upto_region 9 with (first | (refine wpList_load_blk rfl rfl rfl row71 hA (ofc_size _ _) ?_) | (go_at_call 9; refine hto1.mono ?_; rintro e W2 ⟨r2, rfl, hr2, ho2, hb2⟩; have htp2 := htp W2 (hbel.trans (hb2.mono hbel.size))) | (go_at_call 10; refine htp2.mono ?_; rintro e W3 ⟨g3, rfl, hg3, hp3, hb3⟩; have hsp := hspec _ _ W3 (ho2.wsl.below hb3) hp3.psl) | (go_at_call 19; refine hsp.mono ?_; rintro e W4 ⟨v6, r6, rfl, hr6, hR6, hb4⟩))
      have hb3 := hb2.trans ((hb3.trans (hb4.mono hb3.size)).mono hb2.size)
      have hA := hA.below hb3 lA
      have hbel := hbel.trans (hb3.mono hbel.size)
      clear hb2 hb3 hb4 ho2 hr2 hsp hto1 htp2 hp3 hg3
      obtain ⟨WX, rfl⟩ : ∃ WX, WX = W4 := ⟨_, rfl⟩
      have lA := hA.lt
      have hto1 := hto WX hbel
      have size76 : (Tryz.prog.info? 42).map (·.size) = some 196 := by kernel_rfl
      go_upto_region 10 with (first | (refine wpList_load_blk rfl rfl rfl row71 hA (ofc_size _ _) ?_) | (go_at_call 9; refine hto1.mono ?_; rintro e W5 ⟨r4, rfl, hr4, ho4, hb4⟩) | (refine wpList_alloc_as rfl rfl zero76 ?_) | (refine wpList_store_last (c' := ofc g (.slice (some ⟨r4, 0, none⟩) n n)) rfl rfl rfl rfl rfl (by rw [ofc_size]; exact size76) (by rw [ofc_size, ofc_size]) (List.all_eq_true.2 (ofc_one _ _ rfl)) ?_))
      have hA := (hA.below hb4 lA).alloc (.cells (ofc g (.slice (some ⟨r4, 0, none⟩) n n)) 42)
      have hO := Blk.new W5 (ofc g (.slice (some ⟨r4, 0, none⟩) n n)) 42
      have h64 := hR6.ne hr4
      have hwr4 : w.heap.size < r4 := Nat.lt_of_lt_of_le lA hr4
      have hoo := ho4.alloc (.cells (ofc g (.slice (some ⟨r4, 0, none⟩) n n)) 42)
      have ho := hoo.wsl
      have hR6 := (hR6.below hb4).below (below1 W5 (.cells (ofc g (.slice (some ⟨r4, 0, none⟩) n n)) 42))
      have hbel := (hbel.trans (hb4.mono hbel.size)).alloc (hbel.trans (hb4.mono hbel.size)).size (.cells (ofc g (.slice (some ⟨r4, 0, none⟩) n n)) 42)
      generalize W5.alloc (.cells (ofc g (.slice (some ⟨r4, 0, none⟩) n n)) 42) = W6 at *
      generalize W5.heap.size = q5 at *
      clear hb4 ho4 hr4 hto1
      have lA := hA.lt
      have lO := hO.lt
      have htp2 := htp W6 hbel
      go_upto_region 11 with (go_at_call 10; refine htp2.mono ?_; rintro e W7 ⟨g8, rfl, hg8, hp8, hb7⟩)
      have hA := hA.below hb7 lA
      have hO := hO.below hb7 lO
      have ho := ho.below hb7
      have h68 := hR6.ne hg8
      have h84 : g8 ≠ r4 := by have := hoo.lt; omega
      have hwg8 : w.heap.size < g8 := Nat.lt_of_lt_of_le lA hg8
      have hbel := hbel.trans (hb7.mono hbel.size)
      have hp8o := hp8
      have hp8 := hp8.psl
      have hR6 := hR6.below hb7
      have hoo := hoo.below hb7 hoo.lt
      clear hb7 hg8 htp2
      have lA := hA.lt
      have lO := hO.lt
      have him := himpl _ _ W7 ho hp8
      go_upto_region 12 with (first | (refine wpList_load_blk rfl rfl rfl row76 hO (ofc_size _ _) ?_) | (go_at_call 20; refine him.mono ?_; rintro e W8 ⟨v10, r10, rfl, hr10, hR10, hb6⟩))
      have hA := hA.below hb6 lA
      have hO := hO.below hb6 lO
      have ho := ho.below hb6
      have h610 := hR6.ne hr10
      have h104 : r10 ≠ r4 := by have := hoo.lt; omega
      have h108 : r10 ≠ g8 := by have := hp8o.lt; omega
      have hwr10 : w.heap.size < r10 := Nat.lt_of_lt_of_le lA hr10
      have hp8 := hp8.below hb6
      have hp8o := hp8o.below hb6 hp8o.lt
      have hoo := hoo.below hb6 hoo.lt
      have hR6 := hR6.below hb6
      have hbel := hbel.trans (hb6.mono hbel.size)
      clear hb6 him
      go_upto_region 14 with (go_at_call 12; refine (heq _ _ _ _ W8 hR10 hR6).mono ?_; rintro e w' ⟨rfl, q12, rfl⟩)
      have hbq := below_drewN (Below.refl W8.heap.size W8) q12
      have hA := hA.below hbq hA.lt
      have hO := hO.below hbq hO.lt
      have ho := ho.below hbq
      have hp8 := hp8.below hbq
      have hp8o := hp8o.below hbq hp8o.lt
      have hoo := hoo.below hbq hoo.lt
      have hR6 := hR6.below hbq
      have hR10 := hR10.below hbq
      have hbel := hbel.trans (hbq.mono hbel.size)
      clear hbq
      generalize W8.drewN q12 = WZ at *
      have lA := hA.lt
      have lO := hO.lt
      refine wp_loose (C := fun w' => Below WZ.heap.size WZ w') (R := fun w w' => Below w.heap.size w w') (F := fun w d v => match d, v with
        | 64, v => v = .agg (ofc g (.slice (some ⟨r4, 0, none⟩) n n))
        | 65, v => v = .agg (ofc g (.slice a n c))
        | 66, v => ∃ r, v = .agg (ofc g (.slice (some ⟨r, 0, none⟩) n n)) ∧ WSl w (.slice (some ⟨r, 0, none⟩) n n) n P
        | 67, v => v = .bool true
        | 68, v => v = .bool false
        | _, _ => True) ?_ (by kernel_rfl) (by kernel_rfl) (by kernel_rfl) (Below.refl _ _).drew ?_ ?_
      · intro w1 w2 d v hR hF
        split at hF
        · exact hF
        · exact hF
        · obtain ⟨r, h1, h2⟩ := hF
          exact ⟨r, h1, h2.below hR⟩
        · exact hF
        · exact hF
        · trivial
      · refine steps_cons (step_go rfl fun ev w1 hC k => ?_) ?_
        · have e := k.out 9 rfl rfl rfl
          exact good_of rfl (load_blk e row76 (hO.below hC lO) (ofc_size _ _)) hC (Below.refl _ _) rfl
        refine steps_cons (step_go rfl fun ev w1 hC k => ?_) ?_
        · have e := k.out 2 rfl rfl rfl
          exact good_of rfl (load_blk e row71 (hA.below hC lA) (ofc_size _ _)) hC (Below.refl _ _) rfl
        refine steps_cons (step_go rfl fun ev w1 hC k => ?_) ?_
        · have e2 : ev (.tmp 65) = .agg (ofc g (.slice a n c)) := k.inn 65 rfl rfl
          refine good_call (f := 9) (args := #[.agg (ofc g (.slice a n c))]) rfl (by simp [execOp, e2, k.fn, go_sem]) ((hto w1 (hbel.trans (hC.mono hbel.size))).mono fun e w2 ⟨r, he, h1, h2, h3⟩ => ⟨_, he, hC.trans (h3.mono hC.size), h3, r, rfl, h2.wsl⟩)
        refine steps_cons (step_go rfl fun ev w1 hC k => ?_) ?_
        · have e1 : ev (.tmp 64) = .agg (ofc g (.slice (some ⟨r4, 0, none⟩) n n)) := k.inn 64 rfl rfl
          obtain ⟨r, e2, hr⟩ : ∃ r, ev (.tmp 66) = .agg (ofc g (.slice (some ⟨r, 0, none⟩) n n)) ∧ WSl w1 (.slice (some ⟨r, 0, none⟩) n n) n P := k.inn 66 rfl rfl
          refine good_call (f := 13) (args := #[.agg (ofc g (.slice (some ⟨r4, 0, none⟩) n n)), .agg (ofc g (.slice (some ⟨r, 0, none⟩) n n))]) rfl (by simp [execOp, e1, e2, k.fn, go_sem]) ((eqOffice_same g _ _ n P w1 (ho.below hC) hr).mono fun e w2 ⟨he, h3⟩ => ⟨_, he, hC.trans (h3.mono hC.size), h3, rfl⟩)
        refine steps_cons (step_go rfl fun ev w1 hC k => ?_) ?_
        · have e2 : ev (.tmp 67) = .bool true := k.inn 67 rfl rfl
          exact good_of (v := .bool false) rfl (by simp [execOp, e2, go_sem]) hC (Below.refl _ _) rfl
        exact steps_nil
      · intro x w1 hx hC
        have y : x 68 = .bool false := hx 68 (by decide)
        simp only [fill, dstsOf, List.filterMap_cons, List.filterMap_nil, List.foldl_cons, List.foldl_nil, List.set_cons_succ, List.set_cons_zero, y]
        have hA := hA.below hC lA
        have hO := hO.below hC lO
        have hoo := hoo.below hC hoo.lt
        have hp8o := hp8o.below hC hp8o.lt
        have hR6 := hR6.below hC
        have hR10 := hR10.below hC
        have hbel := hbel.trans (hC.mono hbel.size)
        have htp2 := htp w1 hbel
        have hp8 := hp8.below hC
        clear hC hx y ho
        go_upto_region 18 with (first | (go_at_call 10; refine htp2.mono ?_; rintro e W9 ⟨g9, rfl, hg9, hp9, hb9⟩; have heq9 := eqPermitS_same m Q _ _ W9 (hp8.below hb9) hp9.psl) | (go_at_call 14; refine heq9.mono ?_; rintro e W10 ⟨rfl, hb10⟩))
        have hbx := hb9.trans (hb10.mono hb9.size)
        have hA := hA.below hbx hA.lt
        have hO := hO.below hbx hO.lt
        have hoo := hoo.below hbx hoo.lt
        have hp8o := hp8o.below hbx hp8o.lt
        have hR6 := hR6.below hbx
        have hR10 := hR10.below hbx
        have hbel := hbel.trans (hbx.mono hbel.size)
        clear hbx hb9 hb10 hp9 hg9 heq9 htp2 hp8
        go_upto_region 20 with (first | (refine wpList_load_blk rfl rfl rfl row76 hO (ofc_size _ _) ?_) | (go_at_call 15; refine (hmo _ _ W10 hoo).mono ?_; rintro e W11 ⟨rfl, X1, hbx, hon⟩))
        have hA := (hA.below hbx hA.lt).only hon (by omega)
        have hp8o := (hp8o.below hbx hp8o.lt).only hon h84
        have hR6 := (hR6.below hbx).only hon h64
        have hR10 := (hR10.below hbx).only hon (.inr h104)
        have hbel := below_only (hbel.trans (hbx.mono hbel.size)) hon (Nat.le_of_lt hwr4)
        clear hbx hon hoo hO
        go_upto_region 21 with (go_at_call 16; refine (hmp _ _ W11 (.inr hp8o)).mono ?_; rintro e W12 ⟨rfl, _, hon⟩)
        have hA := hA.only hon (by omega)
        have hR6 := hR6.only hon h68
        have hR10 := hR10.only hon (.inr h108)
        have hbel := below_only hbel hon (Nat.le_of_lt hwg8)
        clear hon hp8o
        go_upto_region 23 with (go_at_call 12; refine (heq _ _ _ _ W12 hR10 hR6).mono ?_; rintro e w' ⟨rfl, q13, rfl⟩)
        have hbq := below_drewN (Below.refl W12.heap.size W12) q13
        have hA := hA.below hbq hA.lt
        have hR6 := hR6.below hbq
        have hR10 := hR10.below hbq
        have hbel := hbel.trans (hbq.mono hbel.size)
        clear hbq
        generalize W12.drewN q13 = W13 at *
        go_upto_region 25 with (go_at_call 17; refine (hmk _ _ W13 hR10).mono ?_; rintro e W14 ⟨rfl, hM10, hon⟩)
        have hA := hA.only hon (by omega)
        have hR6 := hR6.only hon h610
        have hbel := below_only hbel hon (Nat.le_of_lt hwr10)
        clear hon hR10
        go_upto_region 31 with (go_at_call 18; refine (hhe _ _ W14 hM10).mono ?_; rintro e w' ⟨rfl, hw⟩; rw [hw]; clear hw w')
        have lA := hA.lt
        have hto1 := hto W14 hbel
        go_upto_region 32 with (first | (refine wpList_load_blk rfl rfl rfl row71 hA (ofc_size _ _) ?_) | (go_at_call 9; refine hto1.mono ?_; rintro e W15 ⟨r15, rfl, hr15, ho15, hb15⟩; have htp15 := htp W15 (hbel.trans (hb15.mono hbel.size))) | (go_at_call 10; refine htp15.mono ?_; rintro e W16 ⟨g16, rfl, hg16, hp16, hb16⟩; have him16 := himpl _ _ W16 (ho15.wsl.below hb16) hp16.psl) | (go_at_call 20; refine him16.mono ?_; rintro e W17 ⟨v17, r17, rfl, hr17, hR17, hb17⟩))
        have hbx := hb15.trans ((hb16.trans (hb17.mono hb16.size)).mono hb15.size)
        have hR6 := hR6.below hbx
        have hM10 := hM10.below hbx
        have hbel := hbel.trans (hbx.mono hbel.size)
        clear hbx hb15 hb16 hb17 hto1 htp15 him16 hp16 ho15 hA
        go_upto_region 34 with (go_at_call 12; refine (heq _ _ _ _ W17 hR17 hR6).mono ?_; rintro e w' ⟨rfl, q18, rfl⟩)
        have hbq := below_drewN (Below.refl W17.heap.size W17) q18
        have hM10 := hM10.below hbq
        have hbel := hbel.trans (hbq.mono hbel.size)
        clear hbq
        generalize W17.drewN q18 = W18 at *
        go_wp2_with (go_at_call 18; refine (hhe _ _ W18 hM10).mono ?_; rintro e w' ⟨rfl, hw⟩; rw [hw]; clear hw w')
        go_ret
        exact ⟨rfl, hbel⟩
    · rw [if_pos (by omega)] at hsz1
      go_enter Tryz.func4, Tryz.ntmps4
      go_upto_region 1 with (refine wpList_box_as rfl rfl rfl ?_)
      have hA : Blk (w.alloc (.cells (ofc g (.slice a n c)) 30)) w.heap.size (ofc g (.slice a n c)) 30 := Blk.new _ _ _
      have hbel := below1 w (.cells (ofc g (.slice a n c)) 30)
      generalize w.alloc (.cells (ofc g (.slice a n c)) 30) = W at *
      have lA := hA.lt
      go_wp2_with (first | (refine wpList_load_blk rfl rfl rfl row71 hA (ofc_size _ _) ?_) | (go_at_call 6; refine (hsz0 _).mono ?_; rintro e W1 ⟨rfl, hb1⟩) | (go_at_call 7; refine (hsz1 _).mono ?_; rintro e w' ⟨rfl, hw⟩; rw [hw]; clear hw w'))
      go_ret
      exact ⟨rfl, hbel.trans (hb1.mono hbel.size)⟩
  · rw [if_pos (by omega)] at hsz0
    go_enter Tryz.func4, Tryz.ntmps4
    go_upto_region 1 with (refine wpList_box_as rfl rfl rfl ?_)
    have hA : Blk (w.alloc (.cells (ofc g (.slice a n c)) 30)) w.heap.size (ofc g (.slice a n c)) 30 := Blk.new _ _ _
    have hbel := below1 w (.cells (ofc g (.slice a n c)) 30)
    generalize w.alloc (.cells (ofc g (.slice a n c)) 30) = W at *
    have lA := hA.lt
    go_wp2_with (first | (refine wpList_load_blk rfl rfl rfl row71 hA (ofc_size _ _) ?_) | (go_at_call 6; refine (hsz0 _).mono ?_; rintro e W1 ⟨rfl, hb1⟩))
    go_ret
    exact ⟨rfl, hbel.trans (hb1.mono hbel.size)⟩
end Go.Proofs.YtokdpmpgonafmaaGreat
/- The law FnExactMostWater: whatever the input, the program's function returns what the reference's returns; this text lifts the walk to the given row. -/
namespace Go.Proofs.YtokdpmpgonafmaaGreat.rowFnExactMostWater
open Go.ChangeShapes Go.WideShapes Go.ChangeAt Go.RowKit
open Go.ChangeMaps (open_string shut_string)
set_option linter.unusedVariables false

theorem own : ownKnob Tryz.prog.godebug = none := by kernel_rfl
theorem laidOut : laidOutB Tryz.prog = true := by kernel_rfl

set_option maxRecDepth 100000 in
theorem lifted (os : Os) (started : os.Started) (H : Type) (enc : TypeId × Value → H) :
    ReturnsInHanded {} Tryz.checked os 4 .any (Rows.fnExactMostWaterSpec.pre6 enc Tryz.prog Tryz.f4 Rows.fnExactMostWaterRow.domain false) (Rows.fnExactMostWaterSpec.post enc Tryz.prog Tryz.f4 false true false false) := by
  refine returnsInHanded_of_change (C := Tryz.checked) own started (by kernel_rfl) Tryz.func4
    (ChangeSpec.witness6 (enc := enc) (C := Tryz.checked) false ⟨#[], #[.agg ((Array.ofFn (n := 195) fun i => (⟨0, 0, fun _ => 0, fun _ => 0, fun _ => 0, 0⟩ : Gr).at i).push (.slice none 0 0)), .slice none 0 0], []⟩ 8 (by kernel_rfl) (by kernel_rfl) (by kernel_rfl) (by kernel_rfl)) ?_
  intro W base args ds gs before hval0 hW hcnd _
  have hval : ∀ (j : Nat) t v, Tryz.f4.params[j]? = some t → args[j]? = some v → Value.okWide Tryz.prog W .any base t v := hval0
  have hW' := hW
  obtain ⟨p, q, hA0, hV, rfl, hfz, hnd⟩ := hW
  have hA : DataW.TrodAll enc Tryz.prog W 0 (fun _ => true) true Tryz.f4.params.toList args.toList ds p := hA0
  rw [Tryz.params4] at hA hval
  obtain ⟨v0, vs0, d0, ds0, p0, q0, hargs, rfl, rfl, h0, r0⟩ := trodAll_cons hA
  obtain ⟨v1, vs1, d1, ds1, p1, q1, rfl, rfl, rfl, h1, r1⟩ := trodAll_cons r0
  obtain ⟨rfl, rfl, rfl⟩ := trodAll_nil r1
  obtain rfl : args = #[v0, v1] := by cases args; simp_all
  obtain ⟨rfl, rfl⟩ := trodVars_none hV
  have k0 := h0
  have lt0 : ∀ x ∈ p0, x.block < W.heap.size := by obtain ⟨m, hm⟩ := k0; exact DataW.trod_lt m _ _ _ hm
  have k1 := h1
  have lt1 : ∀ x ∈ p1, x.block < W.heap.size := by obtain ⟨m, hm⟩ := k1; exact DataW.trod_lt m _ _ _ hm
  obtain ⟨u0, o0, rfl, s0⟩ := open_office (hval 0 30 v0 rfl rfl) h0
  obtain ⟨z1, s1⟩ := open_permits (hval 1 31 v1 rfl rfl) h1
  clear hA0 hval0
  refine (lawMostWater u0 o0 v1 z1 W s0 s1).mono fun e W' ⟨he, bel⟩ => ?_
  subst he
  exact ⟨_, rfl, _, _, _, [], _, [], hW', trodAll_mk1 (shut_bool Tryz.underlying4 _), (trodAll_cons_mk (Below.trod laidOut (by kernel_rfl) (of_decide_eq_true (by kernel_rfl)) k0 bel lt0) (trodAll_cons_mk (Below.trod laidOut (by kernel_rfl) (of_decide_eq_true (by kernel_rfl)) k1 bel lt1) trodAll_mk0)), rfl, bel.frame _, fun h => by cases h⟩

theorem over : Rows.fnExactMostWaterRow.holds Tryz.pinned (OpenSpec.ofChange Rows.fnExactMostWaterSpec) :=
  OpenClaim.holds_of_wide 4 Tryz.f4 rfl rfl rfl rfl rfl rfl rfl ⟨rfl, rfl, rfl, rfl, rfl⟩ rfl rfl rfl rfl rfl (by kernel_rfl) Tryz.func4 (by kernel_rfl)
    (of_decide_eq_true (by kernel_rfl)) (by unfold Func.isWrapper; first | (rw [if_pos (by decide +kernel)]; kernel_rfl) | (rw [if_neg (by decide +kernel)]; exact ⟨rfl, rfl⟩))
    (fun os started H enc _ => lifted os started H enc)

/-- THE STATEMENT. -/
theorem proved : Rows.FnExactMostWaterSaid := over
#print axioms proved
end Go.Proofs.YtokdpmpgonafmaaGreat.rowFnExactMostWater
