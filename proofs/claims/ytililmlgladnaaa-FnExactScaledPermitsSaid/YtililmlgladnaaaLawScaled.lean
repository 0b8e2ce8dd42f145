/- The law over ScaledPermits: the walk through the law's own function. -/
import Derived.Test.YtililmlgladnaaaScaled
import Derived.Test.YtililmlgladnaaaOpenPm
namespace Go.Proofs.Ytililmlgladnaaa
open Go.ChangeShapes Go.WideShapes Go.ChangeAt Go.RowKit
set_option linter.unusedVariables false

theorem scN_le (n : Nat) (P : Nat → Pm) (pc : Int) : scN n P pc ≤ n := by unfold scN; split <;> omega

set_option maxRecDepth 100000 in
set_option maxHeartbeats 400000 in
theorem lawScaled (v : Value) (p : Nat × (Nat → Pm)) (pc : Int) (w : World) (hp : PSl w v p.1 p.2 ∧ (∀ i, i < p.1 → (p.2 i).ok) ∧ p.1 ≤ maxLen) (wpc : (Lit.int .i64 pc).wf = true) :
    Calls Try.prog 7 #[v, .int .i64 pc] w fun e w' => e = .returned (.bool true) ∧ Below w.heap.size w w' := by
  obtain ⟨n, P⟩ := p
  obtain ⟨hv, hP, hmax⟩ := hp
  simp only at hv hP hmax
  unfold maxLen at hmax
  obtain ⟨a, c, rfl, hform⟩ := id hv
  clear hform
  by_cases hbig : n ≤ 1048576
  · have hsz := fun w' => szPermitS_any a n c 1048576 (by omega) (by decide) (by decide) w'
    rw [if_neg (by omega)] at hsz
    have b1 : (0 : Int) ≤ 1048576 - n := by omega
    have hd : decide ((1048576 : Int) - n < 0) = false := by simp; omega
    have hto := fun w' (hb : Below w.heap.size w w') => toPermitS_any n P _ hbig w' (hv.below hb)
    have hspec := fun g w' => specScaledPermits_any n g P hP pc w'
    have himpl := fun g w' => scaledPermits_any n g P hP pc w'
    have hN := scN_le n P pc
    generalize scN n P pc = N at *
    generalize scC n P pc = C at *
    generalize (fun i => scl pc (P i)) = P' at *
    have heq := fun v u w' => eqPermitS_same N P' v u w'
    have heq0 := fun v u w' => eqPermitS_same n P v u w'
    have hmk0 := fun g v w' => mark_any n g P v 1 (by decide) hbig w'
    have hmk := fun g v w' => mark_any N g P' v 1 (by decide) (by omega) w'
    have hhe := fun v w' => held_any N v 1 (by decide) (by omega) w'
    have hCC : decide (C = C) = true := by simp
    have hNN : decide ((1 : Int) + 3 * N = 1 + 3 * N) = true := by simp
    have hN0 : decide ((1 : Int) + 3 * N < 0) = false := by simp; omega
    have hn0 : decide ((1 : Int) + 3 * n < 0) = false := by simp; omega
    clear hP wpc
    go_enter Try.func7, Try.ntmps7
    go_upto_region 5 with (go_at_call 23; refine (hsz _).mono ?_; rintro e w' ⟨rfl, hw⟩; rw [hw]; clear hw w')
    clear hsz
    go_upto_region 6 with (first | (go_at_call 25; refine (hto w (Below.refl _ _)).mono ?_; rintro e w1 ⟨g1, rfl, hg1, ho1, hb1⟩; have hb1s := hb1.size) | (go_at_call 29; refine (hspec g1 w1 ho1).mono ?_; rintro e w2 ⟨v6, rfl, r6, hr6, hR6, hb2⟩; have bel := hb1.trans (hb2.mono hb1s)))
    clear hb1 hb2 ho1 hg1
    have hr6 : w.heap.size ≤ r6 := by omega
    go_upto_region 8 with (first | (go_at_call 25; refine (hto w2 bel).mono ?_; rintro e w3 ⟨g8, rfl, hg8, ho8, hb3⟩; have hb3s := hb3.size) | (go_at_call 30; refine (himpl g8 w3 ho8).mono ?_; rintro e w4 ⟨v9, rfl, r9, hr9, hR9, hb4⟩))
    have h68 := hR6.ne hg8
    have h89 : g8 ≠ r9 := by have := ho8.lt; omega
    have h69 := hR6.ne (k := r9) (by omega)
    have hr9 : w.heap.size ≤ r9 := by have := bel.size; have := hb3s; omega
    have hg8 : w.heap.size ≤ g8 := by have := bel.size; omega
    have ho8 := ho8.below hb4 ho8.lt
    have hb4 := hb3.trans (hb4.mono hb3s)
    have hR6 := hR6.below hb4
    have bel := bel.trans (hb4.mono bel.size)
    clear hb3 hb4 hb3s hr6 hb1s
    go_upto_region 10 with (go_at_call 28; refine (heq v9 v6 w4 hR9.psl hR6.psl).mono ?_; rintro e w5 ⟨rfl, hb5⟩)
    have hR6 := hR6.below hb5
    have hR9 := hR9.below hb5
    have ho8 := ho8.below hb5 ho8.lt
    have bel := bel.trans (hb5.mono bel.size)
    clear hb5
    go_upto_region 13 with (first | (go_at_call 25; refine (hto w5 bel).mono ?_; rintro e w6 ⟨g6, rfl, hg6, ho6, hb6⟩; have hb6s := hb6.size) | (go_at_call 28; refine (heq0 _ _ w6 (ho8.below hb6 ho8.lt).psl ho6.psl).mono ?_; rintro e w7 ⟨rfl, hb7⟩))
    have hb7 := hb6.trans (hb7.mono hb6s)
    have hR6 := hR6.below hb7
    have hR9 := hR9.below hb7
    have ho8 := ho8.below hb7 ho8.lt
    have bel := bel.trans (hb7.mono bel.size)
    clear hb7 hb6 ho6 hg6 hb6s
    go_upto_region 14 with (go_at_call 31; refine (hmk0 g8 _ w7 (.inr ho8)).mono ?_; rintro e w8 ⟨rfl, hR8, hon⟩)
    have hR6 := hR6.only hon h68
    have hR9 := hR9.only hon (.inr (Ne.symm h89))
    have bel := below_only bel hon hg8
    clear hon ho8 hR8 hmk0 heq0 h68 h89
    go_upto_region 16 with (go_at_call 28; refine (heq v9 v6 w8 hR9.psl hR6.psl).mono ?_; rintro e w9 ⟨rfl, hb9⟩)
    have hR6 := hR6.below hb9
    have hR9 := hR9.below hb9
    have bel := bel.trans (hb9.mono bel.size)
    clear hb9
    go_upto_region 18 with (go_at_call 31; refine (hmk r9 _ w9 hR9).mono ?_; rintro e w10 ⟨rfl, hM9, hon⟩)
    have hR6 := hR6.only hon h69
    have bel := below_only bel hon hr9
    clear hon hR9 hmk h69
    go_upto_region 24 with (go_at_call 32; refine (hhe v9 w10 hM9.psl).mono ?_; rintro e w' ⟨rfl, hw⟩; rw [hw]; clear hw w')
    go_upto_region 25 with (first | (go_at_call 25; refine (hto w10 bel).mono ?_; rintro e w11 ⟨g11, rfl, hg11, ho11, hb11⟩; have hb11s := hb11.size) | (go_at_call 30; refine (himpl g11 w11 ho11).mono ?_; rintro e w12 ⟨v12, rfl, r12, hr12, hR12, hb12⟩))
    have hb12 := hb11.trans (hb12.mono hb11s)
    have hR6 := hR6.below hb12
    have hM9 := hM9.below hb12
    have bel := bel.trans (hb12.mono bel.size)
    clear hb12 hb11 ho11 hg11 hb11s
    go_upto_region 27 with (go_at_call 28; refine (heq v12 v6 w12 hR12.psl hR6.psl).mono ?_; rintro e w13 ⟨rfl, hb13⟩)
    have hM9 := hM9.below hb13
    have bel := bel.trans (hb13.mono bel.size)
    go_wp2_with (go_at_call 32; refine (hhe v9 w13 hM9.psl).mono ?_; rintro e w' ⟨rfl, hw⟩; rw [hw]; clear hw w')
    go_ret
    exact ⟨rfl, bel⟩
  · have hsz := fun w' => szPermitS_any a n c 1048576 (by omega) (by decide) (by decide) w'
    rw [if_pos (by omega)] at hsz
    go_enter Try.func7, Try.ntmps7
    go_wp2_with (go_at_call 23; refine (hsz _).mono ?_; rintro e w' ⟨rfl, hw⟩; rw [hw]; clear hw w')
    go_ret
    exact ⟨rfl, Below.refl _ _⟩
end Go.Proofs.Ytililmlgladnaaa
