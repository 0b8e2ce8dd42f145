/- The law over SharesOfOwners: the walk through the law's own function. -/
import Derived.Test.YtililmlgladnaaaShares
import Derived.Test.YtililmlgladnaaaOpenPm
namespace Go.Proofs.Ytililmlgladnaaa
open Go.ChangeShapes Go.WideShapes Go.ChangeAt Go.RowKit
set_option linter.unusedVariables false

theorem sharesOf_form (n : Nat) (P : Nat → Pm) : ∃ (f : Nat → Int) (c : Int), sharesOf n P = .tuple #[.agg (i64s 8 f), .int .i64 c] := by
  unfold sharesOf
  split
  · exact ⟨_, _, rfl⟩
  · exact ⟨_, _, rfl⟩

set_option maxRecDepth 100000 in
set_option maxHeartbeats 400000 in
theorem lawShares (v : Value) (p : Nat × (Nat → Pm)) (w : World) (hp : PSl w v p.1 p.2 ∧ (∀ i, i < p.1 → (p.2 i).ok) ∧ p.1 ≤ maxLen) :
    Calls Try.prog 6 #[v] w fun e w' => e = .returned (.bool true) ∧ Below w.heap.size w w' := by
  obtain ⟨n, P⟩ := p
  obtain ⟨hv, hP, hmax⟩ := hp
  simp only at hv hP hmax
  unfold maxLen at hmax
  obtain ⟨f, q, hf⟩ := sharesOf_form n P
  obtain ⟨a, c, rfl, hform⟩ := id hv
  clear hform
  by_cases hbig : n ≤ 1048576
  · have hsz := fun w' => szPermitS_any a n c 1048576 (by omega) (by decide) (by decide) w'
    rw [if_neg (by omega)] at hsz
    have b1 : (0 : Int) ≤ 1048576 - n := by omega
    have hd : decide ((1048576 : Int) - n < 0) = false := by simp; omega
    have hto := fun w' (hb : Below w.heap.size w w') => toPermitS_any n P _ hbig w' (hv.below hb)
    have hspec := fun v' w' (hv' : PSl w' v' n P) => specShares_any n P hP v' w' hv'
    have himpl := fun v' w' (hv' : PSl w' v' n P) => shares_any n P hP v' w' hv'
    rw [hf] at hspec himpl
    clear hf
    go_enter Try.func6, Try.ntmps6
    go_upto_region 5 with (go_at_call 23; refine (hsz _).mono ?_; rintro e w' ⟨rfl, hw⟩; rw [hw]; clear hw w')
    have hto0 := hto w (Below.refl _ _)
    go_upto_region 6 with (first
      | (go_at_call 25; refine hto0.mono ?_; rintro e w1 ⟨g1, rfl, hg1, ho1, hb1⟩; have hsp := hspec _ _ ho1.psl; have hto1 := hto w1 hb1)
      | (go_at_call 24; refine hsp.mono ?_; rintro e w2 ⟨rfl, hb2⟩; have hb2 := hb1.trans (hb2.mono hb1.size); clear hsp hto1 hb1 ho1)
      | (refine wpList_store_last (c' := i64s 8 f) rfl rfl rfl rfl rfl (by rw [i64s_size]; exact size45) (by simp [i64s_size]) (i64s_all _ _) ?_))
    clear hto0
    have hA := Blk.new w2 (i64s 8 f) 45
    have hbA := hb2.alloc hb2.size (.cells (i64s 8 f) 45)
    have lA : w.heap.size ≤ w2.heap.size := hb2.size
    generalize w2.alloc (.cells (i64s 8 f) 45) = wA at *
    generalize w2.heap.size = rA at *
    clear hb2 hg1
    have hto0 := hto wA hbA
    go_upto_region 8 with (first
      | (go_at_call 25; refine hto0.mono ?_; rintro e w3 ⟨g3, rfl, hg3, ho3, hb3⟩; have hsp := himpl _ _ ho3.psl)
      | (go_at_call 26; refine hsp.mono ?_; rintro e w4 ⟨rfl, hb4⟩)
      | (refine wpList_store_last (c' := i64s 8 f) rfl rfl rfl rfl rfl (by rw [i64s_size]; exact size45) (by simp [i64s_size]) (i64s_all _ _) ?_))
    have ho4 := (ho3.below hb4 ho3.lt)
    have hb4 := hb3.trans (hb4.mono hb3.size)
    have hA4 := hA.below hb4 hA.lt
    have hbB := hbA.trans (hb4.mono hbA.size)
    clear hto0 hsp hb3 ho3 hA hbA
    have hB := Blk.new w4 (i64s 8 f) 45
    have hA := hA4.alloc (.cells (i64s 8 f) 45)
    have ho := ho4.alloc (.cells (i64s 8 f) 45)
    have hbel := hbB.alloc hbB.size (.cells (i64s 8 f) 45)
    generalize w4.alloc (.cells (i64s 8 f) 45) = wB at *
    generalize w4.heap.size = rB at *
    clear hA4 ho4 hb4 hbB
    have heq := eqShares_same f wB
    have hne : decide (q = q) = true := by simp
    have lo := ho.lt
    go_wp2_with (first
      | (refine wpList_load_blk rfl rfl rfl row45 hB (i64s_size _ _) ?_)
      | (refine wpList_load_blk rfl rfl rfl row45 hA (i64s_size _ _) ?_)
      | (go_at_call 27; refine heq.mono ?_; rintro e w5 ⟨rfl, hb5⟩; have ho5 := (ho.below hb5 lo).psl; have hbel5 := hbel.trans (hb5.mono hbel.size); have hto5 := hto w5 hbel5)
      | (go_at_call 25; refine hto5.mono ?_; rintro e w6 ⟨g6, rfl, hg6, ho6, hb6⟩; have hbel6 := hbel5.trans (hb6.mono hbel5.size); have heq2 := eqPermitS_same n P _ _ w6 (ho5.below hb6) ho6.psl)
      | (go_at_call 28; refine heq2.mono ?_; rintro e w7 ⟨rfl, hb7⟩))
    go_ret
    exact ⟨rfl, hbel6.trans (hb7.mono hbel6.size)⟩
  · have hsz := fun w' => szPermitS_any a n c 1048576 (by omega) (by decide) (by decide) w'
    rw [if_pos (by omega)] at hsz
    go_enter Try.func6, Try.ntmps6
    go_wp2_with (go_at_call 23; refine (hsz _).mono ?_; rintro e w' ⟨rfl, hw⟩; rw [hw]; clear hw w')
    go_ret
    exact ⟨rfl, Below.refl _ _⟩
end Go.Proofs.Ytililmlgladnaaa
