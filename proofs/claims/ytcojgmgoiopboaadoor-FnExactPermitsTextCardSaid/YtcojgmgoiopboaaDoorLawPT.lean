/- The law over PermitsText: the walk through the law's own function. -/
import Derived.Test.YtcojgmgoiopboaaDoorPmT2
import Derived.Test.YtcojgmgoiopboaaDoorOpenPm
namespace Go.Proofs.YtcojgmgoiopboaaDoor
open Go.ChangeShapes Go.WideShapes Go.ChangeAt Go.RowKit
set_option linter.unusedVariables false
attribute [local irreducible] Calls

set_option maxRecDepth 100000 in
set_option maxHeartbeats 1000000 in
theorem lawPermitsText (v : Value) (p : Nat × (Nat → Pm)) (w : World) (hp : PSl w v p.1 p.2 ∧ (∀ i, i < p.1 → (p.2 i).ok) ∧ p.1 ≤ maxLen) (htab : Lib.TabIs Tryd.prog w "internal/strconv.uint64pow10" .u64 Lib.pow10Tab) :
    Calls Tryd.prog 3 #[v] w fun e w' => e = .returned (.bool true) ∧ Below w.heap.size w w' := by
  obtain ⟨n, P⟩ := p
  obtain ⟨hv, hP, hmax⟩ := hp
  simp only at hv hP hmax
  unfold maxLen at hmax
  obtain ⟨a, c, rfl, hform⟩ := id hv
  clear hform
  by_cases hbig : n ≤ 1048576
  · have hsz := fun w' => szPermitS_any a n c 1048576 (by omega) (by decide) (by decide) w'
    rw [if_neg (by omega)] at hsz
    have b1 : (0 : Int) ≤ 1048576 - n := by omega
    have hd : decide ((1048576 : Int) - n < 0) = false := by simp; omega
    have hto := fun w' (hb : Below w.heap.size w w') => toPermitS_any n P _ hbig w' (hv.below hb)
    have hspec := fun v' w' (hv' : PSl w' v' n P) => permitsTextS_any n P hP v' w' hv'
    have himpl := fun v' w' (hb : Below w.heap.size w w') (hv' : PSl w' v' n P) => permitsTextI_any n P hP v' w' hv' (tab_below htab hb)
    generalize (if plainPs n P then txtPm P n else []) = T at *
    generalize (⟨T.toArray⟩ : ByteArray) = Z at *
    have HX := Lib.hid himpl
    clear himpl htab
    go_enter Tryd.func3, Tryd.ntmps3
    go_upto_region 5 with (go_at_call 6; refine (hsz _).mono ?_; rintro e w' ⟨rfl, hw⟩; rw [hw]; clear hw w')
    have hto0 := hto w (Below.refl _ _)
    go_upto_region 6 with (first
      | (go_at_call 8; refine hto0.mono ?_; rintro e w1 ⟨g1, rfl, hg1, ho1, hb1⟩; have hsp := hspec _ _ ho1.psl)
      | (go_at_call 7; refine hsp.mono ?_; rintro e w2 ⟨rfl, hb2⟩; have hb2 := hb1.trans (hb2.mono hb1.size); clear hsp hb1 ho1))
    clear hto0
    have hto2 := hto w2 hb2
    go_upto_region 7 with (go_at_call 8; refine hto2.mono ?_; rintro e w3 ⟨g3, rfl, hg3, ho3, hb3⟩)
    have hb3' := hb2.trans (hb3.mono hb2.size)
    have hsp := HX.out _ _ hb3' ho3.psl
    go_upto_region 8 with (go_at_call 9; refine hsp.mono ?_; rintro e w4 ⟨rfl, hb4⟩)
    have ho4 := ho3.below hb4 ho3.lt
    have hbel4 := hb3'.trans (hb4.mono hb3'.size)
    have hto4 := hto w4 hbel4
    clear hsp hto2 hto hspec
    go_wp2_with (first
      | (go_at_call 8; refine hto4.mono ?_; rintro e w6 ⟨g6, rfl, hg6, ho6, hb6⟩; have hbel6 := hbel4.trans (hb6.mono hbel4.size); have heq2 := eqPermitS_same n P _ _ w6 ((ho4.below hb6 ho4.lt).psl) ho6.psl)
      | (go_at_call 10; refine heq2.mono ?_; rintro e w7 ⟨rfl, hb7⟩))
    go_ret
    exact ⟨rfl, hbel6.trans (hb7.mono hbel6.size)⟩
  · have hsz := fun w' => szPermitS_any a n c 1048576 (by omega) (by decide) (by decide) w'
    rw [if_pos (by omega)] at hsz
    clear htab
    go_enter Tryd.func3, Tryd.ntmps3
    go_wp2_with (go_at_call 6; refine (hsz _).mono ?_; rintro e w' ⟨rfl, hw⟩; rw [hw]; clear hw w')
    go_ret
    exact ⟨rfl, Below.refl _ _⟩
end Go.Proofs.YtcojgmgoiopboaaDoor
