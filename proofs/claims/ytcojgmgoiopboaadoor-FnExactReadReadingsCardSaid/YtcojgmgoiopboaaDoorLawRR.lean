/- The law FnExactReadReadings: whatever the text, the program's ReadReadings returns what the reference's returns, in memory of its own. -/
import Derived.Test.YtcojgmgoiopboaaDoorRdRgJ
namespace Go.Proofs.YtcojgmgoiopboaaDoor.lawReadReadings
open Go.ChangeShapes Go.WideShapes Go.ChangeAt Go.RowKit
set_option linter.unusedVariables false
attribute [local irreducible] Calls

set_option maxRecDepth 100000 in
set_option maxHeartbeats 4000000 in
theorem walk (s : ByteArray) (w : World) (ws : s.size ≤ maxLen) (hV : ParseVars w) (htab : Lib.TabIs Tryd.prog w "internal/strconv.uint64pow10" .u64 Lib.pow10Tab) (m : Int) (hm : w.cell? ⟨3, 0, none⟩ = some (.int .i64 m)) :
    Calls Tryd.prog 5 #[.string s] w fun e w' => e = .returned (.bool true) ∧ Below w.heap.size w w' := by
  by_cases hs : s.size ≤ 1048576
  · have hS := readReadingsS_any s hs w
    have hI := fun w1 (hb : Below w.heap.size w w1) => readReadingsI_any s hs w1 (hV.below hb) (tab_below htab hb) m ((hb.cell (p := ⟨3, 0, none⟩) (Lib.lt_of_cell hm)).trans hm)
    have hN := rgM_le s.data.toList
    generalize rgM s.data.toList = N at *
    generalize rdG s.data.toList = P at *
    generalize rgC s.data.toList = C at *
    have hs1 : (s.size : Int) ≤ 1048576 := by omega
    have heq := fun v u w' => eqReadingS_same N P v u w'
    have hmk := fun g v w' => markR_any N g P v 1 (by decide) (by omega) w'
    have hhe := fun v w' => heldR_any N v 1 (by decide) (by omega) w'
    have hCC : decide (C = C) = true := by simp
    have hNN : decide ((1 : Int) + 2 * N = 1 + 2 * N) = true := by simp
    have hN0 : decide ((1 : Int) + 2 * N < 0) = false := by simp; omega
    have HI := Lib.hid hI
    clear hm hV htab hI
    go_enter Tryd.func5, Tryd.ntmps5
    go_upto_region 4 with (go_at_call 15; refine hS.mono ?_; rintro e w1 ⟨v6, rfl, r6, hr6, hR6, bel⟩)
    clear hS
    go_upto_region 5 with (go_at_call 16; refine (HI.out w1 bel).mono ?_; rintro e w2 ⟨v9, rfl, r9, hr9, hR9, hb2⟩)
    have h69 := hR6.ne hr9
    have hr9 : w.heap.size ≤ r9 := by have := bel.size; omega
    have hR6 := hR6.below hb2
    have bel := bel.trans (hb2.mono bel.size)
    clear hb2 hr6
    go_upto_region 7 with (go_at_call 17; refine (heq v9 v6 w2 hR9.rsl hR6.rsl).mono ?_; rintro e w5 ⟨rfl, hb5⟩)
    have hR6 := hR6.below hb5
    have hR9 := hR9.below hb5
    have bel := bel.trans (hb5.mono bel.size)
    clear hb5
    go_upto_region 9 with (go_at_call 18; refine (hmk r9 _ w5 hR9).mono ?_; rintro e w10 ⟨rfl, hM9, hon⟩)
    have hR6 := hR6.only hon h69
    have bel := below_only bel hon hr9
    clear hon hR9 hmk h69
    go_upto_region 15 with (go_at_call 19; refine (hhe v9 w10 hM9.rsl).mono ?_; rintro e w' ⟨rfl, hw⟩; rw [hw]; clear hw w')
    go_upto_region 16 with (go_at_call 16; refine (HI.out w10 bel).mono ?_; rintro e w12 ⟨v12, rfl, r12, hr12, hR12, hb12⟩)
    have hR6 := hR6.below hb12
    have hM9 := hM9.below hb12
    have bel := bel.trans (hb12.mono bel.size)
    clear hb12
    go_upto_region 18 with (go_at_call 17; refine (heq v12 v6 w12 hR12.rsl hR6.rsl).mono ?_; rintro e w13 ⟨rfl, hb13⟩)
    have hM9 := hM9.below hb13
    have bel := bel.trans (hb13.mono bel.size)
    go_wp2_with (go_at_call 19; refine (hhe v9 w13 hM9.rsl).mono ?_; rintro e w' ⟨rfl, hw⟩; rw [hw]; clear hw w')
    go_ret
    exact ⟨rfl, bel⟩
  · have hs1 : ¬ (s.size : Int) ≤ 1048576 := by omega
    clear hm hV htab
    go_enter Tryd.func5, Tryd.ntmps5
    go_wp2_with fail
    go_ret
    exact ⟨rfl, Below.refl _ _⟩
end Go.Proofs.YtcojgmgoiopboaaDoor.lawReadReadings
