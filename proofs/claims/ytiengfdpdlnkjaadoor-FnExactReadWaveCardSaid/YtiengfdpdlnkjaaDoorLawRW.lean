/- The law FnExactReadWave: whatever the text, the program's ReadWave returns what the reference's returns. -/
import Derived.Test.YtiengfdpdlnkjaaDoorReadW
namespace Go.Proofs.YtiengfdpdlnkjaaDoor.lawReadWave
open Go.ChangeShapes Go.WideShapes Go.ChangeAt Go.RowKit
set_option linter.unusedVariables false
attribute [local irreducible] Calls

set_option maxRecDepth 100000 in
set_option maxHeartbeats 4000000 in
theorem walk (s : ByteArray) (w : World) (ws : s.size ≤ maxLen) (hV : NumVars w) (m : Int) (hm : w.cell? ⟨1, 0, none⟩ = some (.int .i64 m)) :
    Calls Tryd.prog 3 #[.string s] w fun e w' => e = .returned (.bool true) ∧ Below w.heap.size w w' := by
  by_cases hs : s.size ≤ 1048576
  · have cw := fun (a b : Nat) (w : World) => run_convert_wide_complex (P := Tryd.prog) w 23 27 a b (by kernel_rfl) (by kernel_rfl)
    have hS := readWaveS_any s hs w
    have hI := fun w1 (hb : Below w.heap.size w w1) => readWaveI_any s hs w1 (hV.below hb) m ((hb.cell (p := ⟨1, 0, none⟩) (Lib.lt_of_cell hm)).trans hm)
    generalize wavA s = A at *
    generalize wavB s = B at *
    generalize wavC s = C at *
    have hs1 : (s.size : Int) ≤ 1048576 := by omega
    clear hm hV
    go_enter Tryd.func3, Tryd.ntmps3
    go_upto_region 4 with (go_at_call 4; refine hS.mono ?_; rintro e w1 ⟨rfl, hb1⟩)
    go_upto_region 5 with (go_at_call 5; refine (hI _ hb1).mono ?_; rintro e w2 ⟨rfl, hb2⟩)
    have hb3 := hb1.trans (hb2.mono hb1.size)
    go_wp2_with fail
    refine (sameComplex_alike _ _ _ _ (by rw [cn_fwid, cn_fwid]) (by rw [cn_fwid, cn_fwid]) _).mono ?_
    rintro e w5 ⟨rfl, rfl⟩
    go_wp2_with fail
    go_ret
    exact ⟨rfl, below_drewN hb3 _⟩
  · have hs1 : ¬ (s.size : Int) ≤ 1048576 := by omega
    clear hm hV
    go_enter Tryd.func3, Tryd.ntmps3
    go_wp2_with fail
    go_ret
    exact ⟨rfl, Below.refl _ _⟩
end Go.Proofs.YtiengfdpdlnkjaaDoor.lawReadWave
