/- The law over StepGround: the walk through the law's own function. -/
import Derived.Test.YtnfoemgiebplmaaStep3
namespace Go.Proofs.Ytnfoemgiebplmaa
open Go.ChangeShapes Go.WideShapes Go.ChangeAt Go.RowKit
set_option linter.unusedVariables false
set_option linter.unusedSimpArgs false
attribute [local irreducible] Calls

theorem size66 : (Try.prog.info? 30).map (·.size) = some 195 := by kernel_rfl

set_option maxRecDepth 100000 in
set_option maxHeartbeats 400000 in
theorem lawStepGround (g : Gr) (part : Nat) (w : World) (hg : g.ok) (_ : (Lit.float .f32 part).wf = true) :
    Calls Try.prog 3 #[.agg g.cells, .float .f32 part] w fun e w' => e = .returned (.bool true) ∧ Below w.heap.size w w' := by
  have hto := fun w' => toGround_any g w'
  have hsp := fun w' => specStepGround_any g part hg w'
  have him := fun w' => stepGround_any g part hg w'
  have heq := fun w' => eqGround_alike (stepGR g part) (stepGR g part) (GrEq.refl _) w'
  generalize stepGR g part = G at *
  generalize stepGC g part = V at *
  have hV : (V != V) = false := by simp
  go_enter Try.func3, Try.ntmps3
  go_upto_region 1 with (refine wpList_box_as rfl rfl rfl ?_)
  have hA : Blk (w.alloc (.cells g.cells 27)) w.heap.size g.cells 27 := Blk.new _ _ _
  have hbel := below1 w (.cells g.cells 27)
  generalize w.alloc (.cells g.cells 27) = W at *
  have lA := hA.lt
  go_upto_region 2 with (first | (refine wpList_load_blk rfl rfl rfl row61 hA g.size ?_) | (go_at_call 16; refine (hto _).mono ?_; rintro e w1 ⟨rfl, hb1⟩) | (go_at_call 15; refine (hsp _).mono ?_; rintro e w2 ⟨rfl, hb2⟩) | (refine wpList_alloc_as rfl rfl zero66z ?_) | (refine wpList_store_last rfl rfl rfl rfl rfl (by rw [Gr.size]; exact size66) (by rw [Gr.size, Gr.size]) (List.all_eq_true.2 (Gr.one _)) ?_))
  have hb12 := hb1.trans (hb2.mono hb1.size)
  have hA := (hA.below hb12 lA).alloc (.cells G.cells 30)
  have hX := Blk.new w2 G.cells 30
  have hbel := hbel.trans (hb12.mono hbel.size)
  have hbel := hbel.alloc hbel.size (.cells G.cells 30)
  generalize w2.alloc (.cells G.cells 30) = W2 at *
  generalize w2.heap.size = x at *
  clear hb1 hb2 hb12 lA
  have lA := hA.lt
  have lX := hX.lt
  go_upto_region 3 with (first | (refine wpList_load_blk rfl rfl rfl row61 hA g.size ?_) | (go_at_call 16; refine (hto _).mono ?_; rintro e w3 ⟨rfl, hb1⟩) | (go_at_call 17; refine (him _).mono ?_; rintro e w4 ⟨rfl, hb2⟩) | (refine wpList_alloc_as rfl rfl zero66z ?_) | (refine wpList_store_last rfl rfl rfl rfl rfl (by rw [Gr.size]; exact size66) (by rw [Gr.size, Gr.size]) (List.all_eq_true.2 (Gr.one _)) ?_))
  have hb12 := hb1.trans (hb2.mono hb1.size)
  have hX := (hX.below hb12 lX).alloc (.cells G.cells 30)
  have hY := Blk.new w4 G.cells 30
  have hbel := hbel.trans (hb12.mono hbel.size)
  have hbel := hbel.alloc hbel.size (.cells G.cells 30)
  generalize w4.alloc (.cells G.cells 30) = W4 at *
  generalize w4.heap.size = y at *
  clear hb1 hb2 hb12 lA lX hA
  go_wp2_with (first | (refine wpList_load_blk rfl rfl rfl row66 hX (Gr.size _) ?_) | (refine wpList_load_blk rfl rfl rfl row66 hY (Gr.size _) ?_) | (go_at_call 18; refine (heq _).mono ?_; rintro e w5 ⟨rfl, hb5⟩))
  go_ret
  exact ⟨rfl, hbel.trans (hb5.mono hbel.size)⟩
end Go.Proofs.Ytnfoemgiebplmaa
