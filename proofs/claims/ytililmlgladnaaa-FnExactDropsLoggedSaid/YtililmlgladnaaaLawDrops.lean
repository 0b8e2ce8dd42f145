/- The law FnExactDropsLogged: whatever the levels, the program's DropsLogged returns what the reference's returns. -/
import Derived.Test.YtililmlgladnaaaDrops
namespace Go.Proofs.Ytililmlgladnaaa.lawDrops
open Go.ChangeShapes Go.WideShapes Go.ChangeAt Go.RowKit
set_option linter.unusedVariables false

set_option maxRecDepth 100000 in
set_option maxHeartbeats 400000 in
theorem walk (f g : Nat → Int) (w : World) (hf : Is16 64 f) (hg : Is16 64 g) :
    Calls Try.prog 3 #[.agg (i16s 64 f), .agg (i16s 64 g)] w fun e w' => e = .returned (.bool true) ∧ Below w.heap.size w w' := by
  obtain ⟨x, y, hxy⟩ : ∃ x y, dropsOf f g = .tuple #[.int .i64 x, .int .i64 y] := ⟨_, _, rfl⟩
  have H := Lib.hid hxy
  clear hxy
  go_enter Try.func3, Try.ntmps3
  go_wp2_with (refine wpList_box_as rfl rfl rfl ?_)
  have hA : Blk ((w.alloc (.cells (i16s 64 f) 23)).alloc (.cells (i16s 64 g) 23)) w.heap.size (i16s 64 f) 23 := (Blk.new _ _ _).alloc _
  have hB : Blk ((w.alloc (.cells (i16s 64 f) 23)).alloc (.cells (i16s 64 g) 23)) (w.heap.size + 1) (i16s 64 g) 23 := by
    have := Blk.new (w.alloc (.cells (i16s 64 f) 23)) (i16s 64 g) 23
    simpa using this
  have hbel : Below w.heap.size w ((w.alloc (.cells (i16s 64 f) 23)).alloc (.cells (i16s 64 g) 23)) := ((Below.refl _ _).alloc (Nat.le_refl _) _).alloc (by simp) _
  generalize ((w.alloc (.cells (i16s 64 f) 23)).alloc (.cells (i16s 64 g) 23)) = w0 at *
  have lA := hA.lt
  have lB := hB.lt
  refine wp_region_below (by kernel_rfl) (by kernel_rfl) ?_
  refine quiet_load rfl rfl rfl rfl row23 (i16s_size _ _) (fun w' hw' => hA.below hw' lA) ?_
  refine quiet_call rfl rfl rfl Try.func14 (by kernel_rfl) (by kernel_rfl) rfl (fun w' hw' => (toInt16A64_any f w').mono fun e w'' h => ⟨h.1, hw'.trans (h.2.mono hw'.size)⟩) ?_
  refine quiet_load rfl rfl rfl rfl row23 (i16s_size _ _) (fun w' hw' => hB.below hw' lB) ?_
  refine quiet_call rfl rfl rfl Try.func14 (by kernel_rfl) (by kernel_rfl) rfl (fun w' hw' => (toInt16A64_any g w').mono fun e w'' h => ⟨h.1, hw'.trans (h.2.mono hw'.size)⟩) ?_
  refine quiet_call rfl rfl rfl Try.func13 (by kernel_rfl) (by kernel_rfl) rfl (fun w' hw' => (specDrops_any f g hf hg w').mono fun e w'' h => ⟨h.1.trans (by rw [H.out]), hw'.trans (h.2.mono hw'.size)⟩) ?_
  refine quiet_move rfl rfl rfl rfl ?_
  refine quiet_extract rfl rfl rfl rfl rfl ?_
  refine quiet_extract rfl rfl rfl rfl rfl ?_
  refine quiet_assign rfl rfl rfl rfl ?_
  refine quiet_assign rfl rfl rfl rfl ?_
  refine wpQuiet_nil ?_
  intro w1 hw1
  simp only [List.set_cons_succ, List.set_cons_zero]
  go_wp2_with fail
  have h1 := hw1
  have hA := hA.below hw1 lA
  have hB := hB.below hw1 lB
  have lA := hA.lt
  have lB := hB.lt
  refine wp_region_below (by kernel_rfl) (by kernel_rfl) ?_
  refine quiet_load rfl rfl rfl rfl row23 (i16s_size _ _) (fun w' hw' => hA.below hw' lA) ?_
  refine quiet_call rfl rfl rfl Try.func14 (by kernel_rfl) (by kernel_rfl) rfl (fun w' hw' => (toInt16A64_any f w').mono fun e w'' h => ⟨h.1, hw'.trans (h.2.mono hw'.size)⟩) ?_
  refine quiet_load rfl rfl rfl rfl row23 (i16s_size _ _) (fun w' hw' => hB.below hw' lB) ?_
  refine quiet_call rfl rfl rfl Try.func14 (by kernel_rfl) (by kernel_rfl) rfl (fun w' hw' => (toInt16A64_any g w').mono fun e w'' h => ⟨h.1, hw'.trans (h.2.mono hw'.size)⟩) ?_
  refine quiet_call rfl rfl rfl Try.func15 (by kernel_rfl) (by kernel_rfl) rfl (fun w' hw' => (implDrops_any f g hf hg w').mono fun e w'' h => ⟨h.1.trans (by rw [H.out]), hw'.trans (h.2.mono hw'.size)⟩) ?_
  refine quiet_move rfl rfl rfl rfl ?_
  refine quiet_extract rfl rfl rfl rfl rfl ?_
  refine quiet_extract rfl rfl rfl rfl rfl ?_
  refine quiet_assign rfl rfl rfl rfl ?_
  refine quiet_assign rfl rfl rfl rfl ?_
  refine wpQuiet_nil ?_
  intro w2 hw2
  simp only [List.set_cons_succ, List.set_cons_zero]
  go_wp2_with fail
  go_ret
  exact ⟨rfl, hbel.trans ((h1.trans (hw2.mono h1.size)).mono hbel.size)⟩
end Go.Proofs.Ytililmlgladnaaa.lawDrops
