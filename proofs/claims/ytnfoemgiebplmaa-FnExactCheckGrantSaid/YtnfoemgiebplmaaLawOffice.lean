/- The law over ValidOffice: the walk through the law's own function; offices that a caller hands in, opened. -/
import Derived.Test.YtnfoemgiebplmaaOfficeV
import Derived.Test.YtnfoemgiebplmaaOpenPm
import Derived.Test.YtnfoemgiebplmaaLoose
namespace Go.Proofs.Ytnfoemgiebplmaa
open Go.ChangeShapes Go.WideShapes Go.ChangeAt Go.RowKit
set_option linter.unusedVariables false
set_option linter.unusedSimpArgs false
attribute [local irreducible] Calls

set_option maxRecDepth 100000 in
set_option maxHeartbeats 400000 in
theorem eqOffice_same (g : Gr) (v u : Value) (n : Nat) (P : Nat → Wt) (w : World) (hv : WSl w v n P) (hu : WSl w u n P) :
    Calls Try.prog 32 #[.agg (ofc g v), .agg (ofc g u)] w fun e w' => e = .returned (.bool true) ∧ Below w.heap.size w w' := by
  obtain ⟨a, c, rfl, hf1⟩ := id hv
  obtain ⟨a', c', rfl, hf2⟩ := id hu
  clear hf1 hf2
  have heq := fun w' => eqGround_alike g g (GrEq.refl g) w'
  go_enter Try.func32, Try.ntmps32
  go_upto_region 1 with (refine wpList_box_as rfl rfl rfl ?_)
  have hA : Blk ((w.alloc (.cells (ofc g (.slice a n c)) 56)).alloc (.cells (ofc g (.slice a' n c')) 56)) w.heap.size (ofc g (.slice a n c)) 56 := (Blk.new _ _ _).alloc _
  have hB : Blk ((w.alloc (.cells (ofc g (.slice a n c)) 56)).alloc (.cells (ofc g (.slice a' n c')) 56)) (w.heap.size + 1) (ofc g (.slice a' n c')) 56 := Blk.new1 _ _ _ _
  have hbel := below2 w (.cells (ofc g (.slice a n c)) 56) (.cells (ofc g (.slice a' n c')) 56)
  generalize ((w.alloc (.cells (ofc g (.slice a n c)) 56)).alloc (.cells (ofc g (.slice a' n c')) 56)) = W at *
  have lA := hA.lt
  have lB := hB.lt
  go_upto_region 3 with (first
    | (refine wpList_load_part rfl rfl rfl row66 hA (by rw [ofc_size]; omega) ?_; rw [Nat.zero_add, ofc_ext])
    | (refine wpList_load_part rfl rfl rfl row66 hB (by rw [ofc_size]; omega) ?_; rw [Nat.zero_add, ofc_ext])
    | (go_at_call 18; refine (heq _).mono ?_; rintro e W1 ⟨rfl, hb1⟩))
  have cA : W1.cell? ⟨w.heap.size, 195, none⟩ = some (.slice a n c) := ((hA.below hb1 lA).cell _).trans (ofc_last _ _)
  have cB : W1.cell? ⟨w.heap.size + 1, 195, none⟩ = some (.slice a' n c') := ((hB.below hb1 lB).cell _).trans (ofc_last _ _)
  have hbel := hbel.trans (hb1.mono hbel.size)
  have hw := eqWatchS_same n P _ _ W1 (hv.below hbel) (hu.below hbel)
  go_wp2_with (go_at_call 87; refine hw.mono ?_; rintro e W2 ⟨rfl, hb2⟩)
  go_ret
  exact ⟨rfl, hbel.trans (hb2.mono hbel.size)⟩

end Go.Proofs.Ytnfoemgiebplmaa
