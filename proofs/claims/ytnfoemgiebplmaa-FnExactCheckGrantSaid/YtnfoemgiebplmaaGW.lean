/- GroundWith, in the program and in the reference. -/
import Derived.Test.YtnfoemgiebplmaaWith
namespace Go.Proofs.Ytnfoemgiebplmaa
open Go.ChangeShapes Go.WideShapes Go.ChangeAt Go.RowKit
set_option linter.unusedVariables false
set_option linter.unusedSimpArgs false
attribute [local irreducible] Calls

theorem validP_use {g : Gr} {n m : Nat} {P : Nat → Wt} {Q : Nat → Pm} (h : validP g n P m Q = true) : validG g = true ∧ validO g n P = true ∧ cellsIn g m Q ∧ m ≤ 6 ∧ ∀ i, i < m → badPG g (Q i) = false := by
  unfold validP at h
  simp only [Bool.and_eq_true, decide_eq_true_eq, Bool.not_eq_true'] at h
  have h0 : validO g n P = true := h.1
  have hv : validG g = true := by unfold validO at h0; exact (Bool.and_eq_true_iff.1 h0).1
  have hb := anyTo_false.1 h.2.2
  refine ⟨hv, h0, fun i hi => ?_, h.2.1, hb⟩
  have := hb i hi
  unfold badPG at this
  simp only [Bool.or_eq_false_iff, Bool.not_eq_false'] at this
  exact this.2.2
def gwT (g : Gr) (n : Nat) (P : Nat → Wt) (m : Nat) (Q : Nat → Pm) : Gr × Int := if validP g n P m Q then withT Q m 0 g else (zeroG, 1)

set_option maxRecDepth 100000 in
set_option maxHeartbeats 400000 in
theorem groundWith_any (g : Gr) (v u : Value) (n m : Nat) (P : Nat → Wt) (Q : Nat → Pm) (hg : g.ok) (hP : ∀ i, i < n → (P i).ok) (hQ : ∀ i, i < m → (Q i).ok) (w : World) (hv : WSl w v n P) (hu : PSl w u m Q) :
    Calls Try.prog 31 #[.agg (ofc g v), u] w fun e w' => e = .returned (.tuple #[.agg (gwT g n P m Q).1.cells, .int .i64 (gwT g n P m Q).2]) ∧ Below w.heap.size w w' := by
  obtain ⟨R, hR⟩ : ∃ R, R = (gwT g n P m Q).1.cells := ⟨_, rfl⟩
  obtain ⟨V, hV⟩ : ∃ V, V = (gwT g n P m Q).2 := ⟨_, rfl⟩
  rw [← hR, ← hV]
  unfold gwT at hR hV
  obtain ⟨a, c, rfl, hform⟩ := id hu
  clear hform
  go_enter Try.func31, Try.ntmps31
  go_upto_region 1 with (first | (refine wpList_box_as rfl rfl rfl ?_) | (refine wpList_alloc_as rfl rfl zero66z ?_))
  have hA : Blk ((w.alloc (.cells (ofc g v) 56)).alloc (.cells zeroG.cells 30)) w.heap.size (ofc g v) 56 := (Blk.new _ _ _).alloc _
  have hS : Blk ((w.alloc (.cells (ofc g v) 56)).alloc (.cells zeroG.cells 30)) (w.heap.size + 1) zeroG.cells 30 := Blk.new1 _ _ _ _
  have hbel := below2 w (.cells (ofc g v) 56) (.cells zeroG.cells 30)
  generalize ((w.alloc (.cells (ofc g v) 56)).alloc (.cells zeroG.cells 30)) = W at *
  have lA := hA.lt
  have lS := hS.lt
  have hu := hu.below hbel
  have hvp := validPermits_any g v _ n m P Q hg hP hQ W (hv.below hbel) hu
  cases hvd : validP g n P m Q <;> rw [hvd] at hvp hR hV
  · have HF := Lib.hid (And.intro hR hV)
    clear hR hV hvd
    go_wp2_with (first | (refine wpList_load_blk rfl rfl rfl row76 hA (ofc_size _ _) ?_) | (go_at_call 85; refine hvp.mono ?_; rintro e w2 ⟨rfl, hb2⟩; have hS2 := hS.below hb2 lS) | (refine wpList_zero rfl rfl built66 ?_) | (refine wpList_store_blk rfl rfl rfl rfl row66 hS2 zeroG.size zeroG.size zeroG.one ?_))
    refine bodyPost_row2 rfl rfl row66 (hS2.setRow _) zeroG.size rfl ⟨?_, below_setRow (hbel.trans (hb2.mono hbel.size)) (by omega) _⟩
    rw [HF.out.1, HF.out.2]; rfl
  · have HF := Lib.hid (And.intro hR hV)
    obtain ⟨hvg, _, hci, _, _⟩ := validP_use hvd
    have hwi := fun w' h1 (h2 : PSl w' (.slice a m c) m Q) => with_any g w.heap.size _ m Q hg hvg hci w' h1 h2
    clear hR hV hvd
    generalize withT Q m 0 g = T at *
    obtain ⟨T1, T2⟩ := T
    go_wp2_with (first | (refine wpList_load_blk rfl rfl rfl row76 hA (ofc_size _ _) ?_) | (go_at_call 85; refine hvp.mono ?_; rintro e w2 ⟨rfl, hb2⟩; have hS2 := hS.below hb2 lS; have lS2 := hS2.lt; have hA2 := hA.below hb2 lA) | (go_at_call 86; refine (hwi _ hA2.ogat (hu.below hb2)).mono ?_; rintro e w3 ⟨rfl, hb3⟩; have hS3 := hS2.below hb3 lS2) | (refine wpList_store_blk rfl rfl rfl rfl row66 hS3 zeroG.size (Gr.size _) (Gr.one _) ?_))
    have hbel2 := hbel.trans (hb2.mono hbel.size)
    refine bodyPost_row2 rfl rfl row66 (hS3.setRow _) (Gr.size _) rfl ⟨?_, below_setRow (hbel2.trans (hb3.mono hbel2.size)) (by omega) _⟩
    rw [HF.out.1, HF.out.2]; rfl

set_option maxRecDepth 100000 in
set_option maxHeartbeats 400000 in
theorem specGroundWith_any (g : Gr) (v u : Value) (n m : Nat) (P : Nat → Wt) (Q : Nat → Pm) (hg : g.ok) (hP : ∀ i, i < n → (P i).ok) (hQ : ∀ i, i < m → (Q i).ok) (w : World) (hv : WSl w v n P) (hu : PSl w u m Q) :
    Calls Try.prog 28 #[.agg (ofc g v), u] w fun e w' => e = .returned (.tuple #[.agg (gwT g n P m Q).1.cells, .int .i64 (gwT g n P m Q).2]) ∧ Below w.heap.size w w' := by
  obtain ⟨R, hR⟩ : ∃ R, R = (gwT g n P m Q).1.cells := ⟨_, rfl⟩
  obtain ⟨V, hV⟩ : ∃ V, V = (gwT g n P m Q).2 := ⟨_, rfl⟩
  rw [← hR, ← hV]
  unfold gwT at hR hV
  obtain ⟨a, c, rfl, hform⟩ := id hu
  clear hform
  go_enter Try.func28, Try.ntmps28
  go_upto_region 1 with (first | (refine wpList_box_as rfl rfl rfl ?_) | (refine wpList_alloc_as rfl rfl zero66z ?_))
  have hA : Blk ((w.alloc (.cells (ofc g v) 56)).alloc (.cells zeroG.cells 30)) w.heap.size (ofc g v) 56 := (Blk.new _ _ _).alloc _
  have hS : Blk ((w.alloc (.cells (ofc g v) 56)).alloc (.cells zeroG.cells 30)) (w.heap.size + 1) zeroG.cells 30 := Blk.new1 _ _ _ _
  have hbel := below2 w (.cells (ofc g v) 56) (.cells zeroG.cells 30)
  generalize ((w.alloc (.cells (ofc g v) 56)).alloc (.cells zeroG.cells 30)) = W at *
  have lA := hA.lt
  have lS := hS.lt
  have hu := hu.below hbel
  have hvp := l07Fits_any g v _ n m P Q w.heap.size _ hg hP hQ W hA (hv.below hbel) hu
  cases hvd : validP g n P m Q <;> rw [hvd] at hvp hR hV
  · have HF := Lib.hid (And.intro hR hV)
    clear hR hV hvd
    go_wp2_with (first | (go_at_call 81; refine hvp.mono ?_; rintro e w2 ⟨rfl, hb2⟩; have hS2 := hS.below hb2 lS) | (refine wpList_zero rfl rfl built66 ?_) | (refine wpList_store_blk rfl rfl rfl rfl row66 hS2 zeroG.size zeroG.size zeroG.one ?_))
    refine bodyPost_row2 rfl rfl row66 (hS2.setRow _) zeroG.size rfl ⟨?_, below_setRow (hbel.trans (hb2.mono hbel.size)) (by omega) _⟩
    rw [HF.out.1, HF.out.2]; rfl
  · have HF := Lib.hid (And.intro hR hV)
    obtain ⟨hvg, _, hci, _, _⟩ := validP_use hvd
    have hwi := fun w' h1 (h2 : PSl w' (.slice a m c) m Q) => l07Ground_any g w.heap.size _ m Q hg hvg hci w' h1 h2
    clear hR hV hvd
    generalize withT Q m 0 g = T at *
    obtain ⟨T1, T2⟩ := T
    go_wp2_with (first | (go_at_call 81; refine hvp.mono ?_; rintro e w2 ⟨rfl, hb2⟩; have hS2 := hS.below hb2 lS; have lS2 := hS2.lt; have hA2 := hA.below hb2 lA) | (go_at_call 82; refine (hwi _ hA2.ogat (hu.below hb2)).mono ?_; rintro e w3 ⟨rfl, hb3⟩; have hS3 := hS2.below hb3 lS2) | (refine wpList_store_blk rfl rfl rfl rfl row66 hS3 zeroG.size (Gr.size _) (Gr.one _) ?_))
    have hbel2 := hbel.trans (hb2.mono hbel.size)
    refine bodyPost_row2 rfl rfl row66 (hS3.setRow _) (Gr.size _) rfl ⟨?_, below_setRow (hbel2.trans (hb3.mono hbel2.size)) (by omega) _⟩
    rw [HF.out.1, HF.out.2]; rfl
end Go.Proofs.Ytnfoemgiebplmaa
