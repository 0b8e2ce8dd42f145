/- CheckGrant, in the program and in the reference. -/
import Derived.Test.YtnfoemgiebplmaaInts
namespace Go.Proofs.Ytnfoemgiebplmaa
open Go.ChangeShapes Go.WideShapes Go.ChangeAt Go.RowKit
set_option linter.unusedVariables false
set_option linter.unusedSimpArgs false
attribute [local irreducible] Calls

def cgT (g : Gr) (n : Nat) (P : Nat → Wt) (m : Nat) (Q : Nat → Pm) (l : Nat) (f : Nat → Int) : Bool × Int :=
  if validP g n P m Q then (sameIL (grantTo (grK g n P Q) m).length l (fun i => ((grantTo (grK g n P Q) m).getD i 0 : Nat)) f, 0) else (false, 1)
theorem ils_at (L : List Nat) : ∀ i, i < L.length → (ils L)[i]? = some (.int .i64 ((L.getD i 0 : Nat) : Int)) := fun i hi => by
  rw [ils_get L i L[i] (List.getElem?_eq_getElem hi)]
  simp [List.getD_eq_getElem?_getD, List.getElem?_eq_getElem hi]

set_option maxRecDepth 100000 in
set_option maxHeartbeats 400000 in
theorem checkGrant_any (g : Gr) (v u y : Value) (n m l : Nat) (P : Nat → Wt) (Q : Nat → Pm) (f : Nat → Int) (hg : g.ok) (hP : ∀ i, i < n → (P i).ok) (hQ : ∀ i, i < m → (Q i).ok) (w : World) (hv : WSl w v n P) (hu : PSl w u m Q) (hy : ISl w y l f) :
    Calls Try.prog 50 #[.agg (ofc g v), u, y] w fun e w' => e = .returned (.tuple #[.bool (cgT g n P m Q l f).1, .int .i64 (cgT g n P m Q l f).2]) ∧ Below w.heap.size w w' := by
  obtain ⟨R, hR⟩ : ∃ R, R = (cgT g n P m Q l f).1 := ⟨_, rfl⟩
  obtain ⟨V, hV⟩ : ∃ V, V = (cgT g n P m Q l f).2 := ⟨_, rfl⟩
  rw [← hR, ← hV]
  unfold cgT at hR hV
  obtain ⟨a, c, rfl, hform⟩ := id hu
  obtain ⟨a2, c2, rfl, hform2⟩ := id hy
  clear hform hform2
  go_enter Try.func50, Try.ntmps50
  go_upto_region 1 with (refine wpList_box_as rfl rfl rfl ?_)
  have hA := Blk.new w (ofc g v) 56
  have hbel := below1 w (.cells (ofc g v) 56)
  generalize w.alloc (.cells (ofc g v) 56) = W at *
  have lA := hA.lt
  have hu := hu.below hbel
  have hv := hv.below hbel
  have hy := hy.below hbel
  have hvp := validPermits_any g v _ n m P Q hg hP hQ W hv hu
  cases hvd : validP g n P m Q <;> rw [hvd] at hvp hR hV
  · have HF := Lib.hid (And.intro hR hV)
    clear hR hV hvd
    go_wp2_with (first | (refine wpList_load_blk rfl rfl rfl row76 hA (ofc_size _ _) ?_) | (go_at_call 85; refine hvp.mono ?_; rintro e w2 ⟨rfl, hb2⟩; have hA2 := hA.below hb2 lA))
    go_ret2
    exact ⟨by rw [HF.out.1, HF.out.2]; rfl, hbel.trans (hb2.mono hbel.size)⟩
  · have HF := Lib.hid (And.intro hR hV)
    obtain ⟨hvg, hvo, hci, hm6, _⟩ := validP_use hvd
    have hke := fun w' (h1 : Blk w' w.heap.size (ofc g v) 56) h2 (h3 : PSl w' (.slice a m c) m Q) => inOrder_any g w.heap.size v _ n m P Q hg hvg hci (validO_watch hvo) hm6 w' h1 h2 h3
    clear hR hV hvd
    generalize grantTo (grK g n P Q) m = L at *
    have hsm := fun x w' (h1 : ISl w' x L.length (fun i => ((L.getD i 0 : Nat) : Int))) (h2 : ISl w' (.slice a2 l c2) l f) => equal_any L.length l _ f x _ w' h1 h2
    generalize sameIL L.length l (fun i => ((L.getD i 0 : Nat) : Int)) f = S at *
    go_wp2_with (first | (refine wpList_load_blk rfl rfl rfl row76 hA (ofc_size _ _) ?_) | (go_at_call 85; refine hvp.mono ?_; rintro e w2 ⟨rfl, hb2⟩; have hA2 := hA.below hb2 lA) | (go_at_call 99; refine (hke _ hA2 (hv.below hb2) (hu.below hb2)).mono ?_; rintro e w3 ⟨x, r, rfl, hr, hx, hb3⟩; have hy3 := (hy.below hb2).below hb3) | (go_at_call 98; refine (hsm _ _ (hx.isl (ils_at L)) hy3).mono ?_; rintro e w4 ⟨rfl, q4, rfl⟩))
    have hbel2 := hbel.trans (hb2.mono hbel.size)
    go_ret2
    exact ⟨by rw [HF.out.1, HF.out.2]; rfl, below_drewN (hbel2.trans (hb3.mono hbel2.size)) _⟩

set_option maxRecDepth 100000 in
set_option maxHeartbeats 400000 in
theorem specCheckGrant_any (g : Gr) (v u y : Value) (n m l : Nat) (P : Nat → Wt) (Q : Nat → Pm) (f : Nat → Int) (hg : g.ok) (hP : ∀ i, i < n → (P i).ok) (hQ : ∀ i, i < m → (Q i).ok) (w : World) (hv : WSl w v n P) (hu : PSl w u m Q) (hy : ISl w y l f) :
    Calls Try.prog 48 #[.agg (ofc g v), u, y] w fun e w' => e = .returned (.tuple #[.bool (cgT g n P m Q l f).1, .int .i64 (cgT g n P m Q l f).2]) ∧ Below w.heap.size w w' := by
  obtain ⟨R, hR⟩ : ∃ R, R = (cgT g n P m Q l f).1 := ⟨_, rfl⟩
  obtain ⟨V, hV⟩ : ∃ V, V = (cgT g n P m Q l f).2 := ⟨_, rfl⟩
  rw [← hR, ← hV]
  unfold cgT at hR hV
  obtain ⟨a, c, rfl, hform⟩ := id hu
  obtain ⟨a2, c2, rfl, hform2⟩ := id hy
  clear hform hform2
  go_enter Try.func48, Try.ntmps48
  go_upto_region 1 with (refine wpList_box_as rfl rfl rfl ?_)
  have hA := Blk.new w (ofc g v) 56
  have hbel := below1 w (.cells (ofc g v) 56)
  generalize w.alloc (.cells (ofc g v) 56) = W at *
  have lA := hA.lt
  have hu := hu.below hbel
  have hv := hv.below hbel
  have hy := hy.below hbel
  have hvp := l07Fits_any g v _ n m P Q w.heap.size _ hg hP hQ W hA hv hu
  cases hvd : validP g n P m Q <;> rw [hvd] at hvp hR hV
  · have HF := Lib.hid (And.intro hR hV)
    clear hR hV hvd
    go_wp2_with (first | (go_at_call 81; refine hvp.mono ?_; rintro e w2 ⟨rfl, hb2⟩; have hA2 := hA.below hb2 lA))
    go_ret2
    exact ⟨by rw [HF.out.1, HF.out.2]; rfl, hbel.trans (hb2.mono hbel.size)⟩
  · have HF := Lib.hid (And.intro hR hV)
    obtain ⟨hvg, hvo, hci, hm6, _⟩ := validP_use hvd
    have hke := fun w' (h1 : Blk w' w.heap.size (ofc g v) 56) h2 (h3 : PSl w' (.slice a m c) m Q) => l07Grant_any g w.heap.size v _ n m P Q hg hvg hci (validO_watch hvo) hm6 w' h1 h2 h3
    clear hR hV hvd
    generalize grantTo (grK g n P Q) m = L at *
    have hsm := fun x w' (h1 : ISl w' x L.length (fun i => ((L.getD i 0 : Nat) : Int))) (h2 : ISl w' (.slice a2 l c2) l f) => l00Same_any L.length l _ f x _ w' h1 h2
    generalize sameIL L.length l (fun i => ((L.getD i 0 : Nat) : Int)) f = S at *
    go_wp2_with (first | (go_at_call 81; refine hvp.mono ?_; rintro e w2 ⟨rfl, hb2⟩; have hA2 := hA.below hb2 lA) | (go_at_call 97; refine (hke _ hA2 (hv.below hb2) (hu.below hb2)).mono ?_; rintro e w3 ⟨x, r, rfl, hr, hx, hb3⟩; have hy3 := (hy.below hb2).below hb3) | (go_at_call 96; refine (hsm _ _ (hx.isl (ils_at L)) hy3).mono ?_; rintro e w4 ⟨rfl, q4, rfl⟩))
    have hbel2 := hbel.trans (hb2.mono hbel.size)
    go_ret2
    exact ⟨by rw [HF.out.1, HF.out.2]; rfl, below_drewN (hbel2.trans (hb3.mono hbel2.size)) _⟩
end Go.Proofs.Ytnfoemgiebplmaa
