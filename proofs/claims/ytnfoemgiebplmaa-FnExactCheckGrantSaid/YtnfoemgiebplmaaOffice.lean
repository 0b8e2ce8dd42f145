/- Offices in memory: a ground and its watches. -/
import Derived.Test.YtnfoemgiebplmaaWatch
import Derived.Test.YtnfoemgiebplmaaValidG
import Derived.Test.YtnfoemgiebplmaaEqGround
import Derived.StillTailTactics
namespace Go.Proofs.Ytnfoemgiebplmaa
open Go.ChangeShapes Go.WideShapes Go.ChangeAt Go.RowKit
set_option linter.unusedVariables false
set_option linter.unusedSimpArgs false
attribute [local irreducible] Calls

/-- An office's cells: its ground's, and the slice of its watches. -/
@[irreducible] def ofc (g : Gr) (v : Value) : Array Value := g.cells.push v
theorem ofc_size (g : Gr) (v : Value) : (ofc g v).size = 196 := by unfold ofc; rw [Array.size_push, g.size]
theorem ofc_get (g : Gr) (v : Value) (i : Nat) (h : i < 195) : (ofc g v)[i]? = some (g.at i) := by
  unfold ofc; rw [Array.getElem?_push, g.size, if_neg (by omega), g.get i h]
theorem ofc_last (g : Gr) (v : Value) : (ofc g v)[195]? = some v := by
  unfold ofc; rw [Array.getElem?_push, g.size, if_pos rfl]
theorem ofc_of {cs : Array Value} {g : Gr} {v : Value} (hs : cs.size = 196) (h : ∀ i, i < 195 → cs[i]? = some (g.at i)) (h' : cs[195]? = some v) : cs = ofc g v := by
  apply Array.ext_getElem?
  intro i
  by_cases hi : i < 195
  · rw [h i hi, ofc_get g v i hi]
  · by_cases hi2 : i = 195
    · subst hi2; rw [h', ofc_last]
    · rw [Array.getElem?_eq_none (by omega), Array.getElem?_eq_none (by rw [ofc_size]; omega)]
theorem ofc_one (g : Gr) (v : Value) (hv : v.oneCell' = true) : ∀ u ∈ (ofc g v).toList, u.oneCell' = true := by
  intro u hu
  unfold ofc at hu
  simp only [Array.toList_push, List.mem_append, List.mem_singleton] at hu
  rcases hu with hu | rfl
  · exact g.one u hu
  · exact hv
theorem ofc_ext (g : Gr) (v : Value) : (ofc g v).extract 0 195 = g.cells := by
  apply Gr.cells_of
  · simp [ofc_size]
  · intro i hi
    rw [Array.getElem?_extract, if_pos (by rw [ofc_size]; omega), Nat.zero_add, ofc_get g v i hi]
theorem ofc_splice (z g : Gr) (v : Value) : splice (ofc z v) 0 g.cells = ofc g v := by
  have hle : 0 + g.cells.size ≤ (ofc z v).size := by rw [ofc_size, g.size]; omega
  refine ofc_of (by rw [splice_size _ _ _ hle, ofc_size]) (fun i hi => ?_) ?_
  · rw [splice_get _ _ _ hle, g.size, if_neg (by omega), if_pos (by omega), Nat.sub_zero, g.get i hi]
  · rw [splice_get _ _ _ hle, g.size, if_neg (by omega), if_neg (by omega), ofc_last]
theorem ofc_set (g : Gr) (v u : Value) : (ofc g v).setIfInBounds 195 u = ofc g u := by
  refine ofc_of (by simp [ofc_size]) (fun i hi => ?_) ?_
  · rw [Array.getElem?_setIfInBounds, if_neg (by omega), ofc_get g v i hi]
  · rw [Array.getElem?_setIfInBounds, if_pos rfl, if_pos (by rw [ofc_size]; omega)]
theorem Blk.ogat {w : World} {b : Nat} {g : Gr} {v : Value} {T : TypeId} (h : Blk w b (ofc g v) T) : GAt w b g := ⟨h.lt, fun i hi => (h.cell i).trans (ofc_get g v i hi)⟩
theorem row71 : RowTy Try.prog 49 196 := ⟨_, Try.underlying49, rfl, by kernel_rfl⟩
theorem row76 : RowTy Try.prog 56 196 := ⟨_, Try.underlying56, rfl, by kernel_rfl⟩
theorem zero76 : ZeroTy Try.prog 56 (ofc ⟨0, 0, fun _ => 0, fun _ => 0, fun _ => 0, 0⟩ (.slice none 0 0)) := by unfold ZeroTy ofc Gr.cells; kernel_rfl

set_option maxRecDepth 100000 in
set_option maxHeartbeats 400000 in
theorem szOffice_any (g : Gr) (a : Option Addr) (n c : Nat) (left : Int) (hn : n ≤ 9223372036854775807) (h0 : 0 ≤ left) (h1 : left ≤ 1048576) (w : World) :
    Calls Try.prog 26 #[.agg (ofc g (.slice a n c)), .int .i64 left] w fun e w' => e = .returned (.int .i64 (if left < n then -1 else left - n)) ∧ Below w.heap.size w w' := by
  have hsz := szWatchS_any a n c left hn h0 h1
  generalize hR : (if left < n then -1 else left - n) = R at *
  go_enter Try.func26, Try.ntmps26
  go_upto_region 1 with (refine wpList_box_as rfl rfl rfl ?_)
  have hA : Blk (w.alloc (.cells (ofc g (.slice a n c)) 49)) w.heap.size (ofc g (.slice a n c)) 49 := Blk.new _ _ _
  have hbel := below1 w (.cells (ofc g (.slice a n c)) 49)
  generalize w.alloc (.cells (ofc g (.slice a n c)) 49) = W at *
  have cS : W.cell? ⟨w.heap.size, 195, none⟩ = some (.slice a n c) := (hA.cell _).trans (ofc_last _ _)
  by_cases h : left < n
  · rw [if_pos h] at hR
    subst hR
    go_wp2_with (go_at_call 80; refine (hsz _).mono ?_; rintro e w' ⟨rfl, hw⟩; rw [hw]; clear hw w')
    go_ret
    exact ⟨rfl, hbel⟩
  · rw [if_neg h] at hR
    subst hR
    have hd : decide (left - n < 0) = false := by simp; omega
    go_wp2_with (go_at_call 80; refine (hsz _).mono ?_; rintro e w' ⟨rfl, hw⟩; rw [hw]; clear hw w')
    go_ret
    exact ⟨rfl, hbel⟩
set_option maxRecDepth 100000 in
set_option maxHeartbeats 400000 in
theorem toOffice_any (g : Gr) (v : Value) (n : Nat) (P : Nat → Wt) (hn : n ≤ 1048576) (w : World) (hv : WSl w v n P) :
    Calls Try.prog 29 #[.agg (ofc g v)] w fun e w' => ∃ r, e = .returned (.agg (ofc g (.slice (some ⟨r, 0, none⟩) n n))) ∧ w.heap.size ≤ r ∧ Own w' r 125 2 (.slice (some ⟨r, 0, none⟩) n n) n (wls n P) ∧ Below w.heap.size w w' := by
  obtain ⟨a, c, rfl, hform⟩ := id hv
  clear hform
  have ht := fun w' => toGround_any g w'
  go_enter Try.func29, Try.ntmps29
  generalize hz : (⟨0, 0, fun _ => 0, fun _ => 0, fun _ => 0, 0⟩ : Gr) = z
  have zero76' := zero76
  rw [hz] at zero76'
  clear hz
  go_upto_region 2 with (first | (refine wpList_alloc_as rfl rfl zero76' ?_) | (refine wpList_box_as rfl rfl rfl ?_))
  have e2 : ((w.alloc (.cells (ofc g (.slice a n c)) 49)).alloc (.cells (ofc z (.slice none 0 0)) 56)).heap.size = w.heap.size + 1 + 1 := by simp
  have e1 : (w.alloc (.cells (ofc g (.slice a n c)) 49)).heap.size = w.heap.size + 1 := by simp
  rw [e2, e1]
  clear e1 e2
  have hA : Blk (((w.alloc (.cells (ofc g (.slice a n c)) 49)).alloc (.cells (ofc z (.slice none 0 0)) 56)).alloc (.cells (ofc z (.slice none 0 0)) 56)) w.heap.size (ofc g (.slice a n c)) 49 := ((Blk.new _ _ _).alloc _).alloc _
  have hB : Blk (((w.alloc (.cells (ofc g (.slice a n c)) 49)).alloc (.cells (ofc z (.slice none 0 0)) 56)).alloc (.cells (ofc z (.slice none 0 0)) 56)) (w.heap.size + 1) (ofc z (.slice none 0 0)) 56 := (Blk.new1 _ _ _ _).alloc _
  have hC : Blk (((w.alloc (.cells (ofc g (.slice a n c)) 49)).alloc (.cells (ofc z (.slice none 0 0)) 56)).alloc (.cells (ofc z (.slice none 0 0)) 56)) (w.heap.size + 1 + 1) (ofc z (.slice none 0 0)) 56 := Blk.new2 _ _ _ _ _
  have hbel := below3 w (.cells (ofc g (.slice a n c)) 49) (.cells (ofc z (.slice none 0 0)) 56) (.cells (ofc z (.slice none 0 0)) 56)
  generalize (((w.alloc (.cells (ofc g (.slice a n c)) 49)).alloc (.cells (ofc z (.slice none 0 0)) 56)).alloc (.cells (ofc z (.slice none 0 0)) 56)) = W at *
  obtain ⟨r, hr⟩ : ∃ r, r = w.heap.size + 1 + 1 := ⟨_, rfl⟩
  obtain ⟨q, hq⟩ : ∃ q, q = w.heap.size + 1 := ⟨_, rfl⟩
  obtain ⟨s, hs⟩ : ∃ s, s = w.heap.size := ⟨_, rfl⟩
  rw [← hr] at hC ⊢
  rw [← hq] at hB ⊢
  rw [← hs] at hA ⊢
  have n1 : s ≠ r := by omega
  have n2 : q ≠ r := by omega
  have n3 : w.heap.size ≤ r := by omega
  have n4 : w.heap.size ≤ q := by omega
  clear hr hq hs
  have lA := hA.lt
  have lB := hB.lt
  have lC := hC.lt
  go_upto_region 3 with (first
    | (refine wpList_load_part rfl rfl rfl row61 hA (by rw [ofc_size]; omega) ?_; rw [Nat.zero_add, ofc_ext])
    | (go_at_call 16; refine (ht _).mono ?_; rintro e W3 ⟨rfl, hb3⟩; have hC3 := hC.below hb3 lC)
    | (refine wpList_store_part rfl rfl rfl rfl row66 hC3 (by rw [ofc_size]; omega) g.size g.one ?_; rw [ofc_splice]))
  have hA := (hA.below hb3 lA).rowOther (ofc g (.slice none 0 0)) n1
  have hB := (hB.below hb3 lB).rowOther (ofc g (.slice none 0 0)) n2
  have hC := hC3.setRow (ofc g (.slice none 0 0))
  have hbel := below_setRow (hbel.trans (hb3.mono hbel.size)) n3 (ofc g (.slice none 0 0))
  clear hC3 hb3 lA lB lC
  generalize W3.setRow r (ofc g (.slice none 0 0)) = W4 at *
  have lA := hA.lt
  have lB := hB.lt
  have lC := hC.lt
  have hto := toWatchS_any n P _ hn W4 (hv.below hbel)
  have cS : W4.cell? ⟨s, 195, none⟩ = some (.slice a n c) := (hA.cell _).trans (ofc_last _ _)
  go_upto_region 4 with (go_at_call 83; refine hto.mono ?_; rintro e W5 ⟨x, rfl, hx, hown, hb5⟩; have hC5 := hC.below hb5 lC; have d5 : W5.cell? ⟨r, 195, none⟩ = some (.slice none 0 0) := (hC5.cell _).trans (ofc_last _ _); have f5 := hC5.free 195)
  have hC := hC5.setCell 195 (.slice (some ⟨x, 0, none⟩) n n)
  rw [ofc_set] at hC
  have hB := (hB.below hb5 lB).setOther (a := ⟨r, 195, none⟩) (.slice (some ⟨x, 0, none⟩) n n) n2
  have hbel := (hbel.trans (hb5.mono hbel.size)).setCell (p := ⟨r, 195, none⟩) n3 (.slice (some ⟨x, 0, none⟩) n n)
  have nx : x ≠ r := by omega
  have nq : x ≠ q := by omega
  have hown := hown.setOther (a := ⟨r, 195, none⟩) (.slice (some ⟨x, 0, none⟩) n n) nx
  have hbs : w.heap.size ≤ x := by
    have h1 : w.heap.size ≤ q := n4
    omega
  clear hb5 hC5 d5 f5 cS hto hA lA
  generalize W5.setCell ⟨r, 195, none⟩ (.slice (some ⟨x, 0, none⟩) n n) = W6 at *
  go_wp2_with (first | (refine wpList_load_blk rfl rfl rfl row76 hC (ofc_size _ _) ?_) | (refine wpList_store_blk rfl rfl rfl rfl row76 hB (ofc_size _ _) (ofc_size _ _) (ofc_one _ _ rfl) ?_))
  exact bodyPost_row rfl rfl row76 (hB.setRow _) (ofc_size _ _) rfl ⟨x, rfl, hbs, hown.rowOther _ nq, below_setRow hbel n4 _⟩
end Go.Proofs.Ytnfoemgiebplmaa
