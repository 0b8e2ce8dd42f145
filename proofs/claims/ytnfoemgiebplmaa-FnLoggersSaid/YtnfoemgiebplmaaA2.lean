/- A ground drawn from bytes (A2Ground), a cell's question (A2Is), and whether bytes are too many (a2Long). -/
import Derived.Test.YtnfoemgiebplmaaDraw
namespace Go.Proofs.Ytnfoemgiebplmaa
open Go.ChangeShapes Go.WideShapes Go.ChangeAt Go.RowKit
set_option linter.unusedVariables false
set_option linter.unusedSimpArgs false
attribute [local irreducible] Calls

set_option maxRecDepth 100000 in
set_option maxHeartbeats 400000 in
theorem l00From_any (v : Value) (n : Nat) (w : World) (hv : Bytes w w.heap.size v n) :
    Calls Try.prog 101 #[v] w fun e w' => e = .returned (.pointer (some ⟨w.heap.size, 0, none⟩)) ∧ w' = w.alloc (.cells #[v, .int .i64 0, .int .u64 0] 166) := by
  obtain ⟨a, c, rfl, hn, hc⟩ := hv
  clear hc
  go_enter Try.func101, Try.ntmps101
  go_wp2_with fail
  go_ret
  exact ⟨rfl, rfl⟩
theorem src_new {w : World} {v : Value} {n : Nat} (hv : Bytes w w.heap.size v n) : Src (w.alloc (.cells #[v, .int .i64 0, .int .u64 0] 166)) w.heap.size 0 :=
  ⟨v, n, 0, 0, Blk.new _ _ _, Nat.le_refl _, by omega, by omega, hv.move fun r hr => heap_alloc_old w _ hr⟩
def GotG (w : World) (e : Ending) (w' : World) : Prop := ∃ G : Gr, IsDrawn G ∧ e = .returned (.agg G.cells) ∧ Below w.heap.size w w'
set_option maxRecDepth 100000 in
set_option maxHeartbeats 400000 in
theorem a2Ground_any (v : Value) (n : Nat) (w : World) (hv : Bytes w w.heap.size v n) :
    Calls Try.prog 57 #[v] w (GotG w) := by
  go_enter Try.func57, Try.ntmps57
  go_upto_region 1 with (refine wpList_alloc_as rfl rfl zero66 ?_)
  have hb0 : Blk (w.alloc (.cells zeroGr.cells 30)) w.heap.size zeroGr.cells 30 := Blk.new _ _ _
  have hbel : Below w.heap.size w (w.alloc (.cells zeroGr.cells 30)) := below1 _ _
  have hv1 : Bytes (w.alloc (.cells zeroGr.cells 30)) (w.alloc (.cells zeroGr.cells 30)).heap.size v n := by
    obtain ⟨a, c, h1, h2, h3⟩ := hv.move (w' := w.alloc (.cells zeroGr.cells 30)) (fun r hr => heap_alloc_old w _ hr)
    refine ⟨a, c, h1, h2, fun j hj => ?_⟩
    obtain ⟨r, o, x, g1, g2, g3⟩ := h3 j hj
    exact ⟨r, o, x, g1, by simp; omega, g3⟩
  change Code.wp _ _ _ _ (w.alloc (.cells zeroGr.cells 30))
  generalize w.alloc (.cells zeroGr.cells 30) = W at *
  have lW := hb0.lt
  have hs := src_new hv1
  have hfr := l00From_any v n W hv1
  have hbs : Below w.heap.size w (W.alloc (.cells #[v, .int .i64 0, .int .u64 0] 166)) := hbel.alloc (by omega) _
  have hb0 := hb0.alloc (.cells #[v, .int .i64 0, .int .u64 0] 166)
  generalize W.alloc (.cells #[v, .int .i64 0, .int .u64 0] 166) = W1 at *
  generalize hq : W.heap.size = q at *
  have hdr := l01Drawn_any q 0 (by omega) W1 hs
  clear hs hv1 hv
  go_wp2_with (first | (go_at_call 101; refine hfr.mono ?_; rintro e w1 ⟨rfl, hw⟩; subst hw) | (go_at_call 100; refine hdr.mono ?_; rintro e w2 ⟨G, hG, rfl, hs2, hg2⟩; clear hdr) | (refine wpList_store_blk rfl rfl rfl rfl row66 (hb0.grown hg2 (fun e => by injection e; omega)) (Gr.size _) (Gr.size _) (Gr.one _) ?_))
  have hb2 := hb0.grown hg2 (fun e => by injection e; omega)
  exact bodyPost_row rfl rfl row66 (hb2.setRow _) (Gr.size _) rfl ⟨G, hG, rfl, below_setRow (hbs.grown hg2 (by have := hbs.size; omega) (fun k e => by injection e; omega)) (Nat.le_refl _) _⟩
set_option maxRecDepth 100000 in
set_option maxHeartbeats 400000 in
theorem a2Is_any (G : Gr) (k : Nat) (hG : G.ok) (hk : k < 64) (w : World) :
    Calls Try.prog 58 #[.agg G.cells, .int .i64 k] w fun e w' => e = .returned (.bool (isC G k)) ∧ Below w.heap.size w w' := by
  have his := fun q w' hb => l01Is_any G q k hG hk w' hb
  generalize isC G k = c at *
  go_enter Try.func58, Try.ntmps58
  go_upto_region 1 with (refine wpList_box_as rfl rfl rfl ?_)
  have hb : Blk (w.alloc (.cells G.cells 30)) w.heap.size G.cells 30 := Blk.new _ _ _
  have hbel := below1 w (.cells G.cells 30)
  generalize w.alloc (.cells G.cells 30) = W at *
  have his := his w.heap.size W hb.gat
  go_wp2_with (go_at_call 76; refine his.mono ?_; rintro e w' ⟨rfl, hw⟩; rw [hw]; clear hw w')
  go_ret
  exact ⟨rfl, hbel⟩
end Go.Proofs.Ytnfoemgiebplmaa
