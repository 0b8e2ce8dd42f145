import Derived.Test.YtdnnjahdcabdmaaGreatDoorMD15
import Derived.Test.YtdnnjahdcabdmaaGreatDoorMD32
/- The walk through the drawing of a ground. -/
namespace Go.Proofs.YtdnnjahdcabdmaaGreatDoor
open Go.ChangeShapes Go.WideShapes Go.ChangeAt Go.RowKit
set_option linter.unusedVariables false
set_option linter.unusedSimpArgs false
attribute [local irreducible] Calls

structure St (w0 wr : World) (b q0 q1 K : Nat) (G : Gr) : Prop where
  src : Src wr b K
  b0 : Blk wr q0 zeroGr.cells 30
  b1 : Blk wr q1 G.cells 30
  grow : w0.grownBy wr (some b)
  lt : b < w0.heap.size ∧ w0.heap.size ≤ q0 ∧ q0 < q1
section
variable {w0 wr w1 : World} {b q0 q1 K K' : Nat} {G : Gr}
theorem St.ask (h : St w0 wr b q0 q1 K G) (hs : Src w1 b K') (hg : wr.grownBy w1 (some b)) : St w0 w1 b q0 q1 K' G :=
  ⟨hs, h.b0.grown hg (fun e => by injection e; have := h.lt; omega), h.b1.grown hg (fun e => by injection e; have := h.lt; omega), h.grow.trans hg, h.lt⟩
theorem St.drewN (h : St w0 wr b q0 q1 K G) (n : Nat) : St w0 (wr.drewN n) b q0 q1 K G :=
  h.ask (h.src.move fun _ _ => rfl) (grown_drewN _ _ _)
theorem St.put {G' : Gr} (h : St w0 wr b q0 q1 K G) (hB : Blk w1 q1 G'.cells 30) (hg : wr.grownBy w1 (some q1)) : St w0 w1 b q0 q1 K G' :=
  ⟨h.src.move fun r hr => hg.block r (by have := h.src.lt; omega) (fun e => by injection e; have := h.lt; omega), h.b0.grown hg (fun e => by injection e; have := h.lt; omega), hB, h.grow.andThen hg (fun j e => by injection e; have := h.lt; exact .inl (by omega)), h.lt⟩
theorem St.mono (h : St w0 wr b q0 q1 K G) (hk : K ≤ K') : St w0 wr b q0 q1 K' G := { h with src := h.src.mono hk }
end
theorem St.fin {w0 wr : World} {b q0 q1 K : Nat} {G : Gr} (h : St w0 wr b q0 q1 K G) (C : Array Value) : Src (wr.setRow q0 C) b K ∧ w0.grownBy (wr.setRow q0 C) (some b) := by
  have hg : wr.grownBy (wr.setRow q0 C) (some q0) := ⟨rfl, rfl, rfl, by simp, fun j hj hne => setRow_other wr q0 j C (fun e => hne (by rw [e]))⟩
  exact ⟨h.src.move fun r hr => hg.block r (by have := h.src.lt; omega) (fun e => by injection e; have := h.lt; omega), h.grow.andThen hg (fun j e => by injection e; have := h.lt; exact .inl (by omega))⟩
theorem Drawn.one {W H : Int} {k : Nat} {G : Gr} (h : Drawn W H k G) (hW : 2 ≤ W) (hH : 2 ≤ H) (hf : (G.fix == 0) = true) : Drawn W H k { G with fix := 1 } := by
  have hc : isC G 0 = true := by unfold isC; rw [h.wide, h.high]; simp; omega
  have := h.setF 0 (by omega) hc
  rw [show orB G.fix 0 = 1 by rw [show G.fix = 0 by simpa using hf]; kernel_rfl] at this
  exact this
/-- What l01Drawn gives. -/
def GaveG (w : World) (b k : Nat) (e : Ending) (w' : World) : Prop := ∃ G : Gr, IsDrawn G ∧ e = .returned (.agg G.cells) ∧ Src w' b k ∧ w.grownBy w' (some b)
set_option maxRecDepth 100000 in
set_option maxHeartbeats 1000000 in
theorem l01Drawn_any (b k : Nat) (hk : k < 10000) (w : World) (hs : Src w b k) :
    Calls Tryz.prog 69 #[.pointer (some ⟨b, 0, none⟩)] w (GaveG w b (k + 2000)) := by
  have hp := fun (n : Int) (j : Nat) (h1 : 1 ≤ n) (h2 : n ≤ 1099511627776) (hj : j < 900000) (w' : World) (hs : Src w' b j) => pick_any b j n (by omega) h1 h2 w' hs
  go_enter Tryz.func69, Tryz.ntmps69
  go_upto_region 1 with (refine wpList_alloc_as rfl rfl zero66 ?_)
  have hb0 : Blk (w.alloc (.cells zeroGr.cells 30)) w.heap.size zeroGr.cells 30 := Blk.new _ _ _
  have hs1 : Src (w.alloc (.cells zeroGr.cells 30)) b k := hs.move fun r hr => heap_alloc_old w _ (by have := hs.lt; omega)
  have hg1 : w.grownBy (w.alloc (.cells zeroGr.cells 30)) (some b) := World.grownBy_alloc _ _ _
  have lb := hs.lt
  change Code.wp _ _ _ _ (w.alloc (.cells zeroGr.cells 30))
  generalize w.alloc (.cells zeroGr.cells 30) = W at *
  go_upto_region 2 with (first | (go_at_call 44; refine (hp 3 k (by decide) (by decide) (by omega) _ hs1).mono ?_; rintro e w1 ⟨x, ⟨x0, x1⟩, rfl, hs2, hg2⟩; clear hs1) | (go_at_call 44; refine (hp 3 (k + 2) (by decide) (by decide) (by omega) _ hs2).mono ?_; rintro e w2 ⟨y, ⟨y0, y1⟩, rfl, hs3, hg3⟩; clear hs2) | (refine wpList_alloc_as rfl rfl zero66 ?_) | (refine wpList_store_last rfl rfl rfl rfl rfl (by rw [builtGr, Gr.size]; kernel_rfl) (by rw [builtGr, Gr.size, Gr.size]) (by rw [builtGr]; exact List.all_eq_true.2 (Gr.one _)) ?_))
  have hB1 := Blk.new w2 ((Tryz.zeroCells30.setIfInBounds 0 (.int .i8 (2 + x))).setIfInBounds 1 (.int .i8 (2 + y))) 30
  rw [builtGr] at hB1 ⊢
  have hst : St w (w2.alloc (.cells (⟨2 + x, 2 + y, fun _ => 0, fun _ => 0, fun _ => 0, 0⟩ : Gr).cells 30)) b w.heap.size w2.heap.size (k + 4) ⟨2 + x, 2 + y, fun _ => 0, fun _ => 0, fun _ => 0, 0⟩ := by
    have e1 := hg2.size
    have e2 := hg3.size
    have e3 := hb0.lt
    exact ⟨hs3.move fun r hr => heap_alloc_old w2 _ (by omega), ((hb0.grown hg2 (fun e => by injection e; omega)).grown hg3 (fun e => by injection e; omega)).alloc _, hB1, ((hg1.trans hg2).trans hg3).trans (World.grownBy_alloc _ _ _), by omega⟩
  clear hB1 hs3 hb0 hg1 hg2 hg3
  have hdr : Drawn (2 + x) (2 + y) 0 ⟨2 + x, 2 + y, fun _ => 0, fun _ => 0, fun _ => 0, 0⟩ := { wide := rfl, high := rfl, con := fun i hi => .inl rfl, gai := fun i hi => .inl rfl, hea := fun i hi => ⟨fun _ => rfl, fun h => absurd h (by omega)⟩, fix := ⟨⟨Int.le_refl 0, by show (0 : Int) < 18446744073709551616; omega⟩, by rw [andNot_zero]; simp [bv]⟩ }
  generalize (⟨2 + x, 2 + y, fun _ => 0, fun _ => 0, fun _ => 0, 0⟩ : Gr) = G0 at *
  generalize w2.alloc (.cells G0.cells 30) = W2 at *
  generalize w2.heap.size = q1 at *
  have hbd := hst.lt
  generalize hq0 : w.heap.size = q0 at *
  obtain ⟨X, hX⟩ : ∃ X, X = 2 + x := ⟨_, rfl⟩
  obtain ⟨Y, hY⟩ : ∃ Y, Y = 2 + y := ⟨_, rfl⟩
  rw [← hX, ← hY] at hdr
  have bX : 2 ≤ X ∧ X ≤ 4 := by omega
  have bY : 2 ≤ Y ∧ Y ≤ 4 := by omega
  have ho := fun (n : Int) (j : Nat) (h1 : 1 ≤ n) (h2 : n ≤ 1099511627776) (hj : j < 900000) (w' : World) (hs : Src w' b j) => one_any b j n (by omega) h1 h2 w' hs
  have hf := fun (j : Nat) (hj : j < 900000) (w' : World) (hs : Src w' b j) => l01Few_any b j (by omega) w' hs
  clear hX hY hs
  go_wp2_with fail
  go_loopw [4] (fun i wr => ∃ (j : Nat) (G : Gr), j ≤ 64 ∧ i = .int .i64 j ∧ Drawn X Y j G ∧ St w wr b q0 q1 (k + 4 + 14 * j) G) (fun i _ => 64 - (intOf i).toNat)
  case atStart => exact ⟨0, G0, by omega, rfl, hdr, hst⟩
  case round =>
    clear hst hdr
    obtain ⟨j, G, hj, rfl, hdr, hst⟩ := hrel
    by_cases hlt : j < 64
    · have bj : (0 : Int) ≤ j := by omega
      have bl : (j : Int) < 64 := by omega
      have his := l01Is_any G q1 j (hdr.ok bX bY) hlt wr hst.b1.gat
      cases hc : isC G j
      · rw [hc] at his
        replace hdr := hdr.skip hc
        clear hc
        go_wp2_with (go_at_call 79; refine his.mono ?_; rintro e w' ⟨rfl, hw⟩; rw [hw]; clear hw w')
        go_roundw
        case rel => exact ⟨j + 1, G, by omega, by go_num, hdr, hst.mono (by omega)⟩
        case measure => simp [intOf]; omega
      · rw [hc] at his
        have HC := Lib.hid hc
        clear hc
        go_upto_region 7 with (first | (go_at_call 79; refine his.mono ?_; rintro e w' ⟨rfl, hw⟩; rw [hw]; clear hw w') | (go_at_call 44; refine (hp _ _ (by decide) (by decide) (by omega) _ hst.src).mono ?_; rintro e w1 ⟨z, ⟨u0, u1⟩, rfl, hs, hg⟩; replace hst := hst.ask hs hg; clear hs hg; obtain ⟨m, rfl⟩ : ∃ m : Nat, z = m := ⟨z.toNat, by omega⟩) | (refine wpList_store_abs (v := .float .f32 _) rfl rfl rfl rfl szF32 rfl rfl (hst.drewN _).b1 (by rw [Gr.size]; omega) ?_; intro w2 hB hG))
        clear his
        rw [fres_some (con_is (show m < 12 by omega)), Gr.putC _ _ _ hlt] at hB
        replace hst := (hst.drewN _).put hB hG
        replace hdr := hdr.setC j (conOf m) HC.out (.inr ⟨m, by omega, rfl⟩)
        replace HC : Hid (isC ({ G with con := upd G.con j (conOf m) } : Gr) j = true) := HC
        clear hB hG u0 u1
        generalize ({ G with con := upd G.con j (conOf m) } : Gr) = G1 at *
        --ROUND
        go_upto_region 9 with (first | (go_at_call 117; refine (ho _ _ (by decide) (by decide) (by omega) _ hst.src).mono ?_; rintro e w1 ⟨z, rfl, hs, hg⟩; replace hst := hst.ask hs hg; clear hs hg) | (refine wpList_store_abs (v := .float .f32 _) rfl rfl rfl rfl szF32 rfl rfl hst.b1 (by rw [Gr.size]; omega) ?_; intro w2 hB hG))
        · rw [Gr.putC _ _ _ hlt] at hB
          replace hst := hst.put hB hG
          replace hdr := hdr.setC j 0 HC.out (.inl rfl)
          replace HC : Hid (isC ({ G1 with con := upd G1.con j 0 } : Gr) j = true) := HC
          clear hB hG
          generalize ({ G1 with con := upd G1.con j 0 } : Gr) = G2 at *
          go_upto_region 11 with (first | (go_at_call 117; refine (ho _ _ (by decide) (by decide) (by omega) _ hst.src).mono ?_; rintro e w1 ⟨z, rfl, hs, hg⟩; replace hst := hst.ask hs hg; clear hs hg) | (go_at_call 118; refine (hf _ (by omega) _ hst.src).mono ?_; rintro e w1 ⟨z, ⟨m, hm, rfl⟩, rfl, hs, hg⟩; replace hst := hst.ask hs hg; clear hs hg) | (refine wpList_store_abs (v := .float .f32 _) rfl rfl rfl rfl szF32 rfl rfl hst.b1 (by rw [Gr.size]; omega) ?_; intro w2 hB hG))
          · rw [Gr.putG _ _ _ hlt] at hB
            replace hst := hst.put hB hG
            replace hdr := hdr.setG j (fewOf m) HC.out ⟨m, hm, rfl⟩
            replace HC : Hid (isC ({ G2 with gai := upd G2.gai j (fewOf m) } : Gr) j = true) := HC
            clear hB hG
            generalize ({ G2 with gai := upd G2.gai j (fewOf m) } : Gr) = G3 at *
            go_upto_region 12 with (first | (go_at_call 118; refine (hf _ (by omega) _ hst.src).mono ?_; rintro e w1 ⟨z, ⟨m, hm, rfl⟩, rfl, hs, hg⟩; replace hst := hst.ask hs hg; clear hs hg) | (refine wpList_store_abs (v := .float .f32 _) rfl rfl rfl rfl szF32 rfl rfl (hst.drewN _).b1 (by rw [Gr.size]; omega) ?_; intro w2 hB hG))
            rw [fres_some (head_is hm), Gr.setH _ _ _ hlt] at hB
            replace hst := (hst.drewN _).put hB hG
            replace hdr := hdr.setH (headOf m) HC.out ⟨m, hm, rfl⟩
            replace HC : Hid (isC ({ G3 with hea := upd G3.hea j (headOf m) } : Gr) j = true) := HC
            clear hB hG
            generalize ({ G3 with hea := upd G3.hea j (headOf m) } : Gr) = G4 at *
            clear hm
            go_wp2_with (first | (go_at_call 117; refine (ho _ _ (by decide) (by decide) (by omega) _ hst.src).mono ?_; rintro e w1 ⟨z, rfl, hs, hg⟩; replace hst := hst.ask hs hg; clear hs hg; have cF := hst.b1.gat.getF; have fF := hst.b1.free 194) | (refine wpList_store_abs (v := .int .u64 _) rfl rfl rfl rfl szU64 rfl rfl hst.b1 (by rw [Gr.size]; omega) ?_; intro w2 hB hG))
            · rw [orB_eq, Gr.setF] at hB
              replace hst := hst.put hB hG
              replace hdr := hdr.setF j hlt HC.out
              clear hB hG cF fF
              go_roundw
              case rel => exact ⟨j + 1, _, by omega, by go_num, hdr, hst.mono (by omega)⟩
              case measure => simp [intOf]; omega
            · go_roundw
              case rel => exact ⟨j + 1, _, by omega, by go_num, hdr, hst.mono (by omega)⟩
              case measure => simp [intOf]; omega
          · go_upto_region 12 with (first | (go_at_call 118; refine (hf _ (by omega) _ hst.src).mono ?_; rintro e w1 ⟨z, ⟨m, hm, rfl⟩, rfl, hs, hg⟩; replace hst := hst.ask hs hg; clear hs hg) | (refine wpList_store_abs (v := .float .f32 _) rfl rfl rfl rfl szF32 rfl rfl (hst.drewN _).b1 (by rw [Gr.size]; omega) ?_; intro w2 hB hG))
            rw [fres_some (head_is hm), Gr.setH _ _ _ hlt] at hB
            replace hst := (hst.drewN _).put hB hG
            replace hdr := hdr.setH (headOf m) HC.out ⟨m, hm, rfl⟩
            replace HC : Hid (isC ({ G2 with hea := upd G2.hea j (headOf m) } : Gr) j = true) := HC
            clear hB hG
            generalize ({ G2 with hea := upd G2.hea j (headOf m) } : Gr) = G4 at *
            clear hm
            go_wp2_with (first | (go_at_call 117; refine (ho _ _ (by decide) (by decide) (by omega) _ hst.src).mono ?_; rintro e w1 ⟨z, rfl, hs, hg⟩; replace hst := hst.ask hs hg; clear hs hg; have cF := hst.b1.gat.getF; have fF := hst.b1.free 194) | (refine wpList_store_abs (v := .int .u64 _) rfl rfl rfl rfl szU64 rfl rfl hst.b1 (by rw [Gr.size]; omega) ?_; intro w2 hB hG))
            · rw [orB_eq, Gr.setF] at hB
              replace hst := hst.put hB hG
              replace hdr := hdr.setF j hlt HC.out
              clear hB hG cF fF
              go_roundw
              case rel => exact ⟨j + 1, _, by omega, by go_num, hdr, hst.mono (by omega)⟩
              case measure => simp [intOf]; omega
            · go_roundw
              case rel => exact ⟨j + 1, _, by omega, by go_num, hdr, hst.mono (by omega)⟩
              case measure => simp [intOf]; omega
        · go_upto_region 11 with (first | (go_at_call 117; refine (ho _ _ (by decide) (by decide) (by omega) _ hst.src).mono ?_; rintro e w1 ⟨z, rfl, hs, hg⟩; replace hst := hst.ask hs hg; clear hs hg) | (go_at_call 118; refine (hf _ (by omega) _ hst.src).mono ?_; rintro e w1 ⟨z, ⟨m, hm, rfl⟩, rfl, hs, hg⟩; replace hst := hst.ask hs hg; clear hs hg) | (refine wpList_store_abs (v := .float .f32 _) rfl rfl rfl rfl szF32 rfl rfl hst.b1 (by rw [Gr.size]; omega) ?_; intro w2 hB hG))
          · rw [Gr.putG _ _ _ hlt] at hB
            replace hst := hst.put hB hG
            replace hdr := hdr.setG j (fewOf m) HC.out ⟨m, hm, rfl⟩
            replace HC : Hid (isC ({ G1 with gai := upd G1.gai j (fewOf m) } : Gr) j = true) := HC
            clear hB hG
            generalize ({ G1 with gai := upd G1.gai j (fewOf m) } : Gr) = G3 at *
            go_upto_region 12 with (first | (go_at_call 118; refine (hf _ (by omega) _ hst.src).mono ?_; rintro e w1 ⟨z, ⟨m, hm, rfl⟩, rfl, hs, hg⟩; replace hst := hst.ask hs hg; clear hs hg) | (refine wpList_store_abs (v := .float .f32 _) rfl rfl rfl rfl szF32 rfl rfl (hst.drewN _).b1 (by rw [Gr.size]; omega) ?_; intro w2 hB hG))
            rw [fres_some (head_is hm), Gr.setH _ _ _ hlt] at hB
            replace hst := (hst.drewN _).put hB hG
            replace hdr := hdr.setH (headOf m) HC.out ⟨m, hm, rfl⟩
            replace HC : Hid (isC ({ G3 with hea := upd G3.hea j (headOf m) } : Gr) j = true) := HC
            clear hB hG
            generalize ({ G3 with hea := upd G3.hea j (headOf m) } : Gr) = G4 at *
            clear hm
            go_wp2_with (first | (go_at_call 117; refine (ho _ _ (by decide) (by decide) (by omega) _ hst.src).mono ?_; rintro e w1 ⟨z, rfl, hs, hg⟩; replace hst := hst.ask hs hg; clear hs hg; have cF := hst.b1.gat.getF; have fF := hst.b1.free 194) | (refine wpList_store_abs (v := .int .u64 _) rfl rfl rfl rfl szU64 rfl rfl hst.b1 (by rw [Gr.size]; omega) ?_; intro w2 hB hG))
            · rw [orB_eq, Gr.setF] at hB
              replace hst := hst.put hB hG
              replace hdr := hdr.setF j hlt HC.out
              clear hB hG cF fF
              go_roundw
              case rel => exact ⟨j + 1, _, by omega, by go_num, hdr, hst.mono (by omega)⟩
              case measure => simp [intOf]; omega
            · go_roundw
              case rel => exact ⟨j + 1, _, by omega, by go_num, hdr, hst.mono (by omega)⟩
              case measure => simp [intOf]; omega
          · go_upto_region 12 with (first | (go_at_call 118; refine (hf _ (by omega) _ hst.src).mono ?_; rintro e w1 ⟨z, ⟨m, hm, rfl⟩, rfl, hs, hg⟩; replace hst := hst.ask hs hg; clear hs hg) | (refine wpList_store_abs (v := .float .f32 _) rfl rfl rfl rfl szF32 rfl rfl (hst.drewN _).b1 (by rw [Gr.size]; omega) ?_; intro w2 hB hG))
            rw [fres_some (head_is hm), Gr.setH _ _ _ hlt] at hB
            replace hst := (hst.drewN _).put hB hG
            replace hdr := hdr.setH (headOf m) HC.out ⟨m, hm, rfl⟩
            replace HC : Hid (isC ({ G1 with hea := upd G1.hea j (headOf m) } : Gr) j = true) := HC
            clear hB hG
            generalize ({ G1 with hea := upd G1.hea j (headOf m) } : Gr) = G4 at *
            clear hm
            go_wp2_with (first | (go_at_call 117; refine (ho _ _ (by decide) (by decide) (by omega) _ hst.src).mono ?_; rintro e w1 ⟨z, rfl, hs, hg⟩; replace hst := hst.ask hs hg; clear hs hg; have cF := hst.b1.gat.getF; have fF := hst.b1.free 194) | (refine wpList_store_abs (v := .int .u64 _) rfl rfl rfl rfl szU64 rfl rfl hst.b1 (by rw [Gr.size]; omega) ?_; intro w2 hB hG))
            · rw [orB_eq, Gr.setF] at hB
              replace hst := hst.put hB hG
              replace hdr := hdr.setF j hlt HC.out
              clear hB hG cF fF
              go_roundw
              case rel => exact ⟨j + 1, _, by omega, by go_num, hdr, hst.mono (by omega)⟩
              case measure => simp [intOf]; omega
            · go_roundw
              case rel => exact ⟨j + 1, _, by omega, by go_num, hdr, hst.mono (by omega)⟩
              case measure => simp [intOf]; omega
        --END
    · obtain rfl : j = 64 := by omega
      have cF := hst.b1.gat.getF
      have fF := hst.b1.free 194
      cases hz : (G.fix == 0)
      · have hdn := hdr.done bX bY hz
        clear hdr
        go_wp2_with (first | (refine wpList_load_blk rfl rfl rfl row66 hst.b1 G.size ?_) | (refine wpList_store_blk rfl rfl rfl rfl row66 hst.b0 (Gr.size _) (Gr.size _) (Gr.one _) ?_))
        obtain ⟨f1, f2⟩ := hst.fin G.cells
        exact bodyPost_row rfl rfl row66 (hst.b0.setRow _) (Gr.size _) rfl ⟨G, hdn, rfl, f1.mono (by omega), f2⟩
      · have hdn := (hdr.one bX.1 bY.1 hz).done bX bY rfl
        clear hdr
        go_wp2_with (first | (refine wpList_store_abs (v := .int .u64 _) rfl rfl rfl rfl szU64 rfl rfl hst.b1 (by rw [Gr.size]; omega) ?_; intro w2 hB hG; rw [Gr.setF] at hB; replace hst := hst.put hB hG; clear hB hG) | (refine wpList_load_blk rfl rfl rfl row66 hst.b1 (Gr.size _) ?_) | (refine wpList_store_blk rfl rfl rfl rfl row66 hst.b0 (Gr.size _) (Gr.size _) (Gr.one _) ?_))
        obtain ⟨f1, f2⟩ := hst.fin ({ G with fix := 1 } : Gr).cells
        exact bodyPost_row rfl rfl row66 (hst.b0.setRow _) (Gr.size _) rfl ⟨_, hdn, rfl, f1.mono (by omega), f2⟩
end Go.Proofs.YtdnnjahdcabdmaaGreatDoor
/- A ground drawn from bytes (A2Ground), a cell's question (A2Is), and whether bytes are too many (a2Long). -/
namespace Go.Proofs.YtdnnjahdcabdmaaGreatDoor
open Go.ChangeShapes Go.WideShapes Go.ChangeAt Go.RowKit
set_option linter.unusedVariables false
set_option linter.unusedSimpArgs false
attribute [local irreducible] Calls

set_option maxRecDepth 100000 in
set_option maxHeartbeats 400000 in
theorem l00From_any (v : Value) (n : Nat) (w : World) (hv : Bytes w w.heap.size v n) :
    Calls Tryz.prog 43 #[v] w fun e w' => e = .returned (.pointer (some ⟨w.heap.size, 0, none⟩)) ∧ w' = w.alloc (.cells #[v, .int .i64 0, .int .u64 0] 149) := by
  obtain ⟨a, c, rfl, hn, hc⟩ := hv
  clear hc
  go_enter Tryz.func43, Tryz.ntmps43
  go_wp2_with fail
  go_ret
  exact ⟨rfl, rfl⟩
theorem src_new {w : World} {v : Value} {n : Nat} (hv : Bytes w w.heap.size v n) : Src (w.alloc (.cells #[v, .int .i64 0, .int .u64 0] 149)) w.heap.size 0 :=
  ⟨v, n, 0, 0, Blk.new _ _ _, Nat.le_refl _, by omega, by omega, hv.move fun r hr => heap_alloc_old w _ hr⟩
def GotG (w : World) (e : Ending) (w' : World) : Prop := ∃ G : Gr, IsDrawn G ∧ e = .returned (.agg G.cells) ∧ Below w.heap.size w w'
set_option maxRecDepth 100000 in
set_option maxHeartbeats 400000 in
theorem a2Ground_any (v : Value) (n : Nat) (w : World) (hv : Bytes w w.heap.size v n) :
    Calls Tryz.prog 23 #[v] w (GotG w) := by
  go_enter Tryz.func23, Tryz.ntmps23
  go_upto_region 1 with (refine wpList_alloc_as rfl rfl zero66 ?_)
  have hb0 : Blk (w.alloc (.cells zeroGr.cells 30)) w.heap.size zeroGr.cells 30 := Blk.new _ _ _
  have hbel : Below w.heap.size w (w.alloc (.cells zeroGr.cells 30)) := below1 _ _
  have hv1 : Bytes (w.alloc (.cells zeroGr.cells 30)) (w.alloc (.cells zeroGr.cells 30)).heap.size v n := by
    obtain ⟨a, c, h1, h2, h3⟩ := hv.move (w' := w.alloc (.cells zeroGr.cells 30)) (fun r hr => heap_alloc_old w _ hr)
    refine ⟨a, c, h1, h2, fun j hj => ?_⟩
    obtain ⟨r, o, x, g1, g2, g3⟩ := h3 j hj
    exact ⟨r, o, x, g1, by simp; omega, g3⟩
  change Code.wp _ _ _ _ (w.alloc (.cells zeroGr.cells 30))
  generalize w.alloc (.cells zeroGr.cells 30) = W at *
  have lW := hb0.lt
  have hs := src_new hv1
  have hfr := l00From_any v n W hv1
  have hbs : Below w.heap.size w (W.alloc (.cells #[v, .int .i64 0, .int .u64 0] 149)) := hbel.alloc (by omega) _
  have hb0 := hb0.alloc (.cells #[v, .int .i64 0, .int .u64 0] 149)
  generalize W.alloc (.cells #[v, .int .i64 0, .int .u64 0] 149) = W1 at *
  generalize hq : W.heap.size = q at *
  have hdr := l01Drawn_any q 0 (by omega) W1 hs
  clear hs hv1 hv
  go_wp2_with (first | (go_at_call 43; refine hfr.mono ?_; rintro e w1 ⟨rfl, hw⟩; subst hw) | (go_at_call 69; refine hdr.mono ?_; rintro e w2 ⟨G, hG, rfl, hs2, hg2⟩; clear hdr) | (refine wpList_store_blk rfl rfl rfl rfl row66 (hb0.grown hg2 (fun e => by injection e; omega)) (Gr.size _) (Gr.size _) (Gr.one _) ?_))
  have hb2 := hb0.grown hg2 (fun e => by injection e; omega)
  exact bodyPost_row rfl rfl row66 (hb2.setRow _) (Gr.size _) rfl ⟨G, hG, rfl, below_setRow (hbs.grown hg2 (by have := hbs.size; omega) (fun k e => by injection e; omega)) (Nat.le_refl _) _⟩
set_option maxRecDepth 100000 in
set_option maxHeartbeats 400000 in
theorem a2Is_any (G : Gr) (k : Nat) (hG : G.ok) (hk : k < 64) (w : World) :
    Calls Tryz.prog 37 #[.agg G.cells, .int .i64 k] w fun e w' => e = .returned (.bool (isC G k)) ∧ Below w.heap.size w w' := by
  have his := fun q w' hb => l01Is_any G q k hG hk w' hb
  generalize isC G k = c at *
  go_enter Tryz.func37, Tryz.ntmps37
  go_upto_region 1 with (refine wpList_box_as rfl rfl rfl ?_)
  have hb : Blk (w.alloc (.cells G.cells 30)) w.heap.size G.cells 30 := Blk.new _ _ _
  have hbel := below1 w (.cells G.cells 30)
  generalize w.alloc (.cells G.cells 30) = W at *
  have his := his w.heap.size W hb.gat
  go_wp2_with (go_at_call 79; refine his.mono ?_; rintro e w' ⟨rfl, hw⟩; rw [hw]; clear hw w')
  go_ret
  exact ⟨rfl, hbel⟩
end Go.Proofs.YtdnnjahdcabdmaaGreatDoor
