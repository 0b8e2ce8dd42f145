import Derived.Test.YtmmfnklnmdhkiaaGreatMU27
import Derived.Test.YtmmfnklnmdhkiaaGreatMU19
/- Two grounds of the same cells are the same; so are two lists of numbers. -/
namespace Go.Proofs.YtmmfnklnmdhkiaaGreat
open Go.ChangeShapes Go.WideShapes Go.ChangeAt Go.RowKit
set_option linter.unusedVariables false
set_option linter.unusedSimpArgs false
attribute [local irreducible] Calls
set_option maxRecDepth 100000 in
set_option maxHeartbeats 1000000 in
theorem l01SameGround_self (g : Gr) (p q : Nat) (w : World) (hp : GAt w p g) (hq : GAt w q g) :
    Calls Tryz.prog 38 #[.pointer (some ⟨p, 0, none⟩), .pointer (some ⟨q, 0, none⟩)] w fun e w' => e = .returned (.bool true) ∧ ∃ n, w' = w.drewN n := by
  have c0 := hp.get0
  have c1 := hp.get1
  have c5 := hp.getF
  have d0 := hq.get0
  have d1 := hq.get1
  have d5 := hq.getF
  have hC := fun n => l01SameField_self p 2 q 2 g.con (w.drewN n) (fun k hk => (hp.drewN n).getC k hk) (fun k hk => (hq.drewN n).getC k hk)
  have hG := fun n => l01SameField_self p 66 q 66 g.gai (w.drewN n) (fun k hk => (hp.drewN n).getG k hk) (fun k hk => (hq.drewN n).getG k hk)
  have hH := fun n => l01SameField_self p 130 q 130 g.hea (w.drewN n) (fun k hk => (hp.drewN n).getH k hk) (fun k hk => (hq.drewN n).getH k hk)
  clear hp hq
  go_enter Tryz.func38, Tryz.ntmps38
  go_upto_region 1 with fail
  go_quiet ((go_at_call 79; first | exact Calls.quiet_of (hC _) | exact Calls.quiet_of (hG _) | exact Calls.quiet_of (hH _)))
  go_wp2_with fail
  go_ret
  exact ⟨rfl, _, rfl⟩
set_option maxRecDepth 100000 in
set_option maxHeartbeats 1000000 in
theorem sameGround_self (g : Gr) (w : World) :
    Calls Tryz.prog 9 #[.agg g.cells, .agg g.cells] w fun e w' => e = .returned (.bool true) ∧ Below w.heap.size w w' := by
  have hA : Blk ((w.alloc (.cells g.cells 30)).alloc (.cells g.cells 30)) w.heap.size g.cells 30 := (Blk.new _ _ _).alloc _
  have hB : Blk ((w.alloc (.cells g.cells 30)).alloc (.cells g.cells 30)) (w.heap.size + 1) g.cells 30 := Blk.new1 _ _ _ _
  have hbel := below2 w (.cells g.cells 30) (.cells g.cells 30)
  go_enter Tryz.func9, Tryz.ntmps9
  go_upto_region 1 with (first | (refine wpList_box_as rfl rfl rfl ?_))
  generalize ((w.alloc (.cells g.cells 30)).alloc (.cells g.cells 30)) = W at *
  have hs := l01SameGround_self g _ _ W hA.gat hB.gat
  go_wp2_with (first | (go_at_call 38; refine hs.mono ?_; rintro e w1 ⟨rfl, m, rfl⟩))
  go_ret
  exact ⟨rfl, below_drewN hbel _⟩
set_option maxRecDepth 100000 in
set_option maxHeartbeats 1000000 in
theorem sameNumbers_self (v y : Value) (r q n : Nat) (F : Nat → Nat) (w : World) (hn : n ≤ 400) (h1 : Rs 25 w r v n (fls n F)) (h2 : Rs 25 w q y n (fls n F)) :
    Calls Tryz.prog 27 #[v, y] w fun e w' => e = .returned (.bool true) ∧ ∃ k, w' = w.drewN k := by
  obtain ⟨a, c, rfl, c1, c2, h1⟩ := h1.form
  obtain ⟨b, d, rfl, d1, d2, h2⟩ := h2.form
  have H1 := Lib.hid h1
  have H2 := Lib.hid h2
  clear h1 h2 c1 c2 d1 d2
  go_enter Tryz.func27, Tryz.ntmps27
  go_wp2_with fail
  go_loopw [5] (fun i wr => ∃ (j m : Nat), j ≤ n ∧ i = .int .i64 j ∧ wr = w.drewN m) (fun i _ => n - (intOf i).toNat)
  case atStart => exact ⟨0, 0, by omega, rfl, rfl⟩
  case round =>
    obtain ⟨j, m, hj, rfl, hw⟩ := hrel
    have bj : (0 : Int) ≤ j := by omega
    rw [hw]
    clear hw wr
    by_cases hlt : j < n
    · have bl : (j : Int) < n := by omega
      obtain ⟨rfl, rr, H1⟩ := H1.out.resolve_left (by omega)
      obtain ⟨rfl, rq, H2⟩ := H2.out.resolve_left (by omega)
      have e1 : (w.drewN m).cell? ⟨r, j, none⟩ = some (.float .f32 (F j)) := (H1 j hlt).trans (fls_get n F j hlt)
      have e2 : (w.drewN m).cell? ⟨q, j, none⟩ = some (.float .f32 (F j)) := (H2 j hlt).trans (fls_get n F j hlt)
      clear H1 H2
      have hs := fun w' => sameNumber_self (F j) w'
      generalize hW : w.drewN m = W at *
      go_upto_region 6 with fail
      go_quiet ((go_at_call 29; exact Calls.quiet_of_same (hs _)))
      go_wp2_with fail
      go_roundw
      case rel => exact ⟨j + 1, m + nq, by omega, by go_num, by rw [← hW, World.drewN_drewN]⟩
      case measure => simp [intOf]; omega
    · obtain rfl : j = n := by omega
      go_wp2_with fail
      go_ret
      exact ⟨rfl, _, rfl⟩
end Go.Proofs.YtmmfnklnmdhkiaaGreat
/- The walk through the drawing of a ground. -/
namespace Go.Proofs.YtmmfnklnmdhkiaaGreat
open Go.ChangeShapes Go.WideShapes Go.ChangeAt Go.RowKit
set_option linter.unusedVariables false
set_option linter.unusedSimpArgs false
attribute [local irreducible] Calls

/-- A store into one cell of a block: the world behind it by what it holds. -/
theorem wpList_store_abs {P : Program} {ops : Array Oper} {rest : List Oper} {o : Oper} {a : Act} {Q : Exit → Act → World → Prop} {w : World} {ty t : TypeId} {x y : Operand} {b f : Nat} {v : Value} {C : Array Value} (hgd : o.guard = none) (ho : o.op = .store ty x y) (hx : a.eval x = .pointer (some ⟨b, f, none⟩)) (hy : a.eval y = v) (hi : (P.info? ty).map (·.size) = some 1) (hv : v.cells = #[v]) (h1 : v.oneCell' = true) (hb : Blk w b C t) (hf : f < C.size)
    (h : ∀ W, Blk W b (C.setIfInBounds f v) t → w.grownBy W (some b) → wpList P ops Q rest (a.put o.dst undef) W) : wpList P ops Q (o :: rest) a w :=
  wpList_plain hgd fun K hK => by
    have hst := run_storeCells_at P b f t [v] 0 C w hb (by simp; omega) (by simpa using h1)
    unfold Oper.wp execOp
    cases hq : P.info? ty with
    | none => simp [hq] at hi
    | some i =>
      have hsz : i.size = 1 := by simpa [hq] using hi
      simp only [ho, hx, hy, Instr.storeAt, Instr.sureAddr, Sem.run_bind, Sem.run_pure, Result.andThen_ok]
      obtain ⟨W, hW, hB, hG⟩ : ∃ W, (storeVar ty ⟨b, f, none⟩ v).run P w = .ok () W ∧ Blk W b (C.setIfInBounds f v) t ∧ w.grownBy W (some b) := by
        refine ⟨w.setRow b (splice C f #[v]), ?_, ?_, ?_⟩
        · have hst' : (storeCells ⟨b, f, none⟩ [v] 0).run P w = .ok () (w.setRow b (splice C f #[v])) := by simpa [splice] using hst
          simp [storeVar, sizeOf, typeInfo, hq, hv, hsz, hst']
        · have := hb.setRow (splice C f #[v])
          have e : splice C f #[v] = C.setIfInBounds f v := by
            unfold splice
            apply Array.ext'
            simp only [Array.toList_setIfInBounds]
            rw [List.set_eq_take_append_cons_drop, if_pos (by simpa using hf)]
            simp
          rw [e] at this ⊢
          exact this
        · exact ⟨rfl, rfl, rfl, by simp, fun j hj hne => setRow_other w b j _ (fun e => hne (by rw [e]))⟩
      rw [hW]
      exact hK _ _ (h W hB hG)
def zeroGr : Gr := ⟨0, 0, fun _ => 0, fun _ => 0, fun _ => 0, 0⟩
theorem zeroCells_gr : Tryz.zeroCells30 = zeroGr.cells := by unfold zeroGr Gr.cells; kernel_rfl
theorem builtGr (x y : Int) : (Tryz.zeroCells30.setIfInBounds 0 (.int .i8 x)).setIfInBounds 1 (.int .i8 y) = (⟨x, y, fun _ => 0, fun _ => 0, fun _ => 0, 0⟩ : Gr).cells := by
  rw [zeroCells_gr, Gr.set0, Gr.set1]; rfl
structure St (w0 wr : World) (b q0 q1 K : Nat) (G : Gr) : Prop where
  src : Src wr b K
  b0 : Blk wr q0 zeroGr.cells 30
  b1 : Blk wr q1 G.cells 30
  grow : w0.grownBy wr (some b)
  lt : b < w0.heap.size ∧ w0.heap.size ≤ q0 ∧ q0 < q1
section
variable {w0 wr w1 : World} {b q0 q1 K K' : Nat} {G : Gr}
theorem St.ask (h : St w0 wr b q0 q1 K G) (hs : Src w1 b K') (hg : wr.grownBy w1 (some b)) : St w0 w1 b q0 q1 K' G :=
  ⟨hs, h.b0.grown hg (fun e => by injection e; have := h.lt; omega), h.b1.grown hg (fun e => by injection e; have := h.lt; omega), h.grow.trans hg, h.lt⟩
theorem St.drewN (h : St w0 wr b q0 q1 K G) (n : Nat) : St w0 (wr.drewN n) b q0 q1 K G :=
  h.ask (h.src.move fun _ _ => rfl) (grown_drewN _ _ _)
theorem St.put {G' : Gr} (h : St w0 wr b q0 q1 K G) (hB : Blk w1 q1 G'.cells 30) (hg : wr.grownBy w1 (some q1)) : St w0 w1 b q0 q1 K G' :=
  ⟨h.src.move fun r hr => hg.block r (by have := h.src.lt; omega) (fun e => by injection e; have := h.lt; omega), h.b0.grown hg (fun e => by injection e; have := h.lt; omega), hB, h.grow.andThen hg (fun j e => by injection e; have := h.lt; exact .inl (by omega)), h.lt⟩
theorem St.mono (h : St w0 wr b q0 q1 K G) (hk : K ≤ K') : St w0 wr b q0 q1 K' G := { h with src := h.src.mono hk }
end
theorem St.fin {w0 wr : World} {b q0 q1 K : Nat} {G : Gr} (h : St w0 wr b q0 q1 K G) (C : Array Value) : Src (wr.setRow q0 C) b K ∧ w0.grownBy (wr.setRow q0 C) (some b) := by
  have hg : wr.grownBy (wr.setRow q0 C) (some q0) := ⟨rfl, rfl, rfl, by simp, fun j hj hne => setRow_other wr q0 j C (fun e => hne (by rw [e]))⟩
  exact ⟨h.src.move fun r hr => hg.block r (by have := h.src.lt; omega) (fun e => by injection e; have := h.lt; omega), h.grow.andThen hg (fun j e => by injection e; have := h.lt; exact .inl (by omega))⟩
theorem Drawn.one {W H : Int} {k : Nat} {G : Gr} (h : Drawn W H k G) (hW : 2 ≤ W) (hH : 2 ≤ H) (hf : (G.fix == 0) = true) : Drawn W H k { G with fix := 1 } := by
  have hc : isC G 0 = true := by unfold isC; rw [h.wide, h.high]; simp; omega
  have := h.setF 0 (by omega) hc
  rw [show orB G.fix 0 = 1 by rw [show G.fix = 0 by simpa using hf]; kernel_rfl] at this
  exact this
theorem Gr.putC (g : Gr) (k b : Nat) (hk : k < 64) : g.cells.setIfInBounds (2 + k) (.float .f32 b) = ({ g with con := upd g.con k b } : Gr).cells := by
  refine Gr.cells_of _ (by simp [g.size]) fun i hi => ?_
  rw [Array.getElem?_setIfInBounds]
  by_cases h : 2 + k = i
  · rw [if_pos h, if_pos (by rw [g.size]; omega)]
    subst h
    unfold Gr.at upd
    simp only [show ¬ (2 + k = 0) by omega, show ¬ (2 + k = 1) by omega, show 2 + k < 66 by omega, if_true, if_false, show 2 + k - 2 = k by omega]
  · rw [if_neg h, g.get i hi]
    congr 1
    unfold Gr.at upd
    by_cases i0 : i = 0
    · simp only [i0, if_true]
    · by_cases i1 : i = 1
      · simp only [i1]; rfl
      · by_cases i2 : i < 66
        · simp only [i0, i1, i2, if_true, if_false, show ¬ (i - 2 = k) by omega]
        · simp only [i0, i1, i2, if_false]
theorem Gr.putG (g : Gr) (k b : Nat) (hk : k < 64) : g.cells.setIfInBounds (66 + k) (.float .f32 b) = ({ g with gai := upd g.gai k b } : Gr).cells := by
  refine Gr.cells_of _ (by simp [g.size]) fun i hi => ?_
  rw [Array.getElem?_setIfInBounds]
  by_cases h : 66 + k = i
  · rw [if_pos h, if_pos (by rw [g.size]; omega)]
    subst h
    unfold Gr.at upd
    simp only [show ¬ (66 + k = 0) by omega, show ¬ (66 + k = 1) by omega, show ¬ (66 + k < 66) by omega, show 66 + k < 130 by omega, if_true, if_false, show 66 + k - 66 = k by omega]
  · rw [if_neg h, g.get i hi]
    congr 1
    unfold Gr.at upd
    by_cases i0 : i = 0
    · simp only [i0, if_true]
    · by_cases i1 : i = 1
      · simp only [i1]; rfl
      · by_cases i2 : i < 66
        · simp only [i0, i1, i2, if_true, if_false]
        · by_cases i3 : i < 130
          · simp only [i0, i1, i2, i3, if_true, if_false, show ¬ (i - 66 = k) by omega]
          · simp only [i0, i1, i2, i3, if_false]
theorem szF32 : (Tryz.prog.info? 25).map (·.size) = some 1 := by kernel_rfl
theorem szU64 : (Tryz.prog.info? 28).map (·.size) = some 1 := by kernel_rfl
/-- What l01Drawn gives. -/
def GaveG (w : World) (b k : Nat) (e : Ending) (w' : World) : Prop := ∃ G : Gr, IsDrawn G ∧ e = .returned (.agg G.cells) ∧ Src w' b k ∧ w.grownBy w' (some b)
set_option maxRecDepth 100000 in
set_option maxHeartbeats 1000000 in
theorem l01Drawn_any (b k : Nat) (hk : k < 10000) (w : World) (hs : Src w b k) :
    Calls Tryz.prog 30 #[.pointer (some ⟨b, 0, none⟩)] w (GaveG w b (k + 2000)) := by
  have hp := fun (n : Int) (j : Nat) (h1 : 1 ≤ n) (h2 : n ≤ 1099511627776) (hj : j < 900000) (w' : World) (hs : Src w' b j) => pick_any b j n (by omega) h1 h2 w' hs
  go_enter Tryz.func30, Tryz.ntmps30
  go_upto_region 1 with (refine wpList_alloc_as rfl rfl zero66 ?_)
  have hb0 : Blk (w.alloc (.cells zeroGr.cells 30)) w.heap.size zeroGr.cells 30 := Blk.new _ _ _
  have hs1 : Src (w.alloc (.cells zeroGr.cells 30)) b k := hs.move fun r hr => heap_alloc_old w _ (by have := hs.lt; omega)
  have hg1 : w.grownBy (w.alloc (.cells zeroGr.cells 30)) (some b) := World.grownBy_alloc _ _ _
  have lb := hs.lt
  change Code.wp _ _ _ _ (w.alloc (.cells zeroGr.cells 30))
  generalize w.alloc (.cells zeroGr.cells 30) = W at *
  go_upto_region 2 with (first | (go_at_call 32; refine (hp 3 k (by decide) (by decide) (by omega) _ hs1).mono ?_; rintro e w1 ⟨x, ⟨x0, x1⟩, rfl, hs2, hg2⟩; clear hs1) | (go_at_call 32; refine (hp 3 (k + 2) (by decide) (by decide) (by omega) _ hs2).mono ?_; rintro e w2 ⟨y, ⟨y0, y1⟩, rfl, hs3, hg3⟩; clear hs2) | (refine wpList_alloc_as rfl rfl zero66 ?_) | (refine wpList_store_last rfl rfl rfl rfl rfl (by rw [builtGr, Gr.size]; kernel_rfl) (by rw [builtGr, Gr.size, Gr.size]) (by rw [builtGr]; exact List.all_eq_true.2 (Gr.one _)) ?_))
  have hB1 := Blk.new w2 ((Tryz.zeroCells30.setIfInBounds 0 (.int .i8 (2 + x))).setIfInBounds 1 (.int .i8 (2 + y))) 30
  rw [builtGr] at hB1 ⊢
  have hst : St w (w2.alloc (.cells (⟨2 + x, 2 + y, fun _ => 0, fun _ => 0, fun _ => 0, 0⟩ : Gr).cells 30)) b w.heap.size w2.heap.size (k + 4) ⟨2 + x, 2 + y, fun _ => 0, fun _ => 0, fun _ => 0, 0⟩ := by
    have e1 := hg2.size
    have e2 := hg3.size
    have e3 := hb0.lt
    exact ⟨hs3.move fun r hr => heap_alloc_old w2 _ (by omega), ((hb0.grown hg2 (fun e => by injection e; omega)).grown hg3 (fun e => by injection e; omega)).alloc _, hB1, ((hg1.trans hg2).trans hg3).trans (World.grownBy_alloc _ _ _), by omega⟩
  clear hB1 hs3 hb0 hg1 hg2 hg3
  have hdr : Drawn (2 + x) (2 + y) 0 ⟨2 + x, 2 + y, fun _ => 0, fun _ => 0, fun _ => 0, 0⟩ := { wide := rfl, high := rfl, con := fun i hi => .inl rfl, gai := fun i hi => .inl rfl, hea := fun i hi => ⟨fun _ => rfl, fun h => absurd h (by omega)⟩, fix := ⟨⟨Int.le_refl 0, by show (0 : Int) < 18446744073709551616; omega⟩, by rw [andNot_zero]; simp [bv]⟩ }
  generalize (⟨2 + x, 2 + y, fun _ => 0, fun _ => 0, fun _ => 0, 0⟩ : Gr) = G0 at *
  generalize w2.alloc (.cells G0.cells 30) = W2 at *
  generalize w2.heap.size = q1 at *
  have hbd := hst.lt
  generalize hq0 : w.heap.size = q0 at *
  obtain ⟨X, hX⟩ : ∃ X, X = 2 + x := ⟨_, rfl⟩
  obtain ⟨Y, hY⟩ : ∃ Y, Y = 2 + y := ⟨_, rfl⟩
  rw [← hX, ← hY] at hdr
  have bX : 2 ≤ X ∧ X ≤ 4 := by omega
  have bY : 2 ≤ Y ∧ Y ≤ 4 := by omega
  have ho := fun (n : Int) (j : Nat) (h1 : 1 ≤ n) (h2 : n ≤ 1099511627776) (hj : j < 900000) (w' : World) (hs : Src w' b j) => one_any b j n (by omega) h1 h2 w' hs
  have hf := fun (j : Nat) (hj : j < 900000) (w' : World) (hs : Src w' b j) => l01Few_any b j (by omega) w' hs
  clear hX hY hs
  go_wp2_with fail
  go_loopw [4] (fun i wr => ∃ (j : Nat) (G : Gr), j ≤ 64 ∧ i = .int .i64 j ∧ Drawn X Y j G ∧ St w wr b q0 q1 (k + 4 + 14 * j) G) (fun i _ => 64 - (intOf i).toNat)
  case atStart => exact ⟨0, G0, by omega, rfl, hdr, hst⟩
  case round =>
    clear hst hdr
    obtain ⟨j, G, hj, rfl, hdr, hst⟩ := hrel
    by_cases hlt : j < 64
    · have bj : (0 : Int) ≤ j := by omega
      have bl : (j : Int) < 64 := by omega
      have his := l01Is_any G q1 j (hdr.ok bX bY) hlt wr hst.b1.gat
      cases hc : isC G j
      · rw [hc] at his
        replace hdr := hdr.skip hc
        clear hc
        go_wp2_with (go_at_call 67; refine his.mono ?_; rintro e w' ⟨rfl, hw⟩; rw [hw]; clear hw w')
        go_roundw
        case rel => exact ⟨j + 1, G, by omega, by go_num, hdr, hst.mono (by omega)⟩
        case measure => simp [intOf]; omega
      · rw [hc] at his
        have HC := Lib.hid hc
        clear hc
        go_upto_region 7 with (first | (go_at_call 67; refine his.mono ?_; rintro e w' ⟨rfl, hw⟩; rw [hw]; clear hw w') | (go_at_call 32; refine (hp _ _ (by decide) (by decide) (by omega) _ hst.src).mono ?_; rintro e w1 ⟨z, ⟨u0, u1⟩, rfl, hs, hg⟩; replace hst := hst.ask hs hg; clear hs hg; obtain ⟨m, rfl⟩ : ∃ m : Nat, z = m := ⟨z.toNat, by omega⟩) | (refine wpList_store_abs (v := .float .f32 _) rfl rfl rfl rfl szF32 rfl rfl (hst.drewN _).b1 (by rw [Gr.size]; omega) ?_; intro w2 hB hG))
        clear his
        rw [fres_some (con_is (show m < 12 by omega)), Gr.putC _ _ _ hlt] at hB
        replace hst := (hst.drewN _).put hB hG
        replace hdr := hdr.setC j (conOf m) HC.out (.inr ⟨m, by omega, rfl⟩)
        replace HC : Hid (isC ({ G with con := upd G.con j (conOf m) } : Gr) j = true) := HC
        clear hB hG u0 u1
        generalize ({ G with con := upd G.con j (conOf m) } : Gr) = G1 at *
        --ROUND
        go_upto_region 9 with (first | (go_at_call 71; refine (ho _ _ (by decide) (by decide) (by omega) _ hst.src).mono ?_; rintro e w1 ⟨z, rfl, hs, hg⟩; replace hst := hst.ask hs hg; clear hs hg) | (refine wpList_store_abs (v := .float .f32 _) rfl rfl rfl rfl szF32 rfl rfl hst.b1 (by rw [Gr.size]; omega) ?_; intro w2 hB hG))
        · rw [Gr.putC _ _ _ hlt] at hB
          replace hst := hst.put hB hG
          replace hdr := hdr.setC j 0 HC.out (.inl rfl)
          replace HC : Hid (isC ({ G1 with con := upd G1.con j 0 } : Gr) j = true) := HC
          clear hB hG
          generalize ({ G1 with con := upd G1.con j 0 } : Gr) = G2 at *
          go_upto_region 11 with (first | (go_at_call 71; refine (ho _ _ (by decide) (by decide) (by omega) _ hst.src).mono ?_; rintro e w1 ⟨z, rfl, hs, hg⟩; replace hst := hst.ask hs hg; clear hs hg) | (go_at_call 72; refine (hf _ (by omega) _ hst.src).mono ?_; rintro e w1 ⟨z, ⟨m, hm, rfl⟩, rfl, hs, hg⟩; replace hst := hst.ask hs hg; clear hs hg) | (refine wpList_store_abs (v := .float .f32 _) rfl rfl rfl rfl szF32 rfl rfl hst.b1 (by rw [Gr.size]; omega) ?_; intro w2 hB hG))
          · rw [Gr.putG _ _ _ hlt] at hB
            replace hst := hst.put hB hG
            replace hdr := hdr.setG j (fewOf m) HC.out ⟨m, hm, rfl⟩
            replace HC : Hid (isC ({ G2 with gai := upd G2.gai j (fewOf m) } : Gr) j = true) := HC
            clear hB hG
            generalize ({ G2 with gai := upd G2.gai j (fewOf m) } : Gr) = G3 at *
            go_upto_region 12 with (first | (go_at_call 72; refine (hf _ (by omega) _ hst.src).mono ?_; rintro e w1 ⟨z, ⟨m, hm, rfl⟩, rfl, hs, hg⟩; replace hst := hst.ask hs hg; clear hs hg) | (refine wpList_store_abs (v := .float .f32 _) rfl rfl rfl rfl szF32 rfl rfl (hst.drewN _).b1 (by rw [Gr.size]; omega) ?_; intro w2 hB hG))
            rw [fres_some (head_is hm), Gr.setH _ _ _ hlt] at hB
            replace hst := (hst.drewN _).put hB hG
            replace hdr := hdr.setH (headOf m) HC.out ⟨m, hm, rfl⟩
            replace HC : Hid (isC ({ G3 with hea := upd G3.hea j (headOf m) } : Gr) j = true) := HC
            clear hB hG
            generalize ({ G3 with hea := upd G3.hea j (headOf m) } : Gr) = G4 at *
            clear hm
            go_wp2_with (first | (go_at_call 71; refine (ho _ _ (by decide) (by decide) (by omega) _ hst.src).mono ?_; rintro e w1 ⟨z, rfl, hs, hg⟩; replace hst := hst.ask hs hg; clear hs hg; have cF := hst.b1.gat.getF; have fF := hst.b1.free 194) | (refine wpList_store_abs (v := .int .u64 _) rfl rfl rfl rfl szU64 rfl rfl hst.b1 (by rw [Gr.size]; omega) ?_; intro w2 hB hG))
            · rw [orB_eq, Gr.setF] at hB
              replace hst := hst.put hB hG
              replace hdr := hdr.setF j hlt HC.out
              clear hB hG cF fF
              go_roundw
              case rel => exact ⟨j + 1, _, by omega, by go_num, hdr, hst.mono (by omega)⟩
              case measure => simp [intOf]; omega
            · go_roundw
              case rel => exact ⟨j + 1, _, by omega, by go_num, hdr, hst.mono (by omega)⟩
              case measure => simp [intOf]; omega
          · go_upto_region 12 with (first | (go_at_call 72; refine (hf _ (by omega) _ hst.src).mono ?_; rintro e w1 ⟨z, ⟨m, hm, rfl⟩, rfl, hs, hg⟩; replace hst := hst.ask hs hg; clear hs hg) | (refine wpList_store_abs (v := .float .f32 _) rfl rfl rfl rfl szF32 rfl rfl (hst.drewN _).b1 (by rw [Gr.size]; omega) ?_; intro w2 hB hG))
            rw [fres_some (head_is hm), Gr.setH _ _ _ hlt] at hB
            replace hst := (hst.drewN _).put hB hG
            replace hdr := hdr.setH (headOf m) HC.out ⟨m, hm, rfl⟩
            replace HC : Hid (isC ({ G2 with hea := upd G2.hea j (headOf m) } : Gr) j = true) := HC
            clear hB hG
            generalize ({ G2 with hea := upd G2.hea j (headOf m) } : Gr) = G4 at *
            clear hm
            go_wp2_with (first | (go_at_call 71; refine (ho _ _ (by decide) (by decide) (by omega) _ hst.src).mono ?_; rintro e w1 ⟨z, rfl, hs, hg⟩; replace hst := hst.ask hs hg; clear hs hg; have cF := hst.b1.gat.getF; have fF := hst.b1.free 194) | (refine wpList_store_abs (v := .int .u64 _) rfl rfl rfl rfl szU64 rfl rfl hst.b1 (by rw [Gr.size]; omega) ?_; intro w2 hB hG))
            · rw [orB_eq, Gr.setF] at hB
              replace hst := hst.put hB hG
              replace hdr := hdr.setF j hlt HC.out
              clear hB hG cF fF
              go_roundw
              case rel => exact ⟨j + 1, _, by omega, by go_num, hdr, hst.mono (by omega)⟩
              case measure => simp [intOf]; omega
            · go_roundw
              case rel => exact ⟨j + 1, _, by omega, by go_num, hdr, hst.mono (by omega)⟩
              case measure => simp [intOf]; omega
        · go_upto_region 11 with (first | (go_at_call 71; refine (ho _ _ (by decide) (by decide) (by omega) _ hst.src).mono ?_; rintro e w1 ⟨z, rfl, hs, hg⟩; replace hst := hst.ask hs hg; clear hs hg) | (go_at_call 72; refine (hf _ (by omega) _ hst.src).mono ?_; rintro e w1 ⟨z, ⟨m, hm, rfl⟩, rfl, hs, hg⟩; replace hst := hst.ask hs hg; clear hs hg) | (refine wpList_store_abs (v := .float .f32 _) rfl rfl rfl rfl szF32 rfl rfl hst.b1 (by rw [Gr.size]; omega) ?_; intro w2 hB hG))
          · rw [Gr.putG _ _ _ hlt] at hB
            replace hst := hst.put hB hG
            replace hdr := hdr.setG j (fewOf m) HC.out ⟨m, hm, rfl⟩
            replace HC : Hid (isC ({ G1 with gai := upd G1.gai j (fewOf m) } : Gr) j = true) := HC
            clear hB hG
            generalize ({ G1 with gai := upd G1.gai j (fewOf m) } : Gr) = G3 at *
            go_upto_region 12 with (first | (go_at_call 72; refine (hf _ (by omega) _ hst.src).mono ?_; rintro e w1 ⟨z, ⟨m, hm, rfl⟩, rfl, hs, hg⟩; replace hst := hst.ask hs hg; clear hs hg) | (refine wpList_store_abs (v := .float .f32 _) rfl rfl rfl rfl szF32 rfl rfl (hst.drewN _).b1 (by rw [Gr.size]; omega) ?_; intro w2 hB hG))
            rw [fres_some (head_is hm), Gr.setH _ _ _ hlt] at hB
            replace hst := (hst.drewN _).put hB hG
            replace hdr := hdr.setH (headOf m) HC.out ⟨m, hm, rfl⟩
            replace HC : Hid (isC ({ G3 with hea := upd G3.hea j (headOf m) } : Gr) j = true) := HC
            clear hB hG
            generalize ({ G3 with hea := upd G3.hea j (headOf m) } : Gr) = G4 at *
            clear hm
            go_wp2_with (first | (go_at_call 71; refine (ho _ _ (by decide) (by decide) (by omega) _ hst.src).mono ?_; rintro e w1 ⟨z, rfl, hs, hg⟩; replace hst := hst.ask hs hg; clear hs hg; have cF := hst.b1.gat.getF; have fF := hst.b1.free 194) | (refine wpList_store_abs (v := .int .u64 _) rfl rfl rfl rfl szU64 rfl rfl hst.b1 (by rw [Gr.size]; omega) ?_; intro w2 hB hG))
            · rw [orB_eq, Gr.setF] at hB
              replace hst := hst.put hB hG
              replace hdr := hdr.setF j hlt HC.out
              clear hB hG cF fF
              go_roundw
              case rel => exact ⟨j + 1, _, by omega, by go_num, hdr, hst.mono (by omega)⟩
              case measure => simp [intOf]; omega
            · go_roundw
              case rel => exact ⟨j + 1, _, by omega, by go_num, hdr, hst.mono (by omega)⟩
              case measure => simp [intOf]; omega
          · go_upto_region 12 with (first | (go_at_call 72; refine (hf _ (by omega) _ hst.src).mono ?_; rintro e w1 ⟨z, ⟨m, hm, rfl⟩, rfl, hs, hg⟩; replace hst := hst.ask hs hg; clear hs hg) | (refine wpList_store_abs (v := .float .f32 _) rfl rfl rfl rfl szF32 rfl rfl (hst.drewN _).b1 (by rw [Gr.size]; omega) ?_; intro w2 hB hG))
            rw [fres_some (head_is hm), Gr.setH _ _ _ hlt] at hB
            replace hst := (hst.drewN _).put hB hG
            replace hdr := hdr.setH (headOf m) HC.out ⟨m, hm, rfl⟩
            replace HC : Hid (isC ({ G1 with hea := upd G1.hea j (headOf m) } : Gr) j = true) := HC
            clear hB hG
            generalize ({ G1 with hea := upd G1.hea j (headOf m) } : Gr) = G4 at *
            clear hm
            go_wp2_with (first | (go_at_call 71; refine (ho _ _ (by decide) (by decide) (by omega) _ hst.src).mono ?_; rintro e w1 ⟨z, rfl, hs, hg⟩; replace hst := hst.ask hs hg; clear hs hg; have cF := hst.b1.gat.getF; have fF := hst.b1.free 194) | (refine wpList_store_abs (v := .int .u64 _) rfl rfl rfl rfl szU64 rfl rfl hst.b1 (by rw [Gr.size]; omega) ?_; intro w2 hB hG))
            · rw [orB_eq, Gr.setF] at hB
              replace hst := hst.put hB hG
              replace hdr := hdr.setF j hlt HC.out
              clear hB hG cF fF
              go_roundw
              case rel => exact ⟨j + 1, _, by omega, by go_num, hdr, hst.mono (by omega)⟩
              case measure => simp [intOf]; omega
            · go_roundw
              case rel => exact ⟨j + 1, _, by omega, by go_num, hdr, hst.mono (by omega)⟩
              case measure => simp [intOf]; omega
        --END
    · obtain rfl : j = 64 := by omega
      have cF := hst.b1.gat.getF
      have fF := hst.b1.free 194
      cases hz : (G.fix == 0)
      · have hdn := hdr.done bX bY hz
        clear hdr
        go_wp2_with (first | (refine wpList_load_blk rfl rfl rfl row66 hst.b1 G.size ?_) | (refine wpList_store_blk rfl rfl rfl rfl row66 hst.b0 (Gr.size _) (Gr.size _) (Gr.one _) ?_))
        obtain ⟨f1, f2⟩ := hst.fin G.cells
        exact bodyPost_row rfl rfl row66 (hst.b0.setRow _) (Gr.size _) rfl ⟨G, hdn, rfl, f1.mono (by omega), f2⟩
      · have hdn := (hdr.one bX.1 bY.1 hz).done bX bY rfl
        clear hdr
        go_wp2_with (first | (refine wpList_store_abs (v := .int .u64 _) rfl rfl rfl rfl szU64 rfl rfl hst.b1 (by rw [Gr.size]; omega) ?_; intro w2 hB hG; rw [Gr.setF] at hB; replace hst := hst.put hB hG; clear hB hG) | (refine wpList_load_blk rfl rfl rfl row66 hst.b1 (Gr.size _) ?_) | (refine wpList_store_blk rfl rfl rfl rfl row66 hst.b0 (Gr.size _) (Gr.size _) (Gr.one _) ?_))
        obtain ⟨f1, f2⟩ := hst.fin ({ G with fix := 1 } : Gr).cells
        exact bodyPost_row rfl rfl row66 (hst.b0.setRow _) (Gr.size _) rfl ⟨_, hdn, rfl, f1.mono (by omega), f2⟩
end Go.Proofs.YtmmfnklnmdhkiaaGreat
/- A ground drawn from bytes (A2Ground), a cell's question (A2Is), and whether bytes are too many (a2Long). -/
namespace Go.Proofs.YtmmfnklnmdhkiaaGreat
open Go.ChangeShapes Go.WideShapes Go.ChangeAt Go.RowKit
set_option linter.unusedVariables false
set_option linter.unusedSimpArgs false
attribute [local irreducible] Calls

set_option maxRecDepth 100000 in
set_option maxHeartbeats 400000 in
theorem l00From_any (v : Value) (n : Nat) (w : World) (hv : Bytes w w.heap.size v n) :
    Calls Tryz.prog 31 #[v] w fun e w' => e = .returned (.pointer (some ⟨w.heap.size, 0, none⟩)) ∧ w' = w.alloc (.cells #[v, .int .i64 0, .int .u64 0] 101) := by
  obtain ⟨a, c, rfl, hn, hc⟩ := hv
  clear hc
  go_enter Tryz.func31, Tryz.ntmps31
  go_wp2_with fail
  go_ret
  exact ⟨rfl, rfl⟩
theorem src_new {w : World} {v : Value} {n : Nat} (hv : Bytes w w.heap.size v n) : Src (w.alloc (.cells #[v, .int .i64 0, .int .u64 0] 101)) w.heap.size 0 :=
  ⟨v, n, 0, 0, Blk.new _ _ _, Nat.le_refl _, by omega, by omega, hv.move fun r hr => heap_alloc_old w _ hr⟩
def GotG (w : World) (e : Ending) (w' : World) : Prop := ∃ G : Gr, IsDrawn G ∧ e = .returned (.agg G.cells) ∧ Below w.heap.size w w'
end Go.Proofs.YtmmfnklnmdhkiaaGreat
