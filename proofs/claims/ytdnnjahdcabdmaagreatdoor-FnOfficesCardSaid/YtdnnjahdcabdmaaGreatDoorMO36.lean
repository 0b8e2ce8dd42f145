import Derived.Test.YtdnnjahdcabdmaaGreatDoorMO35
import Derived.Test.YtdnnjahdcabdmaaGreatDoorMO34
/- An office built of a ground alone. -/
namespace Go.Proofs.YtdnnjahdcabdmaaGreatDoor
set_option linter.unusedVariables false
set_option linter.unusedSimpArgs false
theorem fold_get : ∀ (L : List Value) (k : Nat) (D : Array Value) (i : Nat), k + L.length ≤ D.size → ((L.zipIdx k).foldl (fun cs x => cs.setIfInBounds x.2 x.1) D)[i]? = if k ≤ i ∧ i < k + L.length then L[i - k]? else D[i]?
  | [], k, D, i, h => by
    rw [if_neg (by simp)]; rfl
  | x :: L, k, D, i, h => by
    rw [List.length_cons] at h
    rw [List.zipIdx_cons, List.foldl_cons, fold_get L (k + 1) _ i (by rw [Array.size_setIfInBounds]; omega), List.length_cons, Array.getElem?_setIfInBounds]
    by_cases hk : k = i
    · subst hk
      rw [if_neg (by omega), if_pos rfl, if_pos (by omega), if_pos (by omega), Nat.sub_self]; rfl
    · rw [if_neg hk]
      by_cases h1 : k + 1 ≤ i ∧ i < k + 1 + L.length
      · rw [if_pos h1, if_pos (by omega), show i - k = (i - (k + 1)) + 1 by omega, List.getElem?_cons_succ]
      · rw [if_neg h1, if_neg (by omega)]
theorem zeroCells_of : Tryz.zeroCells33 = ofc zeroGr (.slice none 0 0) := by unfold zeroGr ofc Gr.cells; kernel_rfl
theorem builtOfc (G : Gr) : Array.foldl (fun (cs : Array Value) (x : Value × Nat) => cs.setIfInBounds x.2 x.1) Tryz.zeroCells33 G.cells.zipIdx 0 G.cells.size = ofc G (.slice none 0 0) := by
  have hsz : G.cells.zipIdx.size = G.cells.size := by simp
  rw [← hsz, ← Array.foldl_toList, Array.toList_zipIdx, zeroCells_of]
  apply Array.ext_getElem?
  intro i
  rw [fold_get _ _ _ _ (by rw [ofc_size, Array.length_toList, Gr.size]; omega), Array.length_toList, Gr.size]
  by_cases h : i < 195
  · rw [if_pos (by omega), Nat.sub_zero, Array.getElem?_toList, G.get i h, ofc_get G _ i h]
  · rw [if_neg (by omega)]
    by_cases h2 : i = 195
    · subst h2; rw [ofc_last, ofc_last]
    · rw [Array.getElem?_eq_none (by rw [ofc_size]; omega), Array.getElem?_eq_none (by rw [ofc_size]; omega)]
end Go.Proofs.YtdnnjahdcabdmaaGreatDoor
/- An append onto nil. A plain law; no statement is proved here. -/
namespace Go.Proofs.YtdnnjahdcabdmaaGreatDoor
open Go.ChangeShapes Go.WideShapes Go.ChangeAt Go.RowKit
set_option linter.unusedVariables false
theorem run_app_nil {P : Program} {w : World} {t ty e : TypeId} {s bytes : Nat} (hE : ElemTy P t e s bytes) (hs : 0 < s)
    {ad : Addr} {m c : Nat} {news : List Value} (hm : 0 < m) (hl : news.length = m * s) (hnews : ∀ j u, news[j]? = some u → w.cell? (ad.add j) = some u) (h1 : ∀ u ∈ news, u.oneCell' = true) (h63 : m ≤ maxLen) (hbytes : m * bytes ≤ 140737488355328) :
    ∃ g' cap' w', (Builtin.append_ #[t, t] ty #[.slice none 0 0, .slice (some ad) m c]).run P w = .ok (.slice (some ⟨g', 0, none⟩) m cap') w' ∧ Own w' g' e s (.slice (some ⟨g', 0, none⟩) m cap') m news ∧ Below w.heap.size w w' ∧ w.heap.size ≤ g' := by
  obtain ⟨ht, i, z, hi, hz, hsize, hby, hzs⟩ := hE
  have hrow : w.ownsRow w.heap.size e s (.slice none 0 0) 0 [] := ⟨by simp, .inl ⟨rfl, rfl⟩⟩
  obtain ⟨v', w', hr, h2, h3, h4⟩ := run_append_own (P := P) w w.heap.size t ty e i z s bytes ht hi hz hsize hby hzs hs (Value.slice none 0 0) 0 [] hrow ad m c news hl hnews h1 (by omega) (by rw [Nat.zero_add]; exact hbytes) (Nat.le_refl _)
  rw [Nat.zero_add, List.nil_append] at h2
  obtain ⟨hx, h5⟩ := h2
  rcases h5 with ⟨rfl, h6⟩ | ⟨g, cap, cur, rfl, hg, hb, q1, q2, q3, q4⟩
  · exfalso; omega
  · exact ⟨g, cap, w', hr, ⟨hx, cap, cur, rfl, hb, q1, q2, q3, q4⟩, ⟨h3.os, h3.tape, h3.output, h3.size, fun k hk => h3.block k hk (fun e => by cases e)⟩, hg⟩
end Go.Proofs.YtdnnjahdcabdmaaGreatDoor
/- An office drawn (l07Drawn). -/
namespace Go.Proofs.YtdnnjahdcabdmaaGreatDoor
open Go.ChangeShapes Go.WideShapes Go.ChangeAt Go.RowKit
set_option linter.unusedVariables false
set_option linter.unusedSimpArgs false
attribute [local irreducible] Calls
/-- The slice v holds the watches P, in a block from B on; nil where there are none. -/
def WLB (w : World) (B : Nat) (v : Value) (n : Nat) (P : Nat → Wt) : Prop := (n = 0 ∧ v = .slice none 0 0) ∨ ∃ g c, v = .slice (some ⟨g, 0, none⟩) n c ∧ Own w g 55 2 (.slice (some ⟨g, 0, none⟩) n c) n (wls n P) ∧ B ≤ g
theorem WLB.grown {w w' : World} {B : Nat} {v : Value} {n : Nat} {P : Nat → Wt} (h : WLB w B v n P) {b : Nat} (hg : w.grownBy w' (some b)) (hb : b < B) : WLB w' B v n P := by
  rcases h with h | ⟨g, c, h1, h2, h3⟩
  · exact .inl h
  · exact .inr ⟨g, c, h1, h2.grown hg (fun e => by injection e; omega), h3⟩
theorem WLB.grownR {w w' : World} {B : Nat} {v : Value} {n : Nat} {P : Nat → Wt} (h : WLB w B v n P) {row : Option Nat} (hg : w.grownBy w' row) (hr : ∀ g, v.ownBlock = some g → row ≠ some g) : WLB w' B v n P := by
  rcases h with h | ⟨g, c, rfl, h2, h3⟩
  · exact .inl h
  · exact .inr ⟨g, c, rfl, h2.grown hg (hr g rfl), h3⟩
theorem WLB.alloc {w : World} {B : Nat} {v : Value} {n : Nat} {P : Nat → Wt} (h : WLB w B v n P) (o : Obj) : WLB (w.alloc o) B v n P := by
  rcases h with h | ⟨g, c, h1, h2, h3⟩
  · exact .inl h
  · exact .inr ⟨g, c, h1, h2.alloc _, h3⟩
theorem WLB.wsl {w : World} {B : Nat} {v : Value} {n : Nat} {P : Nat → Wt} (h : WLB w B v n P) : WSl w v n P := by
  rcases h with ⟨rfl, rfl⟩ | ⟨g, c, rfl, h2, h3⟩
  · exact ⟨none, 0, rfl, Nat.le_refl _, Nat.zero_le _, .inl rfl⟩
  · exact h2.wsl
theorem WLB.below {w w' : World} {B B' : Nat} {v : Value} {n : Nat} {P : Nat → Wt} (h : WLB w B v n P) (hb : Below B' w w') (hB : B' = w.heap.size) : WLB w' B v n P := by
  rcases h with h | ⟨g, c, h1, h2, h3⟩
  · exact .inl h
  · exact .inr ⟨g, c, h1, h2.below hb (by have := h2.lt; omega), h3⟩
theorem WLB.own_ge {w : World} {B : Nat} {v : Value} {n : Nat} {P : Nat → Wt} (h : WLB w B v n P) (q : Nat) (e : v.ownBlock = some q) : B ≤ q ∧ q < w.heap.size := by
  rcases h with ⟨rfl, rfl⟩ | ⟨g, c, rfl, h2, h3⟩
  · cases e
  · have e' : some g = some q := e
    injection e' with e'; subst e'; exact ⟨h3, h2.lt⟩
/-- One watch onto such a list. -/
theorem wpList_pushW {P : Program} {ops : Array Oper} {rest : List Oper} {o : Oper} {a : Act} {Q : Exit → Act → World → Prop} {w : World} {B b c : Nat} {v : Value} {n : Nat} {F : Nat → Wt} {p : Wt} {sl x : Operand} (hE : ElemTy P 31 55 2 8) (hgd : o.guard = none) (ho : o.op = .call { callee := .builtin .append, args := #[sl, x], argTypes := #[31, 31] }) (hv : a.eval sl = v) (hx : a.eval x = .slice (some ⟨b, 0, none⟩) 1 c) (hL : WLB w B v n F) (hl6 : n ≤ 64) (hb : Blk w b p.cells 55) (hB : B ≤ w.heap.size)
    (h : ∀ g c w', Own w' g 55 2 (.slice (some ⟨g, 0, none⟩) (n + 1) c) (n + 1) (wls n F ++ p.cells.toList) → B ≤ g → w.grownBy w' v.ownBlock → wpList P ops Q rest (a.put o.dst (.slice (some ⟨g, 0, none⟩) (n + 1) c)) w') : wpList P ops Q (o :: rest) a w := by
  refine wpList_plain hgd fun K hK => ?_
  have hl2 : p.cells.toList.length = 1 * 2 := by rw [Array.length_toList, Wt.cells_size]
  rcases hL with ⟨rfl, rfl⟩ | ⟨g, cp, rfl, hown, hg⟩
  · obtain ⟨g', c', w', hr, h2, h3, h4⟩ := run_app_nil (P := P) (w := w) (ty := o.type) (ad := ⟨b, 0, none⟩) (c := c) (m := 1) (news := p.cells.toList) hE (by decide) Nat.one_pos hl2 hb.at p.one (by decide) (by decide)
    unfold Oper.wp execOp
    simp only [ho, resolve, invoke, builtin, Sem.run_bind, Sem.run_pure, Result.andThen_ok, List.map_toArray, List.map_cons, List.map_nil, hv, hx, hr]
    exact hK _ _ (h g' c' w' (by rw [wls_zero, List.nil_append]; exact h2) (by omega) ⟨h3.os, h3.tape, h3.output, h3.size, fun b hb _ => h3.block b hb⟩)
  · obtain ⟨g', c', w', hr, h2, h3, h4⟩ := run_app2 (P := P) (ty := o.type) hE hown (ad := ⟨b, 0, none⟩) (c := c) (m := 1) (news := p.cells.toList) hl2 hb.at p.one (by unfold maxLen; omega) (by omega)
    unfold Oper.wp execOp
    simp only [ho, resolve, invoke, builtin, Sem.run_bind, Sem.run_pure, Result.andThen_ok, List.map_toArray, List.map_cons, List.map_nil, hv, hx, hr]
    exact hK _ _ (h g' c' w' h2 (by rcases h4 with ⟨e, _⟩ | ⟨e, _⟩ <;> omega) h3)
theorem szWS : (Tryz.prog.info? 31).map (·.size) = some 1 := by kernel_rfl
/-- What l07Drawn gives. -/
def GaveO (w : World) (b k : Nat) (e : Ending) (w' : World) : Prop := ∃ (G : Gr) (u : Value) (n : Nat) (P : Nat → Wt), IsDrawn G ∧ n ≤ 3 ∧ (∀ i, i < n → goodW G (P i)) ∧ e = .returned (.agg (ofc G u)) ∧ WLB w' w.heap.size u n P ∧ Src w' b k ∧ w.grownBy w' (some b)
set_option maxRecDepth 100000 in
set_option maxHeartbeats 1000000 in
theorem l07Drawn_any (b k : Nat) (hk : k < 5000) (w : World) (hs : Src w b k) :
    Calls Tryz.prog 42 #[.pointer (some ⟨b, 0, none⟩)] w (GaveO w b (k + 2100)) := by
  have hp := fun (n : Int) (j : Nat) (h1 : 1 ≤ n) (h2 : n ≤ 1099511627776) (hj : j < 900000) (w' : World) (hs : Src w' b j) => pick_any b j n (by omega) h1 h2 w' hs
  have lb := hs.lt
  go_enter Tryz.func42, Tryz.ntmps42
  go_upto_region 1 with (refine wpList_alloc_as rfl rfl zero76 ?_)
  have hb2 := Blk.new w (ofc ⟨0, 0, fun _ => 0, fun _ => 0, fun _ => 0, 0⟩ (.slice none 0 0)) 33
  have hg1 : w.grownBy (w.alloc (.cells (ofc ⟨0, 0, fun _ => 0, fun _ => 0, fun _ => 0, 0⟩ (.slice none 0 0)) 33)) (some b) := World.grownBy_alloc _ _ _
  have hs1 : Src (w.alloc (.cells (ofc ⟨0, 0, fun _ => 0, fun _ => 0, fun _ => 0, 0⟩ (.slice none 0 0)) 33)) b k := hs.move fun r hr => heap_alloc_old w _ (by omega)
  generalize w.alloc (.cells (ofc ⟨0, 0, fun _ => 0, fun _ => 0, fun _ => 0, 0⟩ (.slice none 0 0)) 33) = W at *
  have size76 : (Tryz.prog.info? 33).map (·.size) = some 196 := by kernel_rfl
  have hdr := l01Drawn_any b k (by omega) W hs1
  go_upto_region 2 with (first | (go_at_call 69; refine hdr.mono ?_; rintro e w1 ⟨G, hGd, rfl, hs2, hg2⟩; have hGs : G.cells.size = 195 := G.size; have hBO := builtOfc G; rw [hGs] at hBO; clear hdr) | (refine wpList_alloc_as rfl rfl zero76 ?_) | (refine wpList_store_last (c' := ofc G (.slice none 0 0)) rfl rfl rfl rfl rfl (by rw [ofc_size]; exact size76) (by rw [ofc_size, ofc_size]) (List.all_eq_true.2 (ofc_one _ _ rfl)) ?_))
  have e1 := hg1.size
  have e2 := hg2.size
  have lW := hb2.lt
  have hb3 := Blk.new w1 (ofc G (.slice none 0 0)) 33
  have hs3 : Src (w1.alloc (.cells (ofc G (.slice none 0 0)) 33)) b (k + 2000) := hs2.move fun r hr => heap_alloc_old w1 _ (by omega)
  have hb2 := (hb2.grown hg2 (fun e => by injection e; omega)).alloc (.cells (ofc G (.slice none 0 0)) 33)
  have hg3 : w.grownBy (w1.alloc (.cells (ofc G (.slice none 0 0)) 33)) (some b) := (hg1.trans hg2).trans (World.grownBy_alloc _ _ _)
  have lq : w.heap.size < w1.heap.size := by omega
  clear hs1 hs2 hg1 hg2 size76
  generalize w1.alloc (.cells (ofc G (.slice none 0 0)) 33) = W2 at *
  generalize w1.heap.size = q at *
  obtain ⟨⟨gw1, _⟩, ⟨gh1, _⟩, _⟩ := validG_parts hGd.valid
  obtain ⟨gw2, gh2⟩ := hGd.small
  go_upto_region 3 with (go_at_call 44; refine (hp 4 _ (by decide) (by decide) (by omega) _ hs3).mono ?_; rintro e w3 ⟨x, ⟨x0, x1⟩, rfl, hs4, hg4⟩)
  obtain ⟨X, hX⟩ : ∃ X : Nat, (X : Int) = x := ⟨x.toNat, by omega⟩
  subst hX
  have hX3 : X ≤ 3 := by omega
  have hb2 := hb2.grown hg4 (fun e => by injection e; omega)
  have hb3 := hb3.grown hg4 (fun e => by injection e; omega)
  have hg4 := hg3.trans hg4
  clear hs3 hg3 x0 x1 e1 e2 hBO hGs
  go_loopw [4] (fun i wr => ∃ (j n : Nat) (u : Value) (P : Nat → Wt), j + n ≤ 3 ∧ i = .int .i64 j ∧ Src wr b (k + 2002 + 6 * n) ∧ Blk wr q (ofc G u) 33 ∧ Blk wr w.heap.size (ofc ⟨0, 0, fun _ => 0, fun _ => 0, fun _ => 0, 0⟩ (.slice none 0 0)) 33 ∧ WLB wr (q + 1) u n P ∧ (∀ i, i < n → goodW G (P i)) ∧ w.grownBy wr (some b)) (fun i _ => (intOf i).toNat)
  case atStart => exact ⟨X, 0, _, fun _ => ⟨0, 0⟩, by omega, rfl, hs4, hb3, hb2, .inl ⟨rfl, rfl⟩, fun i hi => by omega, hg4⟩
  case round =>
    clear hs4 hb2 hb3 hg4 hX3
    obtain ⟨j, n, u, P, hjn, rfl, hsr, hO, hZ, hL, hP, hgr⟩ := hrel
    have HP := Lib.hid hP
    clear hP
    have lsr := hsr.lt
    have lO := hO.lt
    by_cases hlt : 0 < j
    · have bj : (0 : Int) < j := by omega
      go_upto_region 5 with fail
      have cW : ∀ w', wr.grownBy w' (some b) → w'.cell? ⟨q, 0, none⟩ = some (.int .i8 G.wide) := fun w' h => ((hO.grown h (fun e => by injection e; omega)).cell 0).trans ((ofc_get G u 0 (by omega)).trans rfl)
      have cH : ∀ w', wr.grownBy w' (some b) → w'.cell? ⟨q, 1, none⟩ = some (.int .i8 G.high) := fun w' h => ((hO.grown h (fun e => by injection e; omega)).cell 1).trans ((ofc_get G u 1 (by omega)).trans rfl)
      have hLlt : ∀ g, u.ownBlock = some g → g < wr.heap.size := fun g e => (hL.own_ge g e).2
      obtain ⟨wo, rfl⟩ : ∃ wo : World, wo = wr := ⟨_, rfl⟩
      refine wp_phaseK 17 [5, 11] (fun n1 w' => Src w' b (k + 2002 + 6 * n + 2 * n1) ∧ wo.grownBy w' (some b)) (fun w w' => w.grownBy w' (some b)) (fun wx d v => match d, v with
        | 15, v => v = .pointer (some ⟨b, 0, none⟩)
        | 16, v => v = .pointer (some ⟨q, 0, none⟩)
        | 17, v => v = .pointer (some ⟨q, 0, none⟩)
        | 18, v => v = .int .i8 G.wide
        | 19, v => v = .int .i64 G.wide
        | 20, v => ∃ y : Int, v = .int .i64 y ∧ 0 ≤ y ∧ y < G.wide
        | 21, v => v = .pointer (some ⟨b, 0, none⟩)
        | 22, v => v = .pointer (some ⟨q, 0, none⟩)
        | 23, v => v = .pointer (some ⟨q, 1, none⟩)
        | 24, v => v = .int .i8 G.high
        | 25, v => v = .int .i64 G.high
        | 26, v => ∃ y : Int, v = .int .i64 y ∧ 0 ≤ y ∧ y < G.high
        | 27, v => ∃ y : Int, v = .int .i64 (8 * y) ∧ 0 ≤ y ∧ y < G.high
        | 28, v => ∃ y z : Int, v = .int .i64 (y + 8 * z) ∧ (0 ≤ y ∧ y < G.wide) ∧ 0 ≤ z ∧ z < G.high
        | 29, v => ∃ y z : Int, v = .int .i8 (y + 8 * z) ∧ (0 ≤ y ∧ y < G.wide) ∧ 0 ≤ z ∧ z < G.high
        | 30, v => ∃ y z : Int, v = .agg #[.int .i8 (y + 8 * z), .float .f32 0] ∧ (0 ≤ y ∧ y < G.wide) ∧ 0 ≤ z ∧ z < G.high
        | 5, v => ∃ p : Nat, v = .pointer (some ⟨p, 0, none⟩) ∧ wo.heap.size ≤ p ∧ Blk wx p #[.int .i8 0, .float .f32 0] 55
        | _, _ => True) (fun w1 w2 d v h hF => by split at hF <;> first | exact hF | (obtain ⟨p, h1, h2, h3⟩ := hF; exact ⟨p, h1, h2, h3.grown h (fun e => by injection e; omega)⟩)) (by kernel_rfl) (by kernel_rfl) ⟨by decide, by decide⟩ (by kernel_rfl) ⟨hsr.move fun _ _ => rfl, grown_drewN _ 1 _⟩ ?_ ?_
      · skip
        refine ⟨step_at rfl fun n1 hn => step_go rfl fun ev w1 hC kn => ?_, ?_⟩
        · have e1 : ev (.tmp 0) = .pointer (some ⟨b, 0, none⟩) := kn.out 0 rfl rfl rfl
          exact good_of (v := .pointer (some ⟨b, 0, none⟩)) rfl (by simp [execOp, e1, go_sem]) hC (World.grownBy.refl _ _) rfl
        refine ⟨step_at rfl fun n1 hn => step_go rfl fun ev w1 hC kn => ?_, ?_⟩
        · have e1 : ev (.tmp 3) = .pointer (some ⟨q, 0, none⟩) := kn.out 3 rfl rfl rfl
          exact good_of (v := .pointer (some ⟨q, 0, none⟩)) rfl (by simp only [execOp, e1]; rfl) hC (World.grownBy.refl _ _) rfl
        refine ⟨step_at rfl fun n1 hn => step_go rfl fun ev w1 hC kn => ?_, ?_⟩
        · have e1 : ev (.tmp 16) = .pointer (some ⟨q, 0, none⟩) := kn.inn 16 rfl rfl
          exact good_of (v := .pointer (some ⟨q, 0, none⟩)) rfl (by simp only [execOp, e1]; rfl) hC (World.grownBy.refl _ _) rfl
        refine ⟨step_at rfl fun n1 hn => step_go rfl fun ev w1 hC kn => ?_, ?_⟩
        · have e1 : ev (.tmp 17) = .pointer (some ⟨q, 0, none⟩) := kn.inn 17 rfl rfl
          have c1 := cW w1 hC.2
          exact good_of (v := .int .i8 G.wide) rfl (by simp [execOp, e1, go_sem, c1]) hC (World.grownBy.refl _ _) rfl
        refine ⟨step_at rfl fun n1 hn => step_go rfl fun ev w1 hC kn => ?_, ?_⟩
        · have e1 : ev (.tmp 18) = .int .i8 G.wide := kn.inn 18 rfl rfl
          have hw8 : IntKind.i64.wrap G.wide = G.wide := by rw [IntKind.wrap_i64]; omega
          exact good_of (v := .int .i64 G.wide) rfl (by simp [execOp, e1, go_sem, hw8]) hC (World.grownBy.refl _ _) rfl
        refine ⟨step_call rfl fun n1 hn => step_to rfl fun ev w1 hC kn => ?_, ?_⟩
        · have e1 : ev (.tmp 15) = .pointer (some ⟨b, 0, none⟩) := kn.inn 15 rfl rfl
          have e2 : ev (.tmp 19) = .int .i64 G.wide := kn.inn 19 rfl rfl
          have hn2 : n1 < 2 := hn
          exact good_call (f := 44) (args := #[.pointer (some ⟨b, 0, none⟩), .int .i64 G.wide]) rfl (by simp [execOp, e1, e2, kn.fn, go_sem]) ((hp G.wide (k + 2002 + 6 * n + 2 * n1) (by omega) (by omega) (by omega) w1 hC.1).mono fun e w2 ⟨y, ⟨y0, y1⟩, he, h1, h2⟩ => ⟨_, he, ⟨h1, hC.2.trans h2⟩, h2, ⟨y, rfl, y0, y1⟩⟩)
        refine ⟨step_at rfl fun n1 hn => step_go rfl fun ev w1 hC kn => ?_, ?_⟩
        · have e1 : ev (.tmp 0) = .pointer (some ⟨b, 0, none⟩) := kn.out 0 rfl rfl rfl
          exact good_of (v := .pointer (some ⟨b, 0, none⟩)) rfl (by simp [execOp, e1, go_sem]) hC (World.grownBy.refl _ _) rfl
        refine ⟨step_at rfl fun n1 hn => step_go rfl fun ev w1 hC kn => ?_, ?_⟩
        · have e1 : ev (.tmp 3) = .pointer (some ⟨q, 0, none⟩) := kn.out 3 rfl rfl rfl
          exact good_of (v := .pointer (some ⟨q, 0, none⟩)) rfl (by simp only [execOp, e1]; rfl) hC (World.grownBy.refl _ _) rfl
        refine ⟨step_at rfl fun n1 hn => step_go rfl fun ev w1 hC kn => ?_, ?_⟩
        · have e1 : ev (.tmp 22) = .pointer (some ⟨q, 0, none⟩) := kn.inn 22 rfl rfl
          exact good_of (v := .pointer (some ⟨q, 1, none⟩)) rfl (by simp only [execOp, e1]; rfl) hC (World.grownBy.refl _ _) rfl
        refine ⟨step_at rfl fun n1 hn => step_go rfl fun ev w1 hC kn => ?_, ?_⟩
        · have e1 : ev (.tmp 23) = .pointer (some ⟨q, 1, none⟩) := kn.inn 23 rfl rfl
          have c1 := cH w1 hC.2
          exact good_of (v := .int .i8 G.high) rfl (by simp [execOp, e1, go_sem, c1]) hC (World.grownBy.refl _ _) rfl
        refine ⟨step_at rfl fun n1 hn => step_go rfl fun ev w1 hC kn => ?_, ?_⟩
        · have e1 : ev (.tmp 24) = .int .i8 G.high := kn.inn 24 rfl rfl
          have hw8 : IntKind.i64.wrap G.high = G.high := by rw [IntKind.wrap_i64]; omega
          exact good_of (v := .int .i64 G.high) rfl (by simp [execOp, e1, go_sem, hw8]) hC (World.grownBy.refl _ _) rfl
        refine ⟨step_call rfl fun n1 hn => step_to rfl fun ev w1 hC kn => ?_, ?_⟩
        · have e1 : ev (.tmp 21) = .pointer (some ⟨b, 0, none⟩) := kn.inn 21 rfl rfl
          have e2 : ev (.tmp 25) = .int .i64 G.high := kn.inn 25 rfl rfl
          have hn2 : n1 < 2 := hn
          exact good_call (f := 44) (args := #[.pointer (some ⟨b, 0, none⟩), .int .i64 G.high]) rfl (by simp [execOp, e1, e2, kn.fn, go_sem]) ((hp G.high (k + 2002 + 6 * n + 2 * n1) (by omega) (by omega) (by omega) w1 hC.1).mono fun e w2 ⟨y, ⟨y0, y1⟩, he, h1, h2⟩ => ⟨_, he, ⟨h1, hC.2.trans h2⟩, h2, ⟨y, rfl, y0, y1⟩⟩)
        refine ⟨step_at rfl fun n1 hn => step_go rfl fun ev w1 hC kn => ?_, ?_⟩
        · obtain ⟨y, e1, y0, y1⟩ : ∃ y : Int, ev (.tmp 26) = .int .i64 y ∧ 0 ≤ y ∧ y < G.high := kn.inn 26 rfl rfl
          have hwz : IntKind.i64.wrap (8 * y) = 8 * y := by rw [IntKind.wrap_i64]; omega
          exact good_of (v := .int .i64 (8 * y)) rfl (by simp [execOp, e1, kn.con, go_sem, hwz]) hC (World.grownBy.refl _ _) ⟨y, rfl, y0, y1⟩
        refine ⟨step_at rfl fun n1 hn => step_go rfl fun ev w1 hC kn => ?_, ?_⟩
        · obtain ⟨y, e1, y0, y1⟩ : ∃ y : Int, ev (.tmp 20) = .int .i64 y ∧ 0 ≤ y ∧ y < G.wide := kn.inn 20 rfl rfl
          obtain ⟨z, e2, z0, z1⟩ : ∃ z : Int, ev (.tmp 27) = .int .i64 (8 * z) ∧ 0 ≤ z ∧ z < G.high := kn.inn 27 rfl rfl
          have hwz : IntKind.i64.wrap (y + 8 * z) = y + 8 * z := by rw [IntKind.wrap_i64]; omega
          exact good_of (v := .int .i64 (y + 8 * z)) rfl (by simp [execOp, e1, e2, go_sem, hwz]) hC (World.grownBy.refl _ _) ⟨y, z, rfl, ⟨y0, y1⟩, z0, z1⟩
        refine ⟨step_at rfl fun n1 hn => step_go rfl fun ev w1 hC kn => ?_, ?_⟩
        · obtain ⟨y, z, e1, ⟨y0, y1⟩, z0, z1⟩ : ∃ y z : Int, ev (.tmp 28) = .int .i64 (y + 8 * z) ∧ (0 ≤ y ∧ y < G.wide) ∧ 0 ≤ z ∧ z < G.high := kn.inn 28 rfl rfl
          have hwz : IntKind.i8.wrap (y + 8 * z) = y + 8 * z := by unfold IntKind.wrap; simp [IntKind.bits, IntKind.signed]; omega
          exact good_of (v := .int .i8 (y + 8 * z)) rfl (by simp [execOp, e1, go_sem, hwz]) hC (World.grownBy.refl _ _) ⟨y, z, rfl, ⟨y0, y1⟩, z0, z1⟩
        refine ⟨step_at rfl fun n1 hn => step_go rfl fun ev w1 hC kn => ?_, ?_⟩
        · obtain ⟨y, z, e1, hy⟩ : ∃ y z : Int, ev (.tmp 29) = .int .i8 (y + 8 * z) ∧ (0 ≤ y ∧ y < G.wide) ∧ 0 ≤ z ∧ z < G.high := kn.inn 29 rfl rfl
          exact good_of (v := .agg #[.int .i8 (y + 8 * z), .float .f32 0]) rfl (by simp [execOp, e1, go_sem]) hC (World.grownBy.refl _ _) ⟨y, z, rfl, hy⟩
        refine ⟨step_at rfl fun n1 hn => step_go rfl fun ev w1 hC kn => ?_, ?_⟩
        · have l1 := hC.1.lt
          have e2 := hC.2.size
          exact good_of (v := .pointer (some ⟨w1.heap.size, 0, none⟩)) (w' := w1.alloc (.cells #[.int .i8 0, .float .f32 0] 55)) rfl (by simp [execOp, go_sem]) ⟨hC.1.move fun r hr => heap_alloc_old w1 _ (by omega), hC.2.trans (World.grownBy_alloc _ _ _)⟩ (World.grownBy_alloc _ _ _) ⟨w1.heap.size, rfl, e2, Blk.new _ _ _⟩
        exact trivial
      · rintro xv w1 hxv ⟨hs4, hg4⟩
        have y30 := hxv 30 (by decide)
        have y5 := hxv 5 (by decide)
        obtain ⟨y, z, y30, ⟨y0, y1⟩, z0, z1⟩ : ∃ y z : Int, xv 30 = .agg #[.int .i8 (y + 8 * z), .float .f32 0] ∧ (0 ≤ y ∧ y < G.wide) ∧ 0 ≤ z ∧ z < G.high := y30
        obtain ⟨p, y5, hp1, hB⟩ : ∃ p : Nat, xv 5 = .pointer (some ⟨p, 0, none⟩) ∧ wo.heap.size ≤ p ∧ Blk w1 p #[.int .i8 0, .float .f32 0] 55 := y5
        simp only [fill, dstsOf, List.filterMap_cons, List.filterMap_nil, List.foldl_cons, List.foldl_nil, List.set_cons_succ, List.set_cons_zero, List.take_succ_cons, List.take_zero, List.drop_succ_cons, List.drop_zero, y30, y5]
        clear hxv
        go_upto_region 6 with (refine wpList_store_blk (C' := #[.int .i8 (y + 8 * z), .float .f32 0]) rfl rfl rfl rfl row121 hB rfl rfl (by intro q hq; simp at hq; rcases hq with rfl | rfl <;> rfl) ?_)
        have hG5 : w1.grownBy (w1.setRow p #[.int .i8 (y + 8 * z), .float .f32 0]) (some p) := ⟨rfl, rfl, rfl, by simp, fun j hj hne => setRow_other w1 p j _ (fun e => hne (by rw [e]))⟩
        have hg5 : wo.grownBy (w1.setRow p #[.int .i8 (y + 8 * z), .float .f32 0]) (some b) := hg4.andThen hG5 (fun j e => by injection e; exact .inl (by omega))
        have hs5 : Src (w1.setRow p #[.int .i8 (y + 8 * z), .float .f32 0]) b (k + 2002 + 6 * n + 2 * 2) := hs4.move fun r hr => setRow_other w1 p r _ (by omega)
        have hB := hB.setRow #[.int .i8 (y + 8 * z), .float .f32 0]
        clear hs4 hg4 hG5 y5 y30 cW cH
        change Code.wp _ _ _ _ (w1.setRow p #[.int .i8 (y + 8 * z), .float .f32 0])
        generalize w1.setRow p #[.int .i8 (y + 8 * z), .float .f32 0] = W5 at *
        have hO := hO.grown hg5 (fun e => by injection e; omega)
        have hZ := hZ.grown hg5 (fun e => by injection e; omega)
        have hL := hL.grown hg5 (by omega)
        have e0 := hgr.size
        have hgr := hgr.trans hg5
        clear hg5
        go_upto_region 7 with (first | (go_at_call 44; refine (hp 65 _ (by decide) (by decide) (by omega) _ hs5).mono ?_; rintro e w6 ⟨x, ⟨x0, x1⟩, rfl, hs6, hg6⟩; obtain ⟨m, hm⟩ : ∃ m : Nat, (m : Int) = x := ⟨x.toNat, by omega⟩; subst hm; have hm65 : m < 65 := (by omega); have hquo := (fun (w : World) => run_float_arith (P := Tryz.prog) w .quo 25 .f32 _ _ _ (lim_is hm65)); have hB6 := hB.grown hg6 (fun e => by injection e; omega)) | (refine wpList_store_cell (v := .float .f32 (limOf m)) rfl rfl rfl rfl szF32 rfl rfl hB6 (by simp) ?_; intro w7 hB7 hG7))
        have hB7 : Blk w7 p #[.int .i8 (y + 8 * z), .float .f32 (limOf m)] 55 := hB7
        have lB := hB.lt
        have e6 := hg6.size
        have e7 := hG7.size
        have ls5 := hs5.lt
        have hs7 : Src w7 b (k + 2002 + 6 * n + 2 * 2 + 2) := hs6.move fun r hr => hG7.block r (by omega) (fun e => by injection e; omega)
        have hO := (hO.grown hg6 (fun e => by injection e; omega)).grown hG7 (fun e => by injection e; omega)
        have hZ := (hZ.grown hg6 (fun e => by injection e; omega)).grown hG7 (fun e => by injection e; omega)
        have hL6 := hL.grown hg6 (by omega)
        have hL := (hL.grown hg6 (by omega)).grownR hG7 (fun g e1 e2 => by have := hLlt g e1; injection e2; omega)
        have hgr := (hgr.trans hg6).andThen hG7 (fun j e => by injection e; exact .inl (by omega))
        clear hG7 hg6 hL6 hs6 hs5 hB hquo x0 x1 e6 hB6
        have lO := hO.lt
        have c195 : w7.cell? ⟨q, 195, none⟩ = some u := (hO.cell 195).trans (ofc_last _ _)
        have hrow : ∀ e, u.ownBlock ≠ some e ∨ q + 1 ≤ e := fun e => by
          by_cases h : u.ownBlock = some e
          · exact .inr (hL.own_ge e h).1
          · exact .inl h
        go_upto_region 4 with (first | (refine wpList_load_blk rfl rfl rfl row121 hB7 rfl ?_) | (at_builtin; refine wpList_pushW (v := u) (p := ⟨y + 8 * z, limOf m⟩) elWt rfl rfl rfl rfl (hL.alloc _) (by omega) ?hb (by simp; omega) ?_; (case hb => rw [Wt.cells_eq]; exact Blk.new _ _ _); intro g1 c1 w8 hO1 hg1 hgr1; have hO8 := (hO.alloc (.cells #[.int .i8 (y + 8 * z), .float .f32 (limOf m)] 55)).grown hgr1 (fun e => by rcases hrow q with h | h; exact h e; omega)) | (refine wpList_store_cell (v := .slice (some ⟨g1, 0, none⟩) _ _) rfl rfl rfl rfl szWS rfl rfl hO8 (by rw [ofc_size]; omega) ?_; intro w9 hO9 hgr9))
        rw [ofc_set] at hO9
        have hrb : ∀ x, x ≤ q → u.ownBlock ≠ some x := fun x hx e => by rcases hrow x with h | h; exact h e; omega
        have ls7 := hs7.lt
        have lZ := hZ.lt
        have e8 := hgr1.size
        have e9 := hgr9.size
        have e81 : w7.heap.size + 1 ≤ w8.heap.size := by simpa using e8
        have hs9 : Src w9 b (k + 2002 + 6 * (n + 1)) := ((hs7.move fun r hr => ((hgr9.block r (by omega) (fun e => by injection e; omega)).trans (hgr1.block r (by simp; omega) (Ne.symm (hrb r (by omega))))).trans (heap_alloc_old w7 _ (by omega)))).mono (by omega)
        have hZ9 := ((hZ.alloc _).grown hgr1 (hrb _ (by omega))).grown hgr9 (fun e => by injection e; omega)
        have hO1 := hO1.grown hgr9 (fun e => by injection e; omega)
        have hgr := ((hgr.trans (World.grownBy_alloc _ _ _)).andThen hgr1 (fun j e => by have := hrow j; rcases this with h | h; exact absurd e h; exact .inl (by omega))).andThen hgr9 (fun j e => by injection e; exact .inl (by omega))
        go_wp2_with fail
        go_roundw
        case rel =>
          refine ⟨j - 1, n + 1, _, fun i => if i = n then ⟨y + 8 * z, limOf m⟩ else P i, by omega, by rw [show ((j : Int) - 1) = ((j - 1 : Nat) : Int) by omega], hs9, hO9, hZ9, ?_, ?_, hgr⟩
          · refine .inr ⟨g1, c1, rfl, ?_, hg1⟩
            rw [wls_succ, if_pos rfl, wls_congr (P' := P) (fun i hi => if_neg (by omega))]
            exact hO1
          · intro i hi
            by_cases him : i = n
            · simp only [him, if_true]; exact goodW_of (by omega) (by omega) ⟨y0, y1⟩ ⟨z0, z1⟩ hm65
            · simp only [him, if_false]; exact HP.out i (by omega)
        case measure => simp [intOf]; omega
    · obtain rfl : j = 0 := by omega
      go_wp2_with (first | (refine wpList_load_blk rfl rfl rfl row76 hO (ofc_size _ _) ?_) | (refine wpList_store_blk (C' := ofc G u) rfl rfl rfl rfl row76 hZ (ofc_size _ _) (ofc_size _ _) (ofc_one _ _ ?hu) ?_; (case hu => rcases hL with ⟨_, rfl⟩ | ⟨g, c, rfl, _⟩ <;> rfl)))
      have hZ9 := hZ.setRow (ofc G u)
      refine bodyPost_row rfl rfl row76 hZ9 (ofc_size _ _) rfl ⟨G, u, n, P, hGd, by omega, HP.out, rfl, ?_, (hsr.mono (by omega)).move fun j hj => setRow_other wr w.heap.size j _ (by omega), hgr.andThen ⟨rfl, rfl, rfl, by simp, fun j hj hne => setRow_other wr w.heap.size j _ (fun e => hne (by rw [e]))⟩ (fun j e => by injection e; exact .inl (by omega))⟩
      rcases hL with h | ⟨g, c, h1, h2, h3⟩
      · exact .inl h
      · exact .inr ⟨g, c, h1, h2.move (setRow_other wr w.heap.size g _ (by omega)), by omega⟩
end Go.Proofs.YtdnnjahdcabdmaaGreatDoor
