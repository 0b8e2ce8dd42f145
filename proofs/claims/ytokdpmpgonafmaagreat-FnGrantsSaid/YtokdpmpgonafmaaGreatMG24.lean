import Derived.Test.YtokdpmpgonafmaaGreatMG23
/- The permits that are granted in order: appends that must grow, slices.Clip, the walks through the program's inOrder and the reference's l07Grant. -/
namespace Go.Proofs.YtokdpmpgonafmaaGreat
open Go.ChangeShapes Go.WideShapes Go.ChangeAt Go.RowKit
set_option linter.unusedVariables false
set_option linter.unusedSimpArgs false

/-- An append onto a slice without room. -/
theorem run_grow {P : Program} {w : World} {t ty e : TypeId} {s bytes : Nat} (hE : ElemTy P t e s bytes) {b : Addr} {n cap m c : Nat} {ad : Addr} {olds news : List Value} (hlo : olds.length = n * s) (holds : ∀ j u, olds[j]? = some u → w.cell? (b.add j) = some u)
    (hl : news.length = m * s) (hnews : ∀ j u, news[j]? = some u → w.cell? (ad.add j) = some u) (hg : cap < n + m) (h63 : n + m ≤ maxLen) (hbytes : (n + m) * bytes ≤ 140737488355328) :
    ∃ cap' w', (Builtin.append_ #[t, t] ty #[.slice (some b) n cap, .slice (some ad) m c]).run P w = .ok (.slice (some ⟨w.heap.size, 0, none⟩) (n + m) cap') w' ∧ Own w' w.heap.size e s (.slice (some ⟨w.heap.size, 0, none⟩) (n + m) cap') (n + m) (olds ++ news) ∧ Below w.heap.size w w' := by
  obtain ⟨ht, i, z, hi, hz, hsize, hby, hzs⟩ := hE
  have hsmall : n + m ≤ 9223372036854775807 := by simp only [maxLen] at h63; omega
  have hr := run_append_grow (P := P) w t ty e i z ht hi hz b n cap olds (by rw [hsize]; exact hlo) holds ad m c news (by rw [hsize]; exact hl) hnews hg (by omega) (by rw [hby]; exact growslice_fits (by omega) hbytes)
  have hge := grownCap_ge w (n + m) cap e
  have hle := grownCap_le_maxLen w (n + m) cap e h63
  refine ⟨_, _, hr, ⟨by rw [List.length_append, hlo, hl, Nat.add_mul], _, olds.toArray ++ news.toArray ++ Builtin.zeroCells z.cells (grownCap w (n + m) cap e - (n + m)), rfl, Blk.new w.drew _ _, hge, hle, ?_, ?_⟩, ?_⟩
  · simp only [Array.size_append, List.size_toArray, size_zeroCells, hzs, hlo, hl, ← Nat.add_mul]
    congr 1
    omega
  · rw [Array.toList_append, Array.toList_append]
    rw [List.take_append_of_le_length (by simp [hlo, hl, Nat.add_mul])]
    exact List.take_of_length_le (by simp [hlo, hl, Nat.add_mul])
  · exact (below_drewN (Below.refl w.heap.size w) 1).alloc (by simp) _

/-- Which permits are granted among the first k. -/
def grantTo (K : List Nat → Bool) : Nat → List Nat
  | 0 => []
  | k + 1 => if K (grantTo K k ++ [k]) then grantTo K k ++ [k] else grantTo K k
theorem grantTo_lt (K : List Nat → Bool) : ∀ k, (∀ i, i ∈ grantTo K k → i < k) ∧ (grantTo K k).length ≤ k
  | 0 => ⟨fun i hi => absurd hi (List.not_mem_nil), Nat.le_refl _⟩
  | k + 1 => by
    obtain ⟨h1, h2⟩ := grantTo_lt K k
    unfold grantTo
    split
    · refine ⟨fun i hi => ?_, by simp; omega⟩
      rcases List.mem_append.1 hi with h | h
      · have := h1 i h; omega
      · simp at h; omega
    · exact ⟨fun i hi => by have := h1 i hi; omega, by omega⟩
/-- The permits of a list. -/
def pickP (Q : Nat → Pm) (L : List Nat) : Nat → Pm := fun i => Q (L.getD i 0)
def grK (g : Gr) (n : Nat) (P : Nat → Wt) (Q : Nat → Pm) (L : List Nat) : Bool := keptB g n P L.length (pickP Q L)
theorem pickP_in {g : Gr} {m : Nat} {Q : Nat → Pm} (h : cellsIn g m Q) {L : List Nat} (hL : ∀ i, i ∈ L → i < m) : cellsIn g L.length (pickP Q L) := fun i hi => by
  unfold pickP
  rw [show L.getD i 0 = L[i] by simp [List.getD_eq_getElem?_getD, List.getElem?_eq_getElem hi]]
  exact h _ (hL _ (List.getElem_mem hi))
theorem pickP_pls (Q : Nat → Pm) (L : List Nat) (k : Nat) : pls (L ++ [k]).length (pickP Q (L ++ [k])) = pls L.length (pickP Q L) ++ (Q k).cells.toList := by
  rw [List.length_append, List.length_singleton, pls_succ]
  congr 1
  · exact pls_congr fun i hi => by unfold pickP; simp [List.getD_eq_getElem?_getD, List.getElem?_append_left hi]
  · unfold pickP; simp [List.getD_eq_getElem?_getD]
theorem PSl.cells {w : World} {b o n c : Nat} {P : Nat → Pm} (h : PSl w (.slice (some ⟨b, o, none⟩) n c) n P) : ∀ j u, (pls n P)[j]? = some u → w.cell? ((⟨b, o, none⟩ : Addr).add j) = some u := by
  obtain ⟨a, cap, he, h1, h2, h3⟩ := h
  injection he with e1 e2 e3
  intro j u hu
  have hj : j < n * 3 := by have := (List.getElem?_eq_some_iff.1 hu).1; rwa [pls_length] at this
  rcases h3 with h3 | ⟨b', o', hb, hlt, hc⟩
  · subst h3; omega
  · rw [hb] at e1
    injection e1 with e1
    injection e1 with e1 e4
    subst e1; subst e4
    have := hc (j / 3) (j % 3) (by omega) (by omega)
    rw [show o + j / 3 * 3 + j % 3 = o + j by omega] at this
    have hadd : (⟨b, o, none⟩ : Addr).add j = ⟨b, o + j, none⟩ := by unfold Addr.add; split <;> simp_all
    rw [hadd, this, ← pls_get n P (j / 3) (j % 3) (by omega) (by omega), show j / 3 * 3 + j % 3 = j by omega]
    exact hu
attribute [local irreducible] Calls

set_option maxRecDepth 100000 in
set_option maxHeartbeats 400000 in
theorem clip_any (a : Option Addr) (n c : Nat) (hn : n ≤ c) (hc : c ≤ maxLen) (w : World) :
    Calls Tryz.prog 77 #[.slice a n c] w fun e w' => e = .returned (.slice a n n) ∧ w' = w := by
  unfold maxLen at hc
  have h1 : (0 : Int) ≤ n := by omega
  have h2 : (n : Int) ≤ c := by omega
  have h3 : (n : Int) ≤ n := by omega
  go_enter Tryz.func77, Tryz.ntmps77
  go_wp2_with fail
  go_ret
  exact ⟨by simp, rfl⟩

section
variable {P : Program} {ops : Array Oper} {rest : List Oper} {o : Oper} {a : Act} {w : World} {Q : Exit → Act → World → Prop}
/-- 'append(s, x)', s having no room. -/
theorem wpList_grow {t e : TypeId} {s bytes : Nat} {sl x : Operand} {b : Addr} {n cap m c : Nat} {ad : Addr} {olds news : List Value} (hE : ElemTy P t e s bytes) (hgd : o.guard = none) (ho : o.op = .call { callee := .builtin .append, args := #[sl, x], argTypes := #[t, t] }) (hv : a.eval sl = .slice (some b) n cap) (hx : a.eval x = .slice (some ad) m c)
    (hlo : olds.length = n * s) (holds : ∀ j u, olds[j]? = some u → w.cell? (b.add j) = some u) (hl : news.length = m * s) (hnews : ∀ j u, news[j]? = some u → w.cell? (ad.add j) = some u) (hg : cap < n + m) (h63 : n + m ≤ maxLen) (hbytes : (n + m) * bytes ≤ 140737488355328)
    (h : ∀ cap' w', Own w' w.heap.size e s (.slice (some ⟨w.heap.size, 0, none⟩) (n + m) cap') (n + m) (olds ++ news) → Below w.heap.size w w' → wpList P ops Q rest (a.put o.dst (.slice (some ⟨w.heap.size, 0, none⟩) (n + m) cap')) w') : wpList P ops Q (o :: rest) a w :=
  wpList_plain hgd fun K hK => by
    obtain ⟨cap', w', hr, h2, h3⟩ := run_grow (P := P) (w := w) (ty := o.type) (c := c) (ad := ad) (b := b) hE hlo holds hl hnews hg h63 hbytes
    unfold Oper.wp execOp
    simp only [ho, resolve, invoke, builtin, Sem.run_bind, Sem.run_pure, Result.andThen_ok, List.map_toArray, List.map_cons, List.map_nil, hv, hx, hr]
    exact hK _ _ (h cap' w' h2 h3)
end
theorem elI64 : ElemTy Tryz.prog 34 2 1 8 := elem_of (z := .int .i64 0) Tryz.underlying34 (by kernel_rfl) rfl
theorem Own.at {w : World} {g : Nat} {e : TypeId} {s : Nat} {v : Value} {n : Nat} {xs : List Value} (h : Own w g e s v n xs) : ∀ j u, xs[j]? = some u → w.cell? ((⟨g, 0, none⟩ : Addr).add j) = some u := fun j u hu => by
  have hj : j < n * s := by have := (List.getElem?_eq_some_iff.1 hu).1; rw [h.1] at this; exact this
  have hadd : (⟨g, 0, none⟩ : Addr).add j = ⟨g, j, none⟩ := by unfold Addr.add; split <;> simp_all
  rw [hadd, h.cell j hj]; exact hu
theorem Blk.at {w : World} {b : Nat} {C : Array Value} {t : TypeId} (h : Blk w b C t) : ∀ j u, C.toList[j]? = some u → w.cell? ((⟨b, 0, none⟩ : Addr).add j) = some u := fun j u hu => by
  have hadd : (⟨b, 0, none⟩ : Addr).add j = ⟨b, j, none⟩ := by unfold Addr.add; split <;> simp_all
  rw [hadd, h.cell]; simpa using hu

set_option maxRecDepth 100000 in
set_option maxHeartbeats 400000 in
theorem inOrder_any (g : Gr) (b : Nat) (v u : Value) (n m : Nat) (P : Nat → Wt) (Q : Nat → Pm) (hg : g.ok) (hvg : validG g = true) (hQ : cellsIn g m Q) (hP : watchIn n P) (hm : m ≤ 6) (w : World) (hb : Blk w b (ofc g v) 42) (hv : WSl w v n P) (hu : PSl w u m Q) :
    Calls Tryz.prog 51 #[.pointer (some ⟨b, 0, none⟩), u] w fun e w' => ∃ x r, e = .returned x ∧ w.heap.size ≤ r ∧ Own w' r 2 1 x (grantTo (grK g n P Q) m).length (ils (grantTo (grK g n P Q) m)) ∧ Below w.heap.size w w' := by
  obtain ⟨a, c', rfl, hc1, hc2, hcell⟩ := hu
  unfold maxLen at hc2
  have HC := Lib.hid hcell
  have HQ := Lib.hid hQ
  clear hcell hQ
  have lb := hb.lt
  have hke := fun (L : List Nat) (hL : ∀ i, i ∈ L → i < m) w' (hbl : Below w.heap.size w w') z h3 => kept_any g b v z n L.length P (pickP Q L) hg hvg (pickP_in HQ.out hL) hP w' (hb.ogat.below hbl lb) (((hb.below hbl lb).cell _).trans (ofc_last _ _)) (hv.below hbl) h3
  obtain ⟨K, hK⟩ : ∃ K, K = grK g n P Q := ⟨_, rfl⟩
  rw [← hK]
  have HK := Lib.hid hK
  clear hK
  have hmm : (m : Int) ≤ 6 := by omega
  go_enter Tryz.func51, Tryz.ntmps51
  go_upto_region 2 with fail
  have hE : Own ((w.alloc (.cells #[] 2)).alloc (.cells #[] 64)) w.heap.size 2 1 (.slice (some ⟨w.heap.size, 0, none⟩) 0 0) 0 (ils []) := own_blk ((Blk.new _ _ _).alloc _) rfl (by decide) (by rw [ils_nil])
  have hG : Own ((w.alloc (.cells #[] 2)).alloc (.cells #[] 64)) (w.heap.size + 1) 64 3 (.slice (some ⟨w.heap.size + 1, 0, none⟩) 0 0) 0 (pls 0 (pickP Q [])) := own_blk (Blk.new1 _ _ _ _) rfl (by decide) (by rw [pls_zero])
  have hbel := below2 w (.cells #[] 2) (.cells #[] 64)
  generalize ((w.alloc (.cells #[] 2)).alloc (.cells #[] 64)) = W at *
  go_upto_region 3 with fail
  go_loopw [5, 6, 14] (fun y z i wr => ∃ (k go gb : Nat) (L : List Nat), k ≤ m ∧ i = .int .i64 k ∧ Hid (L = grantTo K k) ∧ Own wr go 2 1 y L.length (ils L) ∧ Own wr gb 64 3 z L.length (pls L.length (pickP Q L)) ∧ w.heap.size ≤ go ∧ w.heap.size ≤ gb ∧ go ≠ gb ∧ Below w.heap.size w wr) (fun _ _ i _ => m - (intOf i).toNat)
  case atStart => exact ⟨0, _, _, [], by omega, rfl, Lib.hid rfl, hE, hG, by omega, by omega, by omega, hbel⟩
  case round =>
    clear hE hG hbel
    obtain ⟨k, go, gb, L, hk, rfl, hL, hE, hG, hgo, hgb, hne, hbel⟩ := hrel
    by_cases hlt : k < m
    · obtain ⟨b', o, rfl, hb', hcell⟩ := HC.out.resolve_left (by omega)
      have e0 : wr.cell? ⟨b', o + k * 3, none⟩ = some (.int .i8 (Q k).own) := (hbel.cell (p := ⟨b', _, none⟩) hb').trans ((hcell k 0 hlt (by omega)).trans (Q k).get0)
      have e1 : wr.cell? ⟨b', o + k * 3 + 1, none⟩ = some (.int .i8 (Q k).cel) := (hbel.cell (p := ⟨b', _, none⟩) hb').trans ((hcell k 1 hlt (by omega)).trans (Q k).get1)
      have e2 : wr.cell? ⟨b', o + k * 3 + 2, none⟩ = some (.int .i16 (Q k).rat) := (hbel.cell (p := ⟨b', _, none⟩) hb').trans ((hcell k 2 hlt (by omega)).trans (Q k).get2)
      clear hcell
      have bj : (0 : Int) ≤ k := by omega
      have bm : (k : Int) < m := by omega
      have hLl : L.length ≤ k ∧ ∀ i, i ∈ L ++ [k] → i < m := by
        have := grantTo_lt K k
        rw [← hL.out] at this
        refine ⟨this.2, fun i hi => ?_⟩
        rcases List.mem_append.1 hi with h | h
        · have := this.1 i h; omega
        · simp at h; omega
      have hL6 : L.length ≤ 6 := by omega
      have hke := hke (L ++ [k]) hLl.2
      have HT := Lib.hid (pickP_pls Q L k)
      have HKL : Hid (keptB g n P (L ++ [k]).length (pickP Q (L ++ [k])) = K (L ++ [k])) := Lib.hid (by rw [HK.out]; rfl)
      have HN : Hid (K (L ++ [k]) = true → L ++ [k] = grantTo K (k + 1)) := Lib.hid fun h => by
        unfold grantTo; rw [← hL.out, if_pos h]
      have HM : Hid (K (L ++ [k]) = false → L = grantTo K (k + 1)) := Lib.hid fun h => by
        unfold grantTo; rw [← hL.out, if_neg (by rw [h]; simp)]
      have hlen : (L ++ [k]).length = L.length + 1 := by simp
      go_upto_region 5 with fail
      have hX := Blk.new wr #[.int .i8 (Q k).own, .int .i8 (Q k).cel, .int .i16 (Q k).rat] 64
      rw [← (Q k).cells_eq] at hX
      have hE := hE.alloc (.cells #[.int .i8 (Q k).own, .int .i8 (Q k).cel, .int .i16 (Q k).rat] 64)
      have hG := hG.alloc (.cells #[.int .i8 (Q k).own, .int .i8 (Q k).cel, .int .i16 (Q k).rat] 64)
      have hbel := hbel.alloc hbel.size (.cells #[.int .i8 (Q k).own, .int .i8 (Q k).cel, .int .i16 (Q k).rat] 64)
      rw [← (Q k).cells_eq] at hE hG hbel
      rw [← (Q k).cells_eq]
      generalize wr.alloc (.cells (Q k).cells 64) = W3 at *
      generalize wr.heap.size = q at *
      clear e0 e1 e2
      have lX := hX.lt
      have lE := hE.lt
      have lG := hG.lt
      obtain ⟨gc, rfl, hgc1, hgc2⟩ := hG.form
      obtain ⟨oc, rfl, hoc1, hoc2⟩ := hE.form
      refine wp_splitK 4 (C := fun w' => Below W3.heap.size W3 w') (R := fun w w' => Below w.heap.size w w') (F := fun w dd vv => match dd, vv with
        | 19, vv => vv = .slice (some ⟨gb, 0, none⟩) L.length gc
        | 20, vv => vv = .slice (some ⟨gb, 0, none⟩) L.length L.length
        | 21, vv => vv = .agg (Q k).cells
        | 22, vv => ∃ r, vv = .slice (some ⟨r, 0, none⟩) 1 1 ∧ Blk w r (Q k).cells 64
        | _, _ => True) ?_ (by kernel_rfl) (by kernel_rfl) (by kernel_rfl) (Below.refl _ _).drew ?_ ?_
      · intro w1 w2 d v hR hF
        split at hF
        · exact hF
        · exact hF
        · exact hF
        · obtain ⟨r, h1, h2⟩ := hF
          exact ⟨r, h1, h2.below hR h2.lt⟩
        · trivial
      · refine ⟨step_go rfl fun ev w1 hC kn => ?_, ?_⟩
        · have e1 : ev (.tmp 6) = .slice (some ⟨gb, 0, none⟩) L.length gc := kn.out 6 rfl rfl rfl
          exact good_of (v := .slice (some ⟨gb, 0, none⟩) L.length gc) rfl (by simp [execOp, e1, kn.con, go_sem]) hC (Below.refl _ _) rfl
        refine ⟨step_go rfl fun ev w1 hC kn => ?_, ?_⟩
        · have e1 : ev (.tmp 19) = .slice (some ⟨gb, 0, none⟩) L.length gc := kn.inn 19 rfl rfl
          refine good_call (f := 77) (args := #[.slice (some ⟨gb, 0, none⟩) L.length gc]) rfl (by simp [execOp, e1, kn.fn, kn.con, go_sem]) ((clip_any _ _ _ hgc1 hgc2 w1).mono fun e w2 ⟨he, hw⟩ => ⟨_, he, by rw [hw]; exact hC, by rw [hw]; exact Below.refl _ _, rfl⟩)
        refine ⟨step_go rfl fun ev w1 hC kn => ?_, ?_⟩
        · have e1 : ev (.tmp 8) = .pointer (some ⟨q, 0, none⟩) := kn.out 8 rfl rfl rfl
          exact good_of (v := .agg (Q k).cells) rfl (load_blk e1 row99 (hX.below hC lX) (Q k).cells_size) hC (Below.refl _ _) rfl
        refine ⟨step_go rfl fun ev w1 hC kn => ?_, ?_⟩
        · have e1 : ev (.tmp 21) = .agg #[.int .i8 (Q k).own, .int .i8 (Q k).cel, .int .i16 (Q k).rat] := (kn.inn 21 rfl rfl : ev (.tmp 21) = .agg (Q k).cells).trans (by rw [(Q k).cells_eq])
          exact good_of (v := .slice (some ⟨w1.heap.size, 0, none⟩) 1 1) (w' := w1.alloc (.cells (Q k).cells 64)) rfl (by rw [(Q k).cells_eq]; simp [execOp, e1, kn.con, go_sem]) (hC.alloc hC.size _) (below1 _ _) ⟨_, rfl, Blk.new _ _ _⟩
        exact trivial
      rintro xv w1 hxv hC
      have y20 : xv 20 = .slice (some ⟨gb, 0, none⟩) L.length L.length := hxv 20 (by decide)
      obtain ⟨r, y22, hr22⟩ : ∃ r, xv 22 = .slice (some ⟨r, 0, none⟩) 1 1 ∧ Blk w1 r (Q k).cells 64 := hxv 22 (by decide)
      simp only [fill, dstsOf, List.filterMap_cons, List.filterMap_nil, List.foldl_cons, List.foldl_nil, List.set_cons_succ, List.set_cons_zero, List.take_succ_cons, List.take_zero, List.drop_succ_cons, List.drop_zero, y20, y22]
      clear hxv y20 y22
      have hE1 := hE.below hC lE
      have hG1 := hG.below hC lG
      have hbel1 := hbel.trans (hC.mono hbel.size)
      clear hE hG hbel hX lX lE lG hC
      go_upto_region 6 with (at_builtin; refine wpList_grow elPm rfl rfl rfl rfl (by rw [pls_length]) hG1.at (by rw [Array.length_toList, (Q k).cells_size]) hr22.at (by omega) (by unfold maxLen; omega) (by omega) ?_; intro cap2 w2 hG2 hb2)
      rw [← HT.out] at hG2
      have hG2 : Own w2 w1.heap.size 64 3 (.slice (some ⟨w1.heap.size, 0, none⟩) (L.length + 1) cap2) (L ++ [k]).length (pls (L ++ [k]).length (pickP Q (L ++ [k]))) := by rw [hlen]; rw [hlen] at hG2; exact hG2
      have hE2 := hE1.below hb2 hE1.lt
      have hG12 := hG1.below hb2 hG1.lt
      have hbel2 := hbel1.trans (hb2.mono hbel1.size)
      have lE1 := hE1.lt
      have hsz1 := hbel1.size
      generalize w1.heap.size = gN at *
      clear hE1 hG1 hbel1 hb2 hr22
      have hke := hke w2 hbel2 _ hG2.psl
      rw [HKL.out] at hke
      have lE2 := hE2.lt
      have lG2 := hG2.lt
      have lG12 := hG12.lt
      cases hKv : K (L ++ [k]) <;> rw [hKv] at hke
      · have HM := Lib.hid (HM.out hKv)
        clear hKv
        go_wp2_with (go_at_call 54; refine hke.mono ?_; rintro e w3 ⟨rfl, hb3⟩)
        go_roundw
        case rel => exact ⟨k + 1, go, gb, L, by omega, by go_num, HM, hE2.below hb3 lE2, hG12.below hb3 lG12, hgo, hgb, hne, hbel2.trans (hb3.mono hbel2.size)⟩
        case measure => (simp [intOf]; try omega)
      · have HN := Lib.hid (HN.out hKv)
        clear hKv
        go_upto_region 7 with (go_at_call 54; refine hke.mono ?_; rintro e w3 ⟨rfl, hb3⟩)
        have hE3 := hE2.below hb3 lE2
        have hG3 := hG2.below hb3 lG2
        have hbel3 := hbel2.trans (hb3.mono hbel2.size)
        have lE3 := hE3.lt
        have lG3 := hG3.lt
        clear hE2 hG2 hG12 hbel2 hb3
        go_wp2_with (at_builtin; refine wpList_app elI64 rfl rfl rfl rfl Nat.one_pos (hE3.alloc _) (Blk.new _ _ _) rfl ?_ ?_ ?_ ?_; (· intro u hu; simp at hu; subst hu; rfl); (· unfold maxLen; omega); (· omega); intro v1 w4 g1' hown1 hgr1 hg1)
        go_roundw
        case rel =>
          have hb4 := (hbel3.alloc hbel3.size (.cells #[.int .i64 k] 2)).grown hgr1 (by simp; omega) (fun k hk => by injection hk with hk; omega)
          have hG4 := (hG3.alloc (.cells #[.int .i64 k] 2)).grown hgr1 (by simp; omega)
          rw [show (#[Value.int .i64 (k : Int)] : Array Value).toList = [.int .i64 k] from rfl, ils_snoc] at hown1
          exact ⟨k + 1, g1', gN, L ++ [k], by omega, by go_num, HN, by rw [hlen]; exact hown1, by rw [hlen] at hG4 ⊢; exact hG4, by simp at hg1; omega, by omega, by simp at hg1; omega, hb4⟩
        case measure => (simp [intOf]; try omega)
    · obtain rfl : k = m := by omega
      rw [hL.out] at hE
      go_wp2_with fail
      go_ret
      exact ⟨_, go, rfl, hgo, hE, hbel⟩

/-- An append onto an empty slice without room: nothing that was there turns. -/
theorem run_app0 {P : Program} {w : World} {t ty e : TypeId} {s bytes : Nat} (hE : ElemTy P t e s bytes) {r m c : Nat} {ad : Addr} {news : List Value} (hown : Own w r e s (.slice (some ⟨r, 0, none⟩) 0 0) 0 [])
    (hl : news.length = m * s) (hnews : ∀ j u, news[j]? = some u → w.cell? (ad.add j) = some u) (h63 : m ≤ maxLen) (hbytes : m * bytes ≤ 140737488355328) :
    ∃ g' c' w', (Builtin.append_ #[t, t] ty #[.slice (some ⟨r, 0, none⟩) 0 0, .slice (some ad) m c]).run P w = .ok (.slice (some ⟨g', 0, none⟩) m c') w' ∧ Own w' g' e s (.slice (some ⟨g', 0, none⟩) m c') m news ∧ Below w.heap.size w w' ∧ (g' = r ∨ g' = w.heap.size) := by
  by_cases hm : m = 0
  · subst hm
    obtain rfl : news = [] := List.length_eq_zero_iff.1 (by omega)
    obtain ⟨ht, i, z, hi, hz, hsize, hby, hzs⟩ := hE
    have hr := run_append_room_cells (P := P) w t ty e i ht hi r 0 0 0 ad 0 c [] (by simp) (fun j u h => by simp at h) (fun u h => by cases h) (by omega) (fun j h => by simp at h) (fun j h => by simp at h)
    exact ⟨r, 0, w, hr.trans (by first | rfl | simp [World.setCells]), hown, Below.refl _ _, .inl rfl⟩
  · obtain ⟨cap', w', hr, h2, h3⟩ := run_grow (P := P) (w := w) (ty := ty) (b := ⟨r, 0, none⟩) (n := 0) (cap := 0) (c := c) (olds := []) (ad := ad) hE (by simp) (fun j u h => by simp at h) hl hnews (by omega) (by omega) (by simpa using hbytes)
    rw [Nat.zero_add] at hr h2
    exact ⟨_, cap', w', hr, by simpa using h2, h3, .inr rfl⟩

set_option maxRecDepth 100000 in
set_option maxHeartbeats 400000 in
theorem l07Grant_any (g : Gr) (b : Nat) (v u : Value) (n m : Nat) (P : Nat → Wt) (Q : Nat → Pm) (hg : g.ok) (hvg : validG g = true) (hQ : cellsIn g m Q) (hP : watchIn n P) (hm : m ≤ 6) (w : World) (hb : Blk w b (ofc g v) 42) (hv : WSl w v n P) (hu : PSl w u m Q) :
    Calls Tryz.prog 52 #[.pointer (some ⟨b, 0, none⟩), u] w fun e w' => ∃ x r, e = .returned x ∧ w.heap.size ≤ r ∧ Own w' r 2 1 x (grantTo (grK g n P Q) m).length (ils (grantTo (grK g n P Q) m)) ∧ Below w.heap.size w w' := by
  obtain ⟨a, c', rfl, hc1, hc2, hcell⟩ := hu
  unfold maxLen at hc2
  have HC := Lib.hid hcell
  have HQ := Lib.hid hQ
  clear hcell hQ
  have lb := hb.lt
  have hke := fun (L : List Nat) (hL : ∀ i, i ∈ L → i < m) w' (hbl : Below w.heap.size w w') z h3 => l07Kept_any g b v z n L.length P (pickP Q L) hg hvg (pickP_in HQ.out hL) hP w' (hb.ogat.below hbl lb) (((hb.below hbl lb).cell _).trans (ofc_last _ _)) (hv.below hbl) h3
  obtain ⟨K, hK⟩ : ∃ K, K = grK g n P Q := ⟨_, rfl⟩
  rw [← hK]
  have HK := Lib.hid hK
  clear hK
  have hmm : (m : Int) ≤ 6 := by omega
  go_enter Tryz.func52, Tryz.ntmps52
  go_upto_region 3 with fail
  have hE : Own ((w.alloc (.cells #[] 2)).alloc (.cells #[] 64)) w.heap.size 2 1 (.slice (some ⟨w.heap.size, 0, none⟩) 0 0) 0 (ils []) := own_blk ((Blk.new _ _ _).alloc _) rfl (by decide) (by rw [ils_nil])
  have hG : Own ((w.alloc (.cells #[] 2)).alloc (.cells #[] 64)) (w.heap.size + 1) 64 3 (.slice (some ⟨w.heap.size + 1, 0, none⟩) 0 0) 0 (pls 0 (pickP Q [])) := own_blk (Blk.new1 _ _ _ _) rfl (by decide) (by rw [pls_zero])
  have hbel := below2 w (.cells #[] 2) (.cells #[] 64)
  generalize ((w.alloc (.cells #[] 2)).alloc (.cells #[] 64)) = W at *
  go_upto_region 4 with fail
  go_loopw [5, 6, 7] (fun y z i wr => ∃ (k go gb : Nat) (L : List Nat), k ≤ m ∧ i = .int .i64 k ∧ Hid (L = grantTo K k) ∧ Own wr go 2 1 y L.length (ils L) ∧ Own wr gb 64 3 z L.length (pls L.length (pickP Q L)) ∧ w.heap.size ≤ go ∧ w.heap.size ≤ gb ∧ go ≠ gb ∧ Below w.heap.size w wr) (fun _ _ i _ => m - (intOf i).toNat)
  case atStart => exact ⟨0, _, _, [], by omega, rfl, Lib.hid rfl, hE, hG, by omega, by omega, by omega, hbel⟩
  case round =>
    clear hE hG hbel
    obtain ⟨k, go, gb, L, hk, rfl, hL, hE, hG, hgo, hgb, hne, hbel⟩ := hrel
    by_cases hlt : k < m
    · obtain ⟨b', o, rfl, hb', hcell⟩ := HC.out.resolve_left (by omega)
      have e0 : wr.cell? ⟨b', o + k * 3, none⟩ = some (.int .i8 (Q k).own) := (hbel.cell (p := ⟨b', _, none⟩) hb').trans ((hcell k 0 hlt (by omega)).trans (Q k).get0)
      have e1 : wr.cell? ⟨b', o + k * 3 + 1, none⟩ = some (.int .i8 (Q k).cel) := (hbel.cell (p := ⟨b', _, none⟩) hb').trans ((hcell k 1 hlt (by omega)).trans (Q k).get1)
      have e2 : wr.cell? ⟨b', o + k * 3 + 2, none⟩ = some (.int .i16 (Q k).rat) := (hbel.cell (p := ⟨b', _, none⟩) hb').trans ((hcell k 2 hlt (by omega)).trans (Q k).get2)
      clear hcell
      have bj : (0 : Int) ≤ k := by omega
      have bm : (k : Int) < m := by omega
      have hLl : L.length ≤ k ∧ ∀ i, i ∈ L ++ [k] → i < m := by
        have := grantTo_lt K k
        rw [← hL.out] at this
        refine ⟨this.2, fun i hi => ?_⟩
        rcases List.mem_append.1 hi with h | h
        · have := this.1 i h; omega
        · simp at h; omega
      have hL6 : L.length ≤ 6 := by omega
      have hke := hke (L ++ [k]) hLl.2
      have HT := Lib.hid (pickP_pls Q L k)
      have HKL : Hid (keptB g n P (L ++ [k]).length (pickP Q (L ++ [k])) = K (L ++ [k])) := Lib.hid (by rw [HK.out]; rfl)
      have HN : Hid (K (L ++ [k]) = true → L ++ [k] = grantTo K (k + 1)) := Lib.hid fun h => by
        unfold grantTo; rw [← hL.out, if_pos h]
      have HM : Hid (K (L ++ [k]) = false → L = grantTo K (k + 1)) := Lib.hid fun h => by
        unfold grantTo; rw [← hL.out, if_neg (by rw [h]; simp)]
      have hlen : (L ++ [k]).length = L.length + 1 := by simp
      go_upto_region 6 with fail
      have lE := hE.lt
      have lG := hG.lt
      have lb' : b' < wr.heap.size := Nat.lt_of_lt_of_le hb' hbel.size
      obtain ⟨gc, rfl, hgc1, hgc2⟩ := hG.form
      obtain ⟨oc, rfl, hoc1, hoc2⟩ := hE.form
      refine wp_splitK 8 (C := fun w' => Below wr.heap.size wr w') (R := fun w w' => Below w.heap.size w w') (F := fun w dd vv => match dd, vv with
        | 17, vv => ∃ r, vv = .slice (some ⟨r, 0, none⟩) 0 0 ∧ Own w r 64 3 (.slice (some ⟨r, 0, none⟩) 0 0) 0 [] ∧ wr.heap.size ≤ r
        | 18, vv => vv = .slice (some ⟨gb, 0, none⟩) L.length gc
        | 19, vv => ∃ r c2, vv = .slice (some ⟨r, 0, none⟩) L.length c2 ∧ Own w r 64 3 (.slice (some ⟨r, 0, none⟩) L.length c2) L.length (pls L.length (pickP Q L)) ∧ wr.heap.size ≤ r
        | 20, vv => vv = .slice (some ⟨b', o, none⟩) m c'
        | 21, vv => vv = .int .i64 k
        | 22, vv => vv = .pointer (some ⟨b', o + k * 3, none⟩)
        | 23, vv => vv = .agg (Q k).cells
        | 24, vv => ∃ r, vv = .slice (some ⟨r, 0, none⟩) 1 1 ∧ Blk w r (Q k).cells 64
        | _, _ => True) ?_ (by kernel_rfl) (by kernel_rfl) (by kernel_rfl) (Below.refl _ _).drew ?_ ?_
      · intro w1 w2 d v hR hF
        split at hF
        · obtain ⟨r, h1, h2, h3⟩ := hF
          exact ⟨r, h1, h2.below hR h2.lt, h3⟩
        · exact hF
        · obtain ⟨r, c2, h1, h2, h3⟩ := hF
          exact ⟨r, c2, h1, h2.below hR h2.lt, h3⟩
        · exact hF
        · exact hF
        · exact hF
        · exact hF
        · obtain ⟨r, h1, h2⟩ := hF
          exact ⟨r, h1, h2.below hR h2.lt⟩
        · trivial
      · refine ⟨step_go rfl fun ev w1 hC kn => ?_, ?_⟩
        · exact good_of (v := .slice (some ⟨w1.heap.size, 0, none⟩) 0 0) (w' := w1.alloc (.cells #[] 64)) rfl (by simp [execOp, kn.con, go_sem]) (hC.alloc hC.size _) (below1 _ _) ⟨_, rfl, own_blk (Blk.new _ _ _) rfl (by decide) rfl, hC.size⟩
        refine ⟨step_go rfl fun ev w1 hC kn => ?_, ?_⟩
        · have e1 : ev (.tmp 6) = .slice (some ⟨gb, 0, none⟩) L.length gc := kn.out 6 rfl rfl rfl
          exact good_of (v := .slice (some ⟨gb, 0, none⟩) L.length gc) rfl (by simp [execOp, e1, kn.con, go_sem]) hC (Below.refl _ _) rfl
        refine ⟨step_go rfl fun ev w1 hC kn => ?_, ?_⟩
        · obtain ⟨r, e1, ho, hr⟩ : ∃ r, ev (.tmp 17) = .slice (some ⟨r, 0, none⟩) 0 0 ∧ Own w1 r 64 3 (.slice (some ⟨r, 0, none⟩) 0 0) 0 [] ∧ wr.heap.size ≤ r := kn.inn 17 rfl rfl
          have e2 : ev (.tmp 18) = .slice (some ⟨gb, 0, none⟩) L.length gc := kn.inn 18 rfl rfl
          obtain ⟨g', c2, w2, hr1, hr2, hr3, hr4⟩ := run_app0 (P := Tryz.prog) (ty := 44) (c := gc) elPm ho (by rw [pls_length]) (hG.below hC lG).at (by unfold maxLen; omega) (by omega)
          exact good_of (v := .slice (some ⟨g', 0, none⟩) L.length c2) (w' := w2) rfl (by simp [execOp, e1, e2, kn.con, resolve, invoke, builtin, Sem.run_bind, Sem.run_pure, hr1]) (hC.trans (hr3.mono hC.size)) hr3 ⟨g', c2, rfl, hr2, by have := hC.size; rcases hr4 with h | h <;> omega⟩
        refine ⟨step_go rfl fun ev w1 hC kn => ?_, ?_⟩
        · have e1 : ev (.tmp 1) = .slice (some ⟨b', o, none⟩) m c' := kn.out 1 rfl rfl rfl
          exact good_of (v := .slice (some ⟨b', o, none⟩) m c') rfl (by simp [execOp, e1, kn.con, go_sem]) hC (Below.refl _ _) rfl
        refine ⟨step_go rfl fun ev w1 hC kn => ?_, ?_⟩
        · have e1 : ev (.tmp 7) = .int .i64 k := kn.out 7 rfl rfl rfl
          exact good_of (v := .int .i64 k) rfl (by simp [execOp, e1, kn.con, go_sem]) hC (Below.refl _ _) rfl
        refine ⟨step_go rfl fun ev w1 hC kn => ?_, ?_⟩
        · have e1 : ev (.tmp 20) = .slice (some ⟨b', o, none⟩) m c' := kn.inn 20 rfl rfl
          have e2 : ev (.tmp 21) = .int .i64 k := kn.inn 21 rfl rfl
          exact good_of (v := .pointer (some ⟨b', o + k * 3, none⟩)) rfl (by simp [execOp, e1, e2, kn.con, go_sem, bj, bm]) hC (Below.refl _ _) rfl
        refine ⟨step_go rfl fun ev w1 hC kn => ?_, ?_⟩
        · have e3 : ev (.tmp 22) = .pointer (some ⟨b', o + k * 3, none⟩) := kn.inn 22 rfl rfl
          have x0 := (hC.cell (p := ⟨b', o + k * 3, none⟩) lb').trans e0
          have x1 := (hC.cell (p := ⟨b', o + k * 3 + 1, none⟩) lb').trans e1
          have x2 := (hC.cell (p := ⟨b', o + k * 3 + 2, none⟩) lb').trans e2
          exact good_of (v := .agg (Q k).cells) rfl (by rw [(Q k).cells_eq]; simp [execOp, e3, kn.con, go_sem, x0, x1, x2]) hC (Below.refl _ _) rfl
        refine ⟨step_go rfl fun ev w1 hC kn => ?_, ?_⟩
        · have e1 : ev (.tmp 23) = .agg #[.int .i8 (Q k).own, .int .i8 (Q k).cel, .int .i16 (Q k).rat] := (kn.inn 23 rfl rfl : ev (.tmp 23) = .agg (Q k).cells).trans (by rw [(Q k).cells_eq])
          exact good_of (v := .slice (some ⟨w1.heap.size, 0, none⟩) 1 1) (w' := w1.alloc (.cells (Q k).cells 64)) rfl (by rw [(Q k).cells_eq]; simp [execOp, e1, kn.con, go_sem]) (hC.alloc hC.size _) (below1 _ _) ⟨_, rfl, Blk.new _ _ _⟩
        exact trivial
      rintro xv w1 hxv hC
      obtain ⟨r19, c19, y19, ho19, hr19⟩ : ∃ r c2, xv 19 = .slice (some ⟨r, 0, none⟩) L.length c2 ∧ Own w1 r 64 3 (.slice (some ⟨r, 0, none⟩) L.length c2) L.length (pls L.length (pickP Q L)) ∧ wr.heap.size ≤ r := hxv 19 (by decide)
      obtain ⟨r, y24, hr24⟩ : ∃ r, xv 24 = .slice (some ⟨r, 0, none⟩) 1 1 ∧ Blk w1 r (Q k).cells 64 := hxv 24 (by decide)
      simp only [fill, dstsOf, List.filterMap_cons, List.filterMap_nil, List.foldl_cons, List.foldl_nil, List.set_cons_succ, List.set_cons_zero, List.take_succ_cons, List.take_zero, List.drop_succ_cons, List.drop_zero, y19, y24]
      clear hxv y19 y24
      have hE1 := hE.below hC lE
      have hG1 := hG.below hC lG
      have hbel1 := hbel.trans (hC.mono hbel.size)
      have hsz := hbel.size
      have hszC := hC.size
      clear hE hG hbel hC e0 e1 e2
      go_upto_region 7 with (at_builtin; refine wpList_app elPm rfl rfl rfl rfl (by omega) ho19 hr24 (by rw [(Q k).cells_size]) (Q k).one (by unfold maxLen; omega) (by omega) ?_; intro v2 w2 gN hG2 hgr2 hg2)
      rw [← HT.out, ← hlen] at hG2
      have hE2 := hE1.grown hgr2 (by simp; omega)
      have hG12 := hG1.grown hgr2 (by simp; omega)
      have hbel2 := hbel1.grown hgr2 (by have := hbel1.size; omega) (fun k hk => by injection hk with hk; omega)
      have lE1 : go < gN := by have := hE1.lt; rcases hg2 with h | h <;> omega
      have hsz1 : w.heap.size ≤ gN := by have := hbel1.size; rcases hg2 with h | h <;> omega
      clear hE1 hG1 hbel1 hr24 ho19
      have hke := hke w2 hbel2 _ hG2.psl
      rw [HKL.out] at hke
      have lE2 := hE2.lt
      have lG2 := hG2.lt
      have lG12 := hG12.lt
      cases hKv : K (L ++ [k]) <;> rw [hKv] at hke
      · have HM := Lib.hid (HM.out hKv)
        clear hKv
        go_wp2_with (go_at_call 57; refine hke.mono ?_; rintro e w3 ⟨rfl, hb3⟩)
        go_roundw
        case rel => exact ⟨k + 1, go, gb, L, by omega, by go_num, HM, hE2.below hb3 lE2, hG12.below hb3 lG12, hgo, hgb, hne, hbel2.trans (hb3.mono hbel2.size)⟩
        case measure => (simp [intOf]; try omega)
      · have HN := Lib.hid (HN.out hKv)
        clear hKv
        go_upto_region 9 with (go_at_call 57; refine hke.mono ?_; rintro e w3 ⟨rfl, hb3⟩)
        have hE3 := hE2.below hb3 lE2
        have hG3 := hG2.below hb3 lG2
        have hbel3 := hbel2.trans (hb3.mono hbel2.size)
        have lE3 := hE3.lt
        have lG3 := hG3.lt
        clear hE2 hG2 hG12 hbel2 hb3
        go_wp2_with (at_builtin; refine wpList_app elI64 rfl rfl rfl rfl Nat.one_pos (hE3.alloc _) (Blk.new _ _ _) rfl ?_ ?_ ?_ ?_; (· intro u hu; simp at hu; subst hu; rfl); (· unfold maxLen; omega); (· omega); intro v1 w4 g1' hown1 hgr1 hg1)
        go_roundw
        case rel =>
          have hb4 := (hbel3.alloc hbel3.size (.cells #[.int .i64 k] 2)).grown hgr1 (by simp; omega) (fun k hk => by injection hk with hk; omega)
          have hG4 := (hG3.alloc (.cells #[.int .i64 k] 2)).grown hgr1 (by simp; omega)
          rw [show (#[Value.int .i64 (k : Int)] : Array Value).toList = [.int .i64 k] from rfl, ils_snoc] at hown1
          exact ⟨k + 1, g1', gN, L ++ [k], by omega, by go_num, HN, by rw [hlen]; exact hown1, hG4, by simp at hg1; omega, by omega, by simp at hg1; omega, hb4⟩
        case measure => (simp [intOf]; try omega)
    · obtain rfl : k = m := by omega
      rw [hL.out] at hE
      go_wp2_with fail
      go_ret
      exact ⟨_, go, rfl, hgo, hE, hbel⟩
end Go.Proofs.YtokdpmpgonafmaaGreat
