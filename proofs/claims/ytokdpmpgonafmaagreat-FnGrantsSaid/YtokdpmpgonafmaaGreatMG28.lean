import Derived.Test.YtokdpmpgonafmaaGreatMG27
/- All choices of permits that are kept, in the reference (l07Choices). -/
namespace Go.Proofs.YtokdpmpgonafmaaGreat
open Go.ChangeShapes Go.WideShapes Go.ChangeAt Go.RowKit
set_option linter.unusedVariables false
set_option linter.unusedSimpArgs false
attribute [local irreducible] Calls

/-- The slice v holds the numbers L; nil where there are none, or not. -/
def VL (w : World) (v : Value) (L : List Nat) : Prop := (L = [] ∧ v = .slice none 0 0) ∨ ∃ g c, v = .slice (some ⟨g, 0, none⟩) L.length c ∧ Own w g 2 1 (.slice (some ⟨g, 0, none⟩) L.length c) L.length (ils L)
theorem VL.below {w w' : World} {v : Value} {L : List Nat} (h : VL w v L) (hb : Below w.heap.size w w') : VL w' v L := by
  rcases h with h | ⟨g, c, h1, h2⟩
  · exact .inl h
  · exact .inr ⟨g, c, h1, h2.below hb h2.lt⟩
/-- .. in blocks from B on. -/
def VLB (w : World) (B : Nat) (v : Value) (L : List Nat) : Prop := (L = [] ∧ v = .slice none 0 0) ∨ ∃ g c, v = .slice (some ⟨g, 0, none⟩) L.length c ∧ Own w g 2 1 (.slice (some ⟨g, 0, none⟩) L.length c) L.length (ils L) ∧ B ≤ g
theorem VLB.vl {w : World} {B : Nat} {v : Value} {L : List Nat} (h : VLB w B v L) : VL w v L := by
  rcases h with h | ⟨g, c, h1, h2, _⟩
  · exact .inl h
  · exact .inr ⟨g, c, h1, h2⟩
theorem VLB.below {w w' : World} {B : Nat} {v : Value} {L : List Nat} (h : VLB w B v L) {B' : Nat} (hb : Below B' w w') (hB : B' = w.heap.size) : VLB w' B v L := by
  rcases h with h | ⟨g, c, h1, h2, h3⟩
  · exact .inl h
  · exact .inr ⟨g, c, h1, h2.below hb (by have := h2.lt; omega), h3⟩
theorem VLB.low {w w' : World} {B B' : Nat} {v : Value} {L : List Nat} (h : VLB w B v L) (hl : ∀ g c, v = .slice (some ⟨g, 0, none⟩) L.length c → g < B') (hb : Below B' w w') : VLB w' B v L := by
  rcases h with h | ⟨g, c, h1, h2, h3⟩
  · exact .inl h
  · exact .inr ⟨g, c, h1, h2.below hb (hl g c h1), h3⟩
theorem VLB.grown {w w' : World} {B b : Nat} {v : Value} {L : List Nat} (h : VLB w B v L) (hg : w.grownBy w' (some b)) {C : Array Value} {t : TypeId} (hb : Blk w b C t) (ht : t ≠ 2) : VLB w' B v L := by
  rcases h with h | ⟨g, c, h1, h2, h3⟩
  · exact .inl h
  · exact .inr ⟨g, c, h1, h2.grown hg (fun e => own_ne hb h2 ht (Option.some.inj e)), h3⟩
theorem VLB.alloc {w : World} {B : Nat} {v : Value} {L : List Nat} (h : VLB w B v L) (o : Obj) : VLB (w.alloc o) B v L := by
  rcases h with h | ⟨g, c, h1, h2, h3⟩
  · exact .inl h
  · exact .inr ⟨g, c, h1, h2.alloc _, h3⟩
theorem VLB.drewN {w : World} {B : Nat} {v : Value} {L : List Nat} (h : VLB w B v L) (k : Nat) : VLB (w.drewN k) B v L := by
  rcases h with h | ⟨g, c, h1, h2, h3⟩
  · exact .inl h
  · exact .inr ⟨g, c, h1, h2.drewN k, h3⟩
theorem VLB.len {w : World} {B : Nat} {v : Value} {L : List Nat} (h : VLB w B v L) : ∃ a c, v = .slice a L.length c := by
  rcases h with ⟨rfl, rfl⟩ | ⟨g, c, rfl, _⟩
  · exact ⟨_, _, rfl⟩
  · exact ⟨_, _, rfl⟩
/-- One number onto such a list. -/
theorem wpList_push {P : Program} {ops : Array Oper} {rest : List Oper} {o : Oper} {a : Act} {Q : Exit → Act → World → Prop} {w : World} {B b c : Nat} {v : Value} {L : List Nat} {k : Nat} {sl x : Operand} (hE : ElemTy P 34 2 1 8) (hgd : o.guard = none) (ho : o.op = .call { callee := .builtin .append, args := #[sl, x], argTypes := #[34, 34] }) (hv : a.eval sl = v) (hx : a.eval x = .slice (some ⟨b, 0, none⟩) 1 c) (hL : VLB w B v L) (hl6 : L.length ≤ 64) (hb : Blk w b #[.int .i64 k] 2) (hB : B ≤ w.heap.size)
    (h : ∀ g c w', Own w' g 2 1 (.slice (some ⟨g, 0, none⟩) (L.length + 1) c) (L.length + 1) (ils (L ++ [k])) → B ≤ g → w.grownBy w' v.ownBlock → wpList P ops Q rest (a.put o.dst (.slice (some ⟨g, 0, none⟩) (L.length + 1) c)) w') : wpList P ops Q (o :: rest) a w := by
  refine wpList_plain hgd fun K hK => ?_
  rcases hL with ⟨rfl, rfl⟩ | ⟨g, cp, rfl, hown, hg⟩
  · obtain ⟨g', c', w', hr, h2, h3, h4⟩ := run_app_nil (P := P) (w := w) (ty := o.type) (ad := ⟨b, 0, none⟩) (c := c) (m := 1) (news := [.int .i64 k]) hE Nat.one_pos Nat.one_pos rfl hb.at (by simp [Value.oneCell']) (by decide) (by decide)
    unfold Oper.wp execOp
    simp only [ho, resolve, invoke, builtin, Sem.run_bind, Sem.run_pure, Result.andThen_ok, List.map_toArray, List.map_cons, List.map_nil, hv, hx, hr]
    have e : ils ([] ++ [k]) = [.int .i64 k] := by simp [ils]
    exact hK _ _ (h g' c' w' (by rw [e]; exact h2) (by omega) ⟨h3.os, h3.tape, h3.output, h3.size, fun b hb _ => h3.block b hb⟩)
  · obtain ⟨g', c', w', hr, h2, h3, h4⟩ := run_app2 (P := P) (ty := o.type) hE hown (ad := ⟨b, 0, none⟩) (c := c) (m := 1) (news := [.int .i64 k]) rfl hb.at (by simp [Value.oneCell']) (by unfold maxLen; omega) (by omega)
    unfold Oper.wp execOp
    simp only [ho, resolve, invoke, builtin, Sem.run_bind, Sem.run_pure, Result.andThen_ok, List.map_toArray, List.map_cons, List.map_nil, hv, hx, hr]
    rw [ils_snoc] at h2
    exact hK _ _ (h g' c' w' h2 (by rcases h4 with ⟨e, _⟩ | ⟨e, _⟩ <;> omega) h3)

theorem VLB.row_ne {w : World} {B b : Nat} {v : Value} {L : List Nat} (h : VLB w B v L) (hb : b < B) : v.ownBlock ≠ some b := by
  rcases h with ⟨_, rfl⟩ | ⟨g, c, rfl, _, h3⟩
  · intro e; cases e
  · intro e
    have : g = b := by injection e
    omega
theorem VLB.row_ge {w : World} {B : Nat} {v : Value} {L : List Nat} (h : VLB w B v L) : ∀ q, v.ownBlock = some q → B ≤ q := by
  intro q e
  rcases h with ⟨_, rfl⟩ | ⟨g, c, rfl, _, h3⟩
  · cases e
  · have : g = q := by injection e
    omega
theorem VLB.row_own {w : World} {B : Nat} {v : Value} {L : List Nat} (h : VLB w B v L) {g : Nat} {e : TypeId} {s n : Nat} {u : Value} {xs : List Value} (ho : Own w g e s u n xs) (ht : e ≠ 2) : v.ownBlock ≠ some g := by
  rcases h with ⟨_, rfl⟩ | ⟨g', c, rfl, h', _⟩
  · intro e; cases e
  · intro e1
    have : g' = g := by injection e1
    exact own_ne2 ho h' ht this.symm
theorem bit_mod (s i : Nat) : ((s : Int) / 2 ^ i) % 2 = if bitB s i then 1 else 0 := by
  have e : (s : Int) / 2 ^ i = ((s / 2 ^ i : Nat) : Int) := by simp
  rw [e]
  unfold bitB
  have : s / 2 ^ i % 2 < 2 := Nat.mod_lt _ (by decide)
  by_cases h : s / 2 ^ i % 2 = 1
  · rw [h]; simp; omega
  · have : s / 2 ^ i % 2 = 0 := by omega
    rw [this]; simp; omega
/-- A choice in the reference: its list's value, which permits it has. -/
abbrev RecV := Value × Nat
def cellsV (m : Nat) (Q : Nat → Pm) (E : List RecV) : List Value := E.flatMap fun r => [r.1, .int .i64 (sumOf Q (picks r.2 m))]
theorem cellsV_snoc (m : Nat) (Q : Nat → Pm) (E : List RecV) (r : RecV) : cellsV m Q (E ++ [r]) = cellsV m Q E ++ [r.1, .int .i64 (sumOf Q (picks r.2 m))] := by unfold cellsV; rw [List.flatMap_append]; simp
theorem elSCh : ElemTy Tryz.prog 72 75 2 32 := elem_of (z := .agg #[.slice none 0 0, .int .i64 0]) Tryz.underlying72 (by kernel_rfl) rfl
theorem rowSCh : RowTy Tryz.prog 75 2 := ⟨_, Tryz.underlying75, rfl, by kernel_rfl⟩
/-- What l07Choices gives. -/
def ChosenV (w : World) (m : Nat) (Q : Nat → Pm) (K : List Nat → Bool) (e : Ending) (w' : World) : Prop :=
  ∃ (go cap : Nat) (E : List RecV), e = .returned (.slice (some ⟨go, 0, none⟩) E.length cap) ∧ w.heap.size ≤ go ∧ E.length ≤ 64 ∧ Own w' go 75 2 (.slice (some ⟨go, 0, none⟩) E.length cap) E.length (cellsV m Q E) ∧ (∀ r, r ∈ E → VLB w' w.heap.size r.1 (picks r.2 m)) ∧ E.map Prod.snd = keptTo K m (2 ^ m) ∧ Below w.heap.size w w'
set_option maxRecDepth 100000 in
set_option maxHeartbeats 1000000 in
theorem l07Choices_any (g : Gr) (b : Nat) (v u : Value) (n m : Nat) (P : Nat → Wt) (Q : Nat → Pm) (hg : g.ok) (hvg : validG g = true) (hQ : cellsIn g m Q) (hQk : ∀ i, i < m → (Q i).ok) (hP : watchIn n P) (hm : m ≤ 6) (w : World) (hb : Blk w b (ofc g v) 42) (hv : WSl w v n P) (hu : PSl w u m Q) :
    Calls Tryz.prog 34 #[.pointer (some ⟨b, 0, none⟩), u] w (ChosenV w m Q (grK g n P Q)) := by
  obtain ⟨a, c', rfl, hc1, hc2, hcell⟩ := hu
  unfold maxLen at hc2
  have HC := Lib.hid hcell
  have HQ := Lib.hid hQ
  have HQK := Lib.hid hQk
  clear hcell hQ hQk
  have lb := hb.lt
  have hke := fun (L : List Nat) (hL : ∀ i, i ∈ L → i < m) w' (hbl : Below w.heap.size w w') z h3 => l07Kept_any g b v z n L.length P (pickP Q L) hg hvg (pickP_in HQ.out hL) hP w' (hb.ogat.below hbl lb) (((hb.below hbl lb).cell _).trans (ofc_last _ _)) (hv.below hbl) h3
  obtain ⟨K, hK⟩ : ∃ K, K = grK g n P Q := ⟨_, rfl⟩
  have HK := Lib.hid hK
  clear hK
  have hmm : (m : Int) ≤ 6 := by omega
  have hm0 : (0 : Int) ≤ m := by omega
  obtain ⟨N, hNm⟩ : ∃ N, N = 2 ^ m := ⟨_, rfl⟩
  have hN64 : N ≤ 64 := by rw [hNm]; exact Nat.pow_le_pow_right (n := 2) (by omega) hm
  have hNw : wrap64 ((2 : Int) ^ m) = (N : Int) := by
    have e : ((2 : Int) ^ m) = ((2 ^ m : Nat) : Int) := by simp
    rw [e, ← hNm]; unfold wrap64; omega
  have HN := Lib.hid hNm
  clear hNm
  go_enter Tryz.func34, Tryz.ntmps34
  go_upto_region 2 with fail
  have hO : Own (w.alloc (.cells #[] 75)) w.heap.size 75 2 (.slice (some ⟨w.heap.size, 0, none⟩) 0 0) 0 (cellsV m Q []) := own_blk (Blk.new _ _ _) rfl (by decide) rfl
  have hbel := below1 w (.cells #[] 75)
  generalize w.alloc (.cells #[] 75) = W at *
  go_upto_region 3 with fail
  go_loopw [5, 6] (fun y i wr => ∃ (k go : Nat) (E : List RecV), k ≤ N ∧ i = .int .i64 k ∧ Hid (E.map Prod.snd = keptTo K m k) ∧ Own wr go 75 2 y E.length (cellsV m Q E) ∧ Hid (∀ r, r ∈ E → VLB wr w.heap.size r.1 (picks r.2 m)) ∧ w.heap.size ≤ go ∧ E.length ≤ k ∧ Below w.heap.size w wr) (fun _ i _ => N - (intOf i).toNat)
  case atStart => exact ⟨0, _, [], by omega, rfl, Lib.hid rfl, hO, Lib.hid (fun r hr => by cases hr), by omega, by simp, hbel⟩
  case round =>
    clear hO hbel
    obtain ⟨k, go, E, hk, rfl, hD, hO, hL, hgo, hDl, hbel⟩ := hrel
    by_cases hlt : k < N
    · have bk : (0 : Int) ≤ k := by omega
      have bl : (k : Int) < N := by omega
      have bl2 : (k : Int) < wrap64 ((2 : Int) ^ m) := by rw [hNw]; exact bl
      go_upto_region 8 with fail
      obtain ⟨wo, rfl⟩ : ∃ wo : World, wo = wr := ⟨_, rfl⟩
      have hA : Blk ((wo.alloc (.cells #[.slice none 0 0, .int .i64 0] 75)).alloc (.cells #[] 64)) wo.heap.size #[.slice none 0 0, .int .i64 0] 75 := (Blk.new _ _ _).alloc _
      have hG : Own ((wo.alloc (.cells #[.slice none 0 0, .int .i64 0] 75)).alloc (.cells #[] 64)) (wo.heap.size + 1) 64 3 (.slice (some ⟨wo.heap.size + 1, 0, none⟩) 0 0) 0 (pls 0 (pickP Q [])) := own_blk (Blk.new1 _ _ _ _) rfl (by decide) (by rw [pls_zero])
      have hb3 := below2 wo (.cells #[.slice none 0 0, .int .i64 0] 75) (.cells #[] 64)
      generalize ((wo.alloc (.cells #[.slice none 0 0, .int .i64 0] 75)).alloc (.cells #[] 64)) = W2 at *
      have hzw : w.heap.size ≤ wo.heap.size := hbel.size
      generalize hz : wo.heap.size = z at *
      have hz1 : z ≤ wo.heap.size := by omega
      have hz2 : wo.heap.size ≤ z := by omega
      clear hz
      go_loopw [8, 9] (fun y i wr => ∃ (j gb : Nat) (vx : Value), j ≤ m ∧ i = .int .i64 j ∧ Blk wr z #[vx, .int .i64 (sumOf Q (picks k j))] 75 ∧ VLB wr (z + 1) vx (picks k j) ∧ Own wr gb 64 3 y (picks k j).length (pls (picks k j).length (pickP Q (picks k j))) ∧ z + 1 ≤ gb ∧ Below z wo wr) (fun _ i _ => m - (intOf i).toNat)
      case atStart => exact ⟨0, z + 1, _, by omega, rfl, hA, .inl ⟨rfl, rfl⟩, hG, by omega, hb3⟩
      case round =>
        clear hA hG hb3
        obtain ⟨j, gb, vx, hj, rfl, hA, hV, hG, hgb, hb3⟩ := hrel
        by_cases hjm : j < m
        · obtain ⟨b', o, rfl, hb', hcell⟩ := HC.out.resolve_left (by omega)
          have hb'z : b' < z := by omega
          have hb3w := hbel.trans (hb3.mono hzw)
          have e0 : wr.cell? ⟨b', o + j * 3, none⟩ = some (.int .i8 (Q j).own) := (hb3w.cell (p := ⟨b', _, none⟩) hb').trans ((hcell j 0 hjm (by omega)).trans (Q j).get0)
          have e1 : wr.cell? ⟨b', o + j * 3 + 1, none⟩ = some (.int .i8 (Q j).cel) := (hb3w.cell (p := ⟨b', _, none⟩) hb').trans ((hcell j 1 hjm (by omega)).trans (Q j).get1)
          have e2 : wr.cell? ⟨b', o + j * 3 + 2, none⟩ = some (.int .i16 (Q j).rat) := (hb3w.cell (p := ⟨b', _, none⟩) hb').trans ((hcell j 2 hjm (by omega)).trans (Q j).get2)
          have hcell2 := hcell
          clear hcell hb3w
          have bj : (0 : Int) ≤ j := by omega
          have bm : (j : Int) < m := by omega
          have b64 : (j : Int) < 64 := by omega
          have hnn : (0 : Int) ≤ (k : Int) / 2 ^ j := by
            have e : (k : Int) / 2 ^ j = ((k / 2 ^ j : Nat) : Int) := by simp
            rw [e]; exact Int.natCast_nonneg _
          have hbt := bit_mod k j
          have hps := picks_succ k j
          cases hbv : bitB k j <;> rw [hbv] at hbt hps
          · have HPS := Lib.hid (show picks k (j + 1) = picks k j from hps)
            have hbt : ((k : Int) / 2 ^ j) % 2 = 0 := hbt
            clear hps hbv
            go_wp2_with fail
            go_roundw
            case rel => exact ⟨j + 1, gb, vx, by omega, by go_num, by rw [HPS.out]; exact hA, by rw [HPS.out]; exact hV, by rw [HPS.out]; exact hG, hgb, hb3⟩
            case measure => simp [intOf]; omega
          · have HPS := Lib.hid (show picks k (j + 1) = picks k j ++ [j] from hps)
            have hbt : ((k : Int) / 2 ^ j) % 2 = 1 := hbt
            clear hps hbv
            have hpl := picks_length k j
            have hsb := sumOf_bd HQK.out (L := picks k j) (fun i hi => by have := picks_lt hi; omega)
            have hrb := (HQK.out j hjm).2.2
            obtain ⟨sb1, sb2⟩ := hsb
            obtain ⟨rb1, rb2⟩ := hrb
            have sb3 : -200000 ≤ sumOf Q (picks k j) := by omega
            have sb4 : sumOf Q (picks k j) ≤ 200000 := by omega
            clear sb1 sb2 e0 e1 e2
            have c0 : wr.cell? ⟨z, 0, none⟩ = some vx := hA.cell 0
            have hsz := hb3.size
            go_upto_region 12 with (first | (at_builtin; refine wpList_push (v := vx) elI64 rfl rfl rfl rfl (hV.alloc _) (by omega) (Blk.new _ _ _) (by simp; omega) ?_; intro g1 c1 w3 hO1 hg1 hgr1; have hA3 := (hA.alloc (.cells #[.int .i64 j] 2)).grown hgr1 (hV.row_ne (by omega)); have hG3 := (hG.alloc (.cells #[.int .i64 j] 2)).grown hgr1 (hV.row_own hG (by decide))) | (refine wpList_store_cell (v := .slice (some ⟨g1, 0, none⟩) _ _) rfl rfl rfl rfl szSl rfl rfl hA3 (by simp) ?_; intro w4 hA4 hgr4))
            have hg1' := hg1
            have hA5 : Blk w4 z #[.slice (some ⟨g1, 0, none⟩) ((picks k j).length + 1) c1, .int .i64 (sumOf Q (picks k j))] 75 := hA4
            have hO4 := hO1.grown hgr4 (fun e => by have := Option.some.inj e; omega)
            have hG4 := hG3.grown hgr4 (fun e => by have := Option.some.inj e; omega)
            have hb3' := (hb3.alloc (by omega) (.cells #[.int .i64 j] 2)).grown hgr1 (by simp; omega) (fun q e => by have := hV.row_ge q e; omega)
            have hb4 : Below z wo w4 := hb3'.grown hgr4 (by have := hb3'.size; omega) (fun q e => by have := Option.some.inj e; omega)
            clear hb3'
            have hb4w := hbel.trans (hb4.mono hzw)
            have n7 := own_ne2 hO4 hG4 (by decide)
            clear hA hV hG hb3 hA3 hG3 hO1 hgr1 hA4 hgr4 c0 hsz
            generalize hSum : sumOf Q (picks k j) = Sm at *
            generalize hLL : picks k j = L at *
            have HT := Lib.hid (pickP_pls Q L j)
            have HSM := Lib.hid hSum
            have hlen : (L ++ [j]).length = L.length + 1 := by simp
            have HLN := Lib.hid hlen
            clear hSum hLL hlen
            have hwz : IntKind.i64.wrap (Sm + (Q j).rat) = Sm + (Q j).rat := by rw [IntKind.wrap_i64]; omega
            have hwr : IntKind.i64.wrap (Q j).rat = (Q j).rat := by rw [IntKind.wrap_i64]; omega
            have c1z : w4.cell? ⟨z, 1, none⟩ = some (.int .i64 Sm) := hA5.cell 1
            have f1z := hA5.free 1
            have e2 : w4.cell? ⟨b', o + j * 3 + 2, none⟩ = some (.int .i16 (Q j).rat) := (hb4w.cell (p := ⟨b', _, none⟩) hb').trans ((hcell2 j 2 hjm (by omega)).trans (Q j).get2)
            refine wp_tailL rfl (C := fun w' => ∃ n, w' = w4.drewN n) (R := fun _ _ => True) (F := fun _ dd vv => match dd, vv with
              | 39, vv => vv = .pointer (some ⟨z, 1, none⟩)
              | 40, vv => vv = .int .i64 Sm
              | 41, vv => vv = .slice (some ⟨b', o, none⟩) m c'
              | 42, vv => vv = .int .i64 j
              | 43, vv => vv = .pointer (some ⟨b', o + j * 3, none⟩)
              | 44, vv => vv = .pointer (some ⟨b', o + j * 3 + 2, none⟩)
              | 45, vv => vv = .int .i16 ((Q j).rat)
              | 46, vv => vv = .int .i64 ((Q j).rat)
              | 47, vv => vv = .int .i64 (Sm + (Q j).rat)
              | 48, vv => vv = .pointer (some ⟨z, 1, none⟩)
              | _, _ => True) (fun _ _ _ _ _ h => h) (by kernel_rfl) (by kernel_rfl) rfl rfl (by kernel_rfl) ⟨1, rfl⟩ ?_ ?_
            · refine ⟨step_go rfl fun ev w1 hC kn => ?_, ?_⟩
              · have e1 : ev (.tmp 7) = .pointer (some ⟨z, 0, none⟩) := kn.out 7 rfl rfl rfl
                exact good_of (v := .pointer (some ⟨z, 1, none⟩)) rfl (by simp only [execOp, e1]; rfl) hC trivial rfl
              refine ⟨step_go rfl fun ev w1 hC kn => ?_, ?_⟩
              · have e1 : ev (.tmp 39) = .pointer (some ⟨z, 1, none⟩) := kn.inn 39 rfl rfl
                obtain ⟨nn, rfl⟩ := hC
                exact good_of (v := .int .i64 Sm) rfl (by simp [execOp, e1, go_sem, c1z]) ⟨nn, rfl⟩ trivial rfl
              refine ⟨step_go rfl fun ev w1 hC kn => ?_, ?_⟩
              · have e1 : ev (.tmp 1) = .slice (some ⟨b', o, none⟩) m c' := kn.out 1 rfl rfl rfl
                exact good_of (v := .slice (some ⟨b', o, none⟩) m c') rfl (by simp [execOp, e1, kn.con, go_sem]) hC trivial rfl
              refine ⟨step_go rfl fun ev w1 hC kn => ?_, ?_⟩
              · have e1 : ev (.tmp 9) = .int .i64 j := kn.out 9 rfl rfl rfl
                exact good_of (v := .int .i64 j) rfl (by simp [execOp, e1, kn.con, go_sem]) hC trivial rfl
              refine ⟨step_go rfl fun ev w1 hC kn => ?_, ?_⟩
              · have e1 : ev (.tmp 41) = .slice (some ⟨b', o, none⟩) m c' := kn.inn 41 rfl rfl
                have e2 : ev (.tmp 42) = .int .i64 j := kn.inn 42 rfl rfl
                exact good_of (v := .pointer (some ⟨b', o + j * 3, none⟩)) rfl (by simp [execOp, e1, e2, kn.con, go_sem, bm, bj]) hC trivial rfl
              refine ⟨step_go rfl fun ev w1 hC kn => ?_, ?_⟩
              · have e1 : ev (.tmp 43) = .pointer (some ⟨b', o + j * 3, none⟩) := kn.inn 43 rfl rfl
                exact good_of (v := .pointer (some ⟨b', o + j * 3 + 2, none⟩)) rfl (by simp only [execOp, e1]; rfl) hC trivial rfl
              refine ⟨step_go rfl fun ev w1 hC kn => ?_, ?_⟩
              · have e1 : ev (.tmp 44) = .pointer (some ⟨b', o + j * 3 + 2, none⟩) := kn.inn 44 rfl rfl
                obtain ⟨nn, rfl⟩ := hC
                exact good_of (v := .int .i16 ((Q j).rat)) rfl (by simp [execOp, e1, go_sem, e2]) ⟨nn, rfl⟩ trivial rfl
              refine ⟨step_go rfl fun ev w1 hC kn => ?_, ?_⟩
              · have e1 : ev (.tmp 45) = .int .i16 ((Q j).rat) := kn.inn 45 rfl rfl
                exact good_of (v := .int .i64 ((Q j).rat)) rfl (by simp [execOp, e1, go_sem, hwr]) hC trivial rfl
              refine ⟨step_go rfl fun ev w1 hC kn => ?_, ?_⟩
              · have e1 : ev (.tmp 40) = .int .i64 Sm := kn.inn 40 rfl rfl
                have e2 : ev (.tmp 46) = .int .i64 ((Q j).rat) := kn.inn 46 rfl rfl
                exact good_of (v := .int .i64 (Sm + (Q j).rat)) rfl (by simp [execOp, e1, e2, kn.con, go_sem, hwz]) hC trivial rfl
              refine ⟨step_go rfl fun ev w1 hC kn => ?_, ?_⟩
              · have e1 : ev (.tmp 7) = .pointer (some ⟨z, 0, none⟩) := kn.out 7 rfl rfl rfl
                exact good_of (v := .pointer (some ⟨z, 1, none⟩)) rfl (by simp only [execOp, e1]; rfl) hC trivial rfl
              exact trivial
            rintro xv w1 hxv hC
            have y47 : xv 47 = .int .i64 (Sm + (Q j).rat) := hxv 47 (by decide)
            have y48 : xv 48 = .pointer (some ⟨z, 1, none⟩) := hxv 48 (by decide)
            obtain ⟨n, rfl⟩ := hC
            simp only [fill, dstsOf, List.filterMap_cons, List.filterMap_nil, List.foldl_cons, List.foldl_nil, List.set_cons_succ, List.set_cons_zero, y47, y48]
            clear hxv y47 y48
            refine ⟨(w4.drewN n).setCell ⟨z, 1, none⟩ (.int .i64 (Sm + (Q j).rat)), by simp [execOp, Act.eval, go_sem, c1z, f1z], ?_⟩
            have hA6 : Blk ((w4.drewN n).setCell ⟨z, 1, none⟩ (.int .i64 (Sm + (Q j).rat))) z #[.slice (some ⟨g1, 0, none⟩) (L.length + 1) c1, .int .i64 (Sm + (Q j).rat)] 75 := (hA5.drewN n).setCell 1 (.int .i64 (Sm + (Q j).rat))
            have hO6 := (hO4.drewN n).setOther (a := ⟨z, 1, none⟩) (.int .i64 (Sm + (Q j).rat)) (by show g1 ≠ z; omega)
            have hG6 := (hG4.drewN n).setOther (a := ⟨z, 1, none⟩) (.int .i64 (Sm + (Q j).rat)) (by show gb ≠ z; omega)
            have hb6 : Below z wo ((w4.drewN n).setCell ⟨z, 1, none⟩ (.int .i64 (Sm + (Q j).rat))) := (below_drewN hb4 n).setCell (p := ⟨z, 1, none⟩) (Nat.le_refl _) _
            generalize ((w4.drewN n).setCell ⟨z, 1, none⟩ (.int .i64 (Sm + (Q j).rat))) = W6 at *
            have hb6w := hbel.trans (hb6.mono hzw)
            have e0 : W6.cell? ⟨b', o + j * 3, none⟩ = some (.int .i8 (Q j).own) := (hb6w.cell (p := ⟨b', _, none⟩) hb').trans ((hcell2 j 0 hjm (by omega)).trans (Q j).get0)
            have e1 : W6.cell? ⟨b', o + j * 3 + 1, none⟩ = some (.int .i8 (Q j).cel) := (hb6w.cell (p := ⟨b', _, none⟩) hb').trans ((hcell2 j 1 hjm (by omega)).trans (Q j).get1)
            have e2 : W6.cell? ⟨b', o + j * 3 + 2, none⟩ = some (.int .i16 (Q j).rat) := (hb6w.cell (p := ⟨b', _, none⟩) hb').trans ((hcell2 j 2 hjm (by omega)).trans (Q j).get2)
            clear hA5 hO4 hG4 hb4 hb4w c1z f1z hwz hwr hbt hcell2
            have hz6 := hb6.size
            go_wp2_with (at_builtin; refine wpList_app elPm rfl rfl rfl rfl (by decide) (hG6.alloc _) (Blk.new _ _ _) rfl ?_ ?_ ?_ ?_; (· intro u hu; simp at hu; rcases hu with rfl | rfl | rfl <;> rfl); (· unfold maxLen; omega); (· omega); intro v1 w7 g2 hown1 hgr1 hg1)
            have hPC : #[Value.int .i8 (Q j).own, .int .i8 (Q j).cel, .int .i16 (Q j).rat] = (Q j).cells := (Q j).cells_eq.symm
            have hown2 : Own w7 g2 64 3 v1 (L.length + 1) (pls L.length (pickP Q L) ++ (Q j).cells.toList) := by rw [← hPC]; exact hown1
            have hb7 := (hb6.alloc (by omega) (.cells #[.int .i8 (Q j).own, .int .i8 (Q j).cel, .int .i16 (Q j).rat] 64)).grown hgr1 (by simp; omega) (fun q e => by have := Option.some.inj e; omega)
            have hA7 := (hA6.alloc (.cells #[.int .i8 (Q j).own, .int .i8 (Q j).cel, .int .i16 (Q j).rat] 64)).grown hgr1 (fun e => by have := Option.some.inj e; omega)
            have hO7 := (hO6.alloc (.cells #[.int .i8 (Q j).own, .int .i8 (Q j).cel, .int .i16 (Q j).rat] 64)).grown hgr1 (fun e => n7 (Option.some.inj e).symm)
            have hg2 : z + 1 ≤ g2 := by rcases hg1 with h | h; (· omega); (· rw [h]; simp; omega)
            clear hown1 hgr1 hg1 hA6 hO6 hG6 hb6 hb6w e0 e1 e2 hPC
            rw [← HT.out, ← HLN.out] at hown2
            rw [← HLN.out] at hO7
            rw [← HLN.out, ← HSM.out, ← sumOf_snoc] at hA7
            rw [← HPS.out] at hO7 hown2 hA7
            go_roundw
            case rel => exact ⟨j + 1, by omega, by omega, g2, _, hA7, .inr ⟨g1, c1, rfl, hO7, hg1'⟩, hown2, hg2, hb7⟩
            case measure => simp [intOf]; omega
        · obtain rfl : j = m := by omega
          have hbw := hbel.trans (hb3.mono hzw)
          have hk1 := hke (picks k j) (fun i hi => picks_lt hi) wr hbw _ hG.psl
          rw [show keptB g n P (picks k j).length (pickP Q (picks k j)) = K (picks k j) by rw [HK.out]; rfl] at hk1
          have hks := keptTo_succ K j k
          have lO := hO.lt
          have HLR : Hid (∀ r, r ∈ E → ∀ g c, r.1 = .slice (some ⟨g, 0, none⟩) (picks r.2 j).length c → g < z) := Lib.hid fun r hr g c e => by
            rcases hL.out r hr with ⟨_, h⟩ | ⟨g', c', h, h', _⟩
            · rw [h] at e; cases e
            · rw [h] at e; injection e with e; injection e with e; injection e with e
              have := h'.lt; omega
          have lA := hA.lt
          have hsz := hb3.size
          clear hNw bl2
          cases hKv : K (picks k j) <;> rw [hKv] at hk1 hks
          · have HKS := Lib.hid (show keptTo K j (k + 1) = keptTo K j k from hks)
            clear hks hKv
            go_wp2_with (go_at_call 57; refine hk1.mono ?_; rintro e w5 ⟨rfl, hb5⟩)
            have hb35 := hb3.trans (hb5.mono (by omega))
            go_roundw
            case rel => exact ⟨k + 1, go, E, by omega, by go_num, Lib.hid (by rw [HKS.out]; exact hD.out), hO.below hb35 (by omega), Lib.hid (fun r hr => (hL.out r hr).low (HLR.out r hr) hb35), hgo, by omega, hbw.trans (hb5.mono hbw.size)⟩
            case measure => simp [intOf]; omega
          · have HKS := Lib.hid (show keptTo K j (k + 1) = keptTo K j k ++ [k] from hks)
            clear hks hKv
            go_upto_region 15 with (go_at_call 57; refine hk1.mono ?_; rintro e w5 ⟨rfl, hb5⟩)
            have hb35 := hb3.trans (hb5.mono (by omega))
            have hO5 := hO.below hb35 (by omega)
            have hA5 := hA.below hb5 lA
            have hV5 := hV.below hb5 rfl
            have hb05 := hbw.trans (hb5.mono hbw.size)
            have HR := Lib.hid (cellsV_snoc j Q E (vx, k))
            have HL5 : Hid (∀ r, r ∈ E → VLB w5 w.heap.size r.1 (picks r.2 j)) := Lib.hid (fun r hr => (hL.out r hr).low (HLR.out r hr) hb35)
            have hD64 : E.length ≤ 64 := by omega
            have hsz5 := hb05.size
            clear hb3 hb5 hb35 hG hA hV hL hO hk1 lA HLR
            have hvo : vx.oneCell' = true := by
              obtain ⟨a, c, h⟩ := hV5.len
              rw [h]; rfl
            go_wp2_with (first | (refine wpList_load_blk rfl rfl rfl rowSCh hA5 rfl ?_) | (at_builtin; refine wpList_app elSCh rfl rfl rfl rfl Nat.two_pos (hO5.alloc _) (Blk.new _ _ _) rfl ?_ ?_ ?_ ?_; (· intro u hu; simp at hu; rcases hu with rfl | rfl; (· exact hvo); (· rfl)); (· unfold maxLen; omega); (· omega); intro v1 w6 go' hown1 hgr1 hg1))
            have hown2 : Own w6 go' 75 2 v1 (E ++ [(vx, k)]).length (cellsV j Q (E ++ [(vx, k)])) := by
              rw [HR.out, List.length_append]; exact hown1
            have hOB := (hO5.alloc (.cells #[vx, .int .i64 (sumOf Q (picks k j))] 75))
            obtain ⟨_, _, _, _, hOBlk, _⟩ := hOB
            have HL6 : Hid (∀ r, r ∈ E ++ [(vx, k)] → VLB w6 w.heap.size r.1 (picks r.2 j)) := Lib.hid fun r hr => by
              rcases List.mem_append.1 hr with h | h
              · exact ((HL5.out r h).alloc _).grown hgr1 hOBlk (by decide)
              · rw [List.mem_singleton] at h; subst h
                have h2 := (hV5.alloc (.cells #[vx, .int .i64 (sumOf Q (picks k j))] 75)).grown hgr1 hOBlk (by decide)
                rcases h2 with h2 | ⟨g, c, q1, q2, q3⟩
                · exact .inl h2
                · exact .inr ⟨g, c, q1, q2, by omega⟩
            have hD6 : Hid ((E ++ [(vx, k)]).map Prod.snd = keptTo K j (k + 1)) := Lib.hid (by rw [HKS.out, List.map_append, hD.out]; rfl)
            have hb06 := (hb05.alloc hsz5 (.cells #[vx, .int .i64 (sumOf Q (picks k j))] 75)).grown hgr1 (by simp; omega) (fun k hk => by injection hk with hk; omega)
            have hgo' : w.heap.size ≤ go' := by
              rcases hg1 with h | h
              · omega
              · rw [h]; simp; omega
            clear hown1 hgr1 hg1 HL5 hb05 hO5 hA5 hbw hOBlk hV5
            go_roundw
            case rel => exact ⟨k + 1, go', _, by omega, by go_num, hD6, hown2, HL6, hgo', by simp; omega, hb06⟩
            case measure => simp [intOf]; omega
    · obtain rfl : k = N := by omega
      clear hke hb hv
      obtain ⟨cap, rfl, hcap1, hcap2⟩ := hO.form
      go_wp2_with fail
      go_ret
      exact ⟨go, cap, E, rfl, hgo, by omega, hO, hL.out, by rw [hD.out, HN.out, HK.out], hbel⟩
end Go.Proofs.YtokdpmpgonafmaaGreat
