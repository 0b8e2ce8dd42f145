import Derived.Test.YtokdpmpgonafmaaGreatMG29
/- All choices of permits that are kept, in the program (choices), sorted. -/
namespace Go.Proofs.YtokdpmpgonafmaaGreat
open Go.ChangeShapes Go.WideShapes Go.ChangeAt Go.RowKit
set_option linter.unusedVariables false
set_option linter.unusedSimpArgs false
/-- What choices gives. -/
def Chosen (w : World) (m : Nat) (Q : Nat → Pm) (K : List Nat → Bool) (e : Ending) (w' : World) : Prop :=
  ∃ (go cap : Nat) (D : List Rec), e = .returned (.slice (some ⟨go, 0, none⟩) D.length cap) ∧ go < w'.heap.size ∧ w.heap.size ≤ go ∧ D.length ≤ 64 ∧ RecsAt w' go m Q D ∧ (∀ r, r ∈ D → Lies w' m w.heap.size r) ∧ (D.map Rec.s).Perm (keptTo K m (2 ^ m)) ∧ (∀ (i j : Nat) (r s : Rec), i < j → D[i]? = some r → D[j]? = some s → ¬ cmpL (picks s.s m) (picks r.s m) < 0) ∧ Below w.heap.size w w'
attribute [local irreducible] Calls
set_option maxRecDepth 100000 in
set_option maxHeartbeats 1000000 in
theorem choices_any (g : Gr) (b : Nat) (v u : Value) (n m : Nat) (P : Nat → Wt) (Q : Nat → Pm) (hg : g.ok) (hvg : validG g = true) (hQ : cellsIn g m Q) (hQk : ∀ i, i < m → (Q i).ok) (hP : watchIn n P) (hm : m ≤ 6) (w : World) (hb : Blk w b (ofc g v) 42) (hv : WSl w v n P) (hu : PSl w u m Q) :
    Calls Tryz.prog 66 #[.pointer (some ⟨b, 0, none⟩), u] w (Chosen w m Q (grK g n P Q)) := by
  obtain ⟨a, c', rfl, hc1, hc2, hcell⟩ := hu
  unfold maxLen at hc2
  have HC := Lib.hid hcell
  have HQ := Lib.hid hQ
  have HQK := Lib.hid hQk
  clear hcell hQ hQk
  have lb := hb.lt
  have hke := fun (L : List Nat) (hL : ∀ i, i ∈ L → i < m) w' (hbl : Below w.heap.size w w') z h3 => kept_any g b v z n L.length P (pickP Q L) hg hvg (pickP_in HQ.out hL) hP w' (hb.ogat.below hbl lb) (((hb.below hbl lb).cell _).trans (ofc_last _ _)) (hv.below hbl) h3
  obtain ⟨K, hK⟩ : ∃ K, K = grK g n P Q := ⟨_, rfl⟩
  have HK := Lib.hid hK
  clear hK
  have hmm : (m : Int) ≤ 6 := by omega
  have hm0 : (0 : Int) ≤ m := by omega
  obtain ⟨N, hNm⟩ : ∃ N, N = 2 ^ m := ⟨_, rfl⟩
  have hN64 : N ≤ 64 := by rw [hNm]; exact Nat.pow_le_pow_right (n := 2) (by omega) hm
  have hNw : wrap64 ((2 : Int) ^ m) = (N : Int) := by
    have e : ((2 : Int) ^ m) = ((2 ^ m : Nat) : Int) := by simp
    rw [e, ← hNm]; unfold wrap64; omega
  have HN := Lib.hid hNm
  clear hNm
  go_enter Tryz.func66, Tryz.ntmps66
  go_upto_region 3 with fail
  have hO : Own (w.alloc (.cells #[] 81)) w.heap.size 81 2 (.slice (some ⟨w.heap.size, 0, none⟩) 0 0) 0 (rls m Q []) := own_blk (Blk.new _ _ _) rfl (by decide) (by rw [rls_nil])
  have hbel := below1 w (.cells #[] 81)
  generalize w.alloc (.cells #[] 81) = W at *
  rw [hNw]
  clear hNw
  go_loopw [5, 15] (fun y i wr => ∃ (k go : Nat) (D : List Rec), k ≤ N ∧ i = .int .i64 k ∧ Hid (D.map Rec.s = keptTo K m k) ∧ Own wr go 81 2 y D.length (rls m Q D) ∧ Hid (∀ r, r ∈ D → Lies wr m w.heap.size r) ∧ w.heap.size ≤ go ∧ D.length ≤ k ∧ Below w.heap.size w wr) (fun _ i _ => N - (intOf i).toNat)
  case atStart => exact ⟨0, _, [], by omega, rfl, Lib.hid rfl, hO, Lib.hid (fun r hr => by cases hr), by omega, by simp, hbel⟩
  case round =>
    clear hO hbel
    obtain ⟨k, go, D, hk, rfl, hD, hO, hL, hgo, hDl, hbel⟩ := hrel
    by_cases hlt : k < N
    · have bk : (0 : Int) ≤ k := by omega
      have bl : (k : Int) < N := by omega
      go_upto_region 7 with fail
      obtain ⟨wo, rfl⟩ : ∃ wo : World, wo = wr := ⟨_, rfl⟩
      have hA := Blk.new2 wo (.cells #[] 2) (.cells #[] 64) #[.slice (some ⟨wo.heap.size, 0, none⟩) 0 0, .int .i64 0] 81
      have hE : Own (((wo.alloc (.cells #[] 2)).alloc (.cells #[] 64)).alloc (.cells #[.slice (some ⟨wo.heap.size, 0, none⟩) 0 0, .int .i64 0] 81)) wo.heap.size 2 1 (.slice (some ⟨wo.heap.size, 0, none⟩) 0 0) 0 (ils []) := own_blk (((Blk.new _ _ _).alloc _).alloc _) rfl (by decide) (by rw [ils_nil])
      have hG : Own (((wo.alloc (.cells #[] 2)).alloc (.cells #[] 64)).alloc (.cells #[.slice (some ⟨wo.heap.size, 0, none⟩) 0 0, .int .i64 0] 81)) (wo.heap.size + 1) 64 3 (.slice (some ⟨wo.heap.size + 1, 0, none⟩) 0 0) 0 (pls 0 (pickP Q [])) := own_blk ((Blk.new1 _ _ _ _).alloc _) rfl (by decide) (by rw [pls_zero])
      have hb3 := below3 wo (.cells #[] 2) (.cells #[] 64) (.cells #[.slice (some ⟨wo.heap.size, 0, none⟩) 0 0, .int .i64 0] 81)
      generalize (((wo.alloc (.cells #[] 2)).alloc (.cells #[] 64)).alloc (.cells #[.slice (some ⟨wo.heap.size, 0, none⟩) 0 0, .int .i64 0] 81)) = W2 at *
      obtain ⟨z, hz⟩ : ∃ z, z = wo.heap.size := ⟨_, rfl⟩
      rw [← hz] at hA hE hG hb3 ⊢
      have hzw : w.heap.size ≤ z := by have := hbel.size; omega
      obtain ⟨c7, hc7⟩ : ∃ c7, c7 = z + 1 + 1 := ⟨_, rfl⟩
      rw [← hc7] at hA ⊢
      have hz1 : z ≤ wo.heap.size := by omega
      have hz2 : wo.heap.size ≤ z := by omega
      have hc71 : z + 2 ≤ c7 := by omega
      have hc72 : c7 ≤ z + 2 := by omega
      clear hz hc7
      go_loopw [8, 23] (fun y i wr => ∃ (j gl gb cl cb : Nat), j ≤ m ∧ i = .int .i64 j ∧ Blk wr c7 #[.slice (some ⟨gl, 0, none⟩) (picks k j).length cl, .int .i64 (sumOf Q (picks k j))] 81 ∧ Own wr gl 2 1 (.slice (some ⟨gl, 0, none⟩) (picks k j).length cl) (picks k j).length (ils (picks k j)) ∧ y = .slice (some ⟨gb, 0, none⟩) (picks k j).length cb ∧ Own wr gb 64 3 (.slice (some ⟨gb, 0, none⟩) (picks k j).length cb) (picks k j).length (pls (picks k j).length (pickP Q (picks k j))) ∧ z ≤ gl ∧ z ≤ gb ∧ Below z wo wr) (fun _ i _ => m - (intOf i).toNat)
      case atStart => exact ⟨0, z, z + 1, 0, 0, by omega, rfl, hA, hE, rfl, hG, by omega, by omega, hb3⟩
      case round =>
        clear hA hE hG hb3
        obtain ⟨j, gl, gb, cl, cb, hj, rfl, hA, hE, rfl, hG, hgl, hgb, hb3⟩ := hrel
        by_cases hjm : j < m
        · obtain ⟨b', o, rfl, hb', hcell⟩ := HC.out.resolve_left (by omega)
          have hb'z : b' < z := by omega
          have hb3w := hbel.trans (hb3.mono hzw)
          have e0 : wr.cell? ⟨b', o + j * 3, none⟩ = some (.int .i8 (Q j).own) := (hb3w.cell (p := ⟨b', _, none⟩) hb').trans ((hcell j 0 hjm (by omega)).trans (Q j).get0)
          have e1 : wr.cell? ⟨b', o + j * 3 + 1, none⟩ = some (.int .i8 (Q j).cel) := (hb3w.cell (p := ⟨b', _, none⟩) hb').trans ((hcell j 1 hjm (by omega)).trans (Q j).get1)
          have e2 : wr.cell? ⟨b', o + j * 3 + 2, none⟩ = some (.int .i16 (Q j).rat) := (hb3w.cell (p := ⟨b', _, none⟩) hb').trans ((hcell j 2 hjm (by omega)).trans (Q j).get2)
          clear hcell hb3w
          have bj : (0 : Int) ≤ j := by omega
          have bm : (j : Int) < m := by omega
          have b64 : (j : Int) < 64 := by omega
          have hbt := bit_of k j (by omega)
          have hps := picks_succ k j
          cases hbv : bitB k j <;> rw [hbv] at hbt hps
          · have HPS := Lib.hid (show picks k (j + 1) = picks k j from hps)
            have hbt : bits .and .i64 ((k : Int) / 2 ^ j) 1 = 0 := hbt
            clear hps hbv
            go_wp2_with fail
            have hb4 := hb3.alloc (by have := hb3.size; omega) (.cells #[.int .i8 (Q j).own, .int .i8 (Q j).cel, .int .i16 (Q j).rat] 64)
            go_roundw
            case rel => exact ⟨j + 1, gl, gb, cl, cb, by omega, by go_num, by rw [HPS.out]; exact hA.alloc _, by rw [HPS.out]; exact hE.alloc _, by rw [HPS.out], by rw [HPS.out]; exact hG.alloc _, hgl, hgb, hb4⟩
            case measure => simp [intOf]; omega
          · have HPS := Lib.hid (show picks k (j + 1) = picks k j ++ [j] from hps)
            have hbt : bits .and .i64 ((k : Int) / 2 ^ j) 1 = 1 := hbt
            clear hps hbv
            have hpl := picks_length k j
            have hsb := sumOf_bd HQK.out (L := picks k j) (fun i hi => by have := picks_lt hi; omega)
            have hrb := (HQK.out j hjm).2.2
            obtain ⟨sb1, sb2⟩ := hsb
            obtain ⟨rb1, rb2⟩ := hrb
            have sb3 : -200000 ≤ sumOf Q (picks k j) := by omega
            have sb4 : sumOf Q (picks k j) ≤ 200000 := by omega
            clear sb1 sb2
            go_upto_region 10 with fail
            have hqb0 := hG.lt
            have hqc0 := hA.lt
            have hX := Blk.new wr #[.int .i8 (Q j).own, .int .i8 (Q j).cel, .int .i16 (Q j).rat] 64
            rw [← (Q j).cells_eq] at hX
            have hA := hA.alloc (.cells #[.int .i8 (Q j).own, .int .i8 (Q j).cel, .int .i16 (Q j).rat] 64)
            have hE := hE.alloc (.cells #[.int .i8 (Q j).own, .int .i8 (Q j).cel, .int .i16 (Q j).rat] 64)
            have hG := hG.alloc (.cells #[.int .i8 (Q j).own, .int .i8 (Q j).cel, .int .i16 (Q j).rat] 64)
            have hb4 := hb3.alloc (by have := hb3.size; omega) (.cells #[.int .i8 (Q j).own, .int .i8 (Q j).cel, .int .i16 (Q j).rat] 64)
            rw [← (Q j).cells_eq] at hA hE hG hb4
            rw [← (Q j).cells_eq]
            generalize wr.alloc (.cells (Q j).cells 64) = W3 at *
            generalize wr.heap.size = q at *
            clear e0 e1 e2 hb3
            generalize hSum : sumOf Q (picks k j) = Sm at *
            generalize hLL : picks k j = L at *
            have hwz : IntKind.i64.wrap (Sm + (Q j).rat) = Sm + (Q j).rat := by rw [IntKind.wrap_i64]; omega
            have hwr : IntKind.i64.wrap (Q j).rat = (Q j).rat := by rw [IntKind.wrap_i64]; omega
            have lE := hE.lt
            have lG := hG.lt
            have n1 := own_ne hA hE (by decide)
            have n2 := own_ne hA hG (by decide)
            have n3 := own_ne2 hE hG (by decide)
            have n4 := own_ne hX hE (by decide)
            have lX := hX.lt
            have n5 : q ≠ gb := by omega
            have lA7 := hA.lt
            have c7z : z ≤ c7 := by omega
            have n6 : c7 ≠ q := by omega
            have zW : z ≤ gl ∧ z ≤ gb ∧ z ≤ W3.heap.size := ⟨hgl, hgb, by omega⟩
            have hC0 : ChC W3 wo z c7 q gl gb (.slice (some ⟨gl, 0, none⟩) L.length cl) (.slice (some ⟨gb, 0, none⟩) L.length cb) Sm (Q j) L.length (ils L) (pls L.length (pickP Q L)) W3 := ⟨hA, hX, hE, hG, hb4, Nat.le_refl _⟩
            refine wp_pivotK 17 16 [40, 41, 42, 43, 44, 45, 46] (CE := ChC W3 wo z c7 q gl gb (.slice (some ⟨gl, 0, none⟩) L.length cl) (.slice (some ⟨gb, 0, none⟩) L.length cb) Sm (Q j) L.length (ils L) (pls L.length (pickP Q L))) (CL := ChL W3 wo z c7 q gl gb (.slice (some ⟨gb, 0, none⟩) L.length cb) Sm (Q j) L.length (ils L ++ [.int .i64 j]) (pls L.length (pickP Q L))) (R := fun w w' => Two gl (L.length * 1) [.int .i64 j] gb (L.length * 3) (Q j).cells.toList w w' ∨ w.grownBy w' (some c7)) (F := fun w dd vv => match dd, vv with
              | 33, vv => vv = .pointer (some ⟨c7, 0, none⟩)
              | 34, vv => vv = .slice (some ⟨gl, 0, none⟩) L.length cl
              | 35, vv => vv = .int .i64 j
              | 36, vv => ∃ r, vv = .slice (some ⟨r, 0, none⟩) 1 1 ∧ Blk w r #[.int .i64 j] 2 ∧ W3.heap.size ≤ r
              | 37, vv => ∃ g1 c1, vv = .slice (some ⟨g1, 0, none⟩) (L.length + 1) c1 ∧ Own w g1 2 1 (.slice (some ⟨g1, 0, none⟩) (L.length + 1) c1) (L.length + 1) (ils L ++ [.int .i64 j]) ∧ (g1 = gl ∨ W3.heap.size ≤ g1)
              | 38, vv => vv = .pointer (some ⟨c7, 1, none⟩)
              | 39, vv => vv = .int .i64 Sm
              | 40, vv => vv = .pointer (some ⟨q, 2, none⟩)
              | 41, vv => vv = .int .i16 (Q j).rat
              | 42, vv => vv = .int .i64 (Q j).rat
              | 43, vv => vv = .int .i64 (Sm + (Q j).rat)
              | 44, vv => vv = .slice (some ⟨gb, 0, none⟩) L.length cb
              | 45, vv => vv = .agg (Q j).cells
              | 46, vv => ∃ r, vv = .slice (some ⟨r, 0, none⟩) 1 1 ∧ Blk w r (Q j).cells 64 ∧ W3.heap.size ≤ r
              | 47, vv => ∃ g2 c2, vv = .slice (some ⟨g2, 0, none⟩) (L.length + 1) c2 ∧ Own w g2 64 3 (.slice (some ⟨g2, 0, none⟩) (L.length + 1) c2) (L.length + 1) (pls L.length (pickP Q L) ++ (Q j).cells.toList) ∧ (g2 = gb ∨ W3.heap.size ≤ g2)
              | 48, vv => vv = .pointer (some ⟨c7, 0, none⟩)
              | _, _ => True) ?_ (by kernel_rfl) (by kernel_rfl) (by kernel_rfl) (by kernel_rfl) (hC0.step (po := L.length * 1) (lo := []) (pb := L.length * 3) (lb := []) (Two.of_below (Below.refl _ _).drew) ⟨n1, n2⟩ ⟨n4, n5⟩ n3 (by omega) (by omega) zW) ?_ ?_
            · intro w1 w2 d v hR hF
              split at hF
              · exact hF
              · exact hF
              · exact hF
              · obtain ⟨r, h1, h2, h3⟩ := hF
                rcases hR with hR | hR
                · exact ⟨r, h1, hR.blk h2 (by omega) (by omega), h3⟩
                · exact ⟨r, h1, h2.grown hR (fun e => by injection e; omega), h3⟩
              · obtain ⟨g1, c1, h1, h2, h3⟩ := hF
                rcases hR with hR | hR
                · exact ⟨g1, c1, h1, hR.own h2 (fun _ => .inr ⟨ils L, rfl, by rw [ils_length]; omega⟩) (fun e => by exfalso; rcases h3 with h3 | h3 <;> omega), h3⟩
                · exact ⟨g1, c1, h1, h2.grown hR (fun e => by injection e; rcases h3 with h3 | h3 <;> omega), h3⟩
              · exact hF
              · exact hF
              · exact hF
              · exact hF
              · exact hF
              · exact hF
              · exact hF
              · exact hF
              · obtain ⟨r, h1, h2, h3⟩ := hF
                rcases hR with hR | hR
                · exact ⟨r, h1, hR.blk h2 (by omega) (by omega), h3⟩
                · exact ⟨r, h1, h2.grown hR (fun e => by injection e; omega), h3⟩
              · obtain ⟨g2, c2, h1, h2, h3⟩ := hF
                rcases hR with hR | hR
                · exact ⟨g2, c2, h1, hR.own h2 (fun e => by exfalso; rcases h3 with h3 | h3 <;> omega) (fun _ => .inr ⟨pls L.length (pickP Q L), rfl, by rw [pls_length]⟩), h3⟩
                · exact ⟨g2, c2, h1, h2.grown hR (fun e => by injection e; rcases h3 with h3 | h3 <;> omega), h3⟩
              · exact hF
              · trivial
            · refine ⟨step_ph rfl (step_go rfl fun ev w1 hC kn => ?_) (fun h => absurd h (by decide)), ?_⟩
              · have e1 : ev (.tmp 7) = .pointer (some ⟨c7, 0, none⟩) := kn.out 7 rfl rfl rfl
                exact good_of (v := .pointer (some ⟨c7, 0, none⟩)) rfl (by simp only [execOp, e1]; rfl) hC (.inl Two.refl) rfl
              refine ⟨step_ph rfl (step_go rfl fun ev w1 hC kn => ?_) (fun h => absurd h (by decide)), ?_⟩
              · have e1 : ev (.tmp 33) = .pointer (some ⟨c7, 0, none⟩) := kn.inn 33 rfl rfl
                have c1 : w1.cell? ⟨c7, 0, none⟩ = some (.slice (some ⟨gl, 0, none⟩) L.length cl) := hC.blk.cell 0
                exact good_of (v := .slice (some ⟨gl, 0, none⟩) L.length cl) rfl (by simp [execOp, e1, go_sem, c1]) hC (.inl Two.refl) rfl
              refine ⟨step_ph rfl (step_go rfl fun ev w1 hC kn => ?_) (fun h => absurd h (by decide)), ?_⟩
              · have e1 : ev (.tmp 9) = .int .i64 j := kn.out 9 rfl rfl rfl
                exact good_of (v := .int .i64 j) rfl (by simp [execOp, e1, go_sem]) hC (.inl Two.refl) rfl
              refine ⟨step_ph rfl (step_go rfl fun ev w1 hC kn => ?_) (fun h => absurd h (by decide)), ?_⟩
              · have e1 : ev (.tmp 35) = .int .i64 j := kn.inn 35 rfl rfl
                have ht : Two gl (L.length * 1) [.int .i64 j] gb (L.length * 3) (Q j).cells.toList w1 (w1.alloc (.cells #[.int .i64 j] 2)) := Two.of_below (below1 _ _)
                exact good_of (v := .slice (some ⟨w1.heap.size, 0, none⟩) 1 1) (w' := w1.alloc (.cells #[.int .i64 j] 2)) rfl (by simp [execOp, e1, kn.con, go_sem]) (hC.step ht ⟨n1, n2⟩ ⟨n4, n5⟩ n3 (by omega) (by omega) zW) (.inl ht) ⟨_, rfl, Blk.new _ _ _, hC.size⟩
              refine ⟨step_ph rfl (step_go rfl fun ev w1 hC kn => ?_) (fun h => absurd h (by decide)), ?_⟩
              · have e1 : ev (.tmp 34) = .slice (some ⟨gl, 0, none⟩) L.length cl := kn.inn 34 rfl rfl
                obtain ⟨r, e2, hr, hr2⟩ : ∃ r, ev (.tmp 36) = .slice (some ⟨r, 0, none⟩) 1 1 ∧ Blk w1 r #[.int .i64 j] 2 ∧ W3.heap.size ≤ r := kn.inn 36 rfl rfl
                obtain ⟨g1, c1, w2, hrun, ho, hgr, hcase⟩ := run_app2 (P := Tryz.prog) (ty := 34) elI64 hC.one (ad := ⟨r, 0, none⟩) (m := 1) (c := 1) (news := [.int .i64 j]) rfl hr.at (by simp [Value.oneCell']) (by unfold maxLen; omega) (by omega)
                have ht : Two gl (L.length * 1) [.int .i64 j] gb (L.length * 3) (Q j).cells.toList w1 w2 := by rcases hcase with ⟨_, h⟩ | ⟨_, h⟩; exact Two.of_below h; exact Two.left hgr h
                exact good_of (v := .slice (some ⟨g1, 0, none⟩) (L.length + 1) c1) (w' := w2) rfl (by simp only [execOp, resolve, invoke, builtin, Sem.run_bind, Sem.run_pure, Result.andThen_ok, List.map_toArray, List.map_cons, List.map_nil, e1, e2, hrun]) (hC.step ht ⟨n1, n2⟩ ⟨n4, n5⟩ n3 (by omega) (by omega) zW) (.inl ht) ⟨g1, c1, rfl, ho, by rcases hcase with ⟨h, _⟩ | ⟨h, _⟩; exact .inr (by have := hC.size; omega); exact .inl h⟩
              refine ⟨step_ph rfl (step_go rfl fun ev w1 hC kn => ?_) (fun h => absurd h (by decide)), ?_⟩
              · have e1 : ev (.tmp 7) = .pointer (some ⟨c7, 0, none⟩) := kn.out 7 rfl rfl rfl
                exact good_of (v := .pointer (some ⟨c7, 1, none⟩)) rfl (by simp only [execOp, e1]; rfl) hC (.inl Two.refl) rfl
              refine ⟨step_ph rfl (step_go rfl fun ev w1 hC kn => ?_) (fun h => absurd h (by decide)), ?_⟩
              · have e1 : ev (.tmp 38) = .pointer (some ⟨c7, 1, none⟩) := kn.inn 38 rfl rfl
                have c1 : w1.cell? ⟨c7, 1, none⟩ = some (.int .i64 Sm) := hC.blk.cell 1
                exact good_of (v := .int .i64 Sm) rfl (by simp [execOp, e1, go_sem, c1]) hC (.inl Two.refl) rfl
              refine ⟨step_ph rfl (step_go rfl fun ev w1 hC kn => ?_) (fun _ => step_go rfl fun ev w1 hC kn => ?_), ?_⟩
              · have e1 : ev (.tmp 10) = .pointer (some ⟨q, 0, none⟩) := kn.out 10 rfl rfl rfl
                exact good_of (v := .pointer (some ⟨q, 2, none⟩)) rfl (by simp only [execOp, e1]; rfl) hC (.inl Two.refl) rfl
              · have e1 : ev (.tmp 10) = .pointer (some ⟨q, 0, none⟩) := kn.out 10 rfl rfl rfl
                exact good_of (v := .pointer (some ⟨q, 2, none⟩)) rfl (by simp only [execOp, e1]; rfl) hC (.inl Two.refl) rfl
              refine ⟨step_ph rfl (step_go rfl fun ev w1 hC kn => ?_) (fun _ => step_go rfl fun ev w1 hC kn => ?_), ?_⟩
              · have e1 : ev (.tmp 40) = .pointer (some ⟨q, 2, none⟩) := kn.inn 40 rfl rfl
                have c1 : w1.cell? ⟨q, 2, none⟩ = some (.int .i16 (Q j).rat) := (hC.pm.cell 2).trans (Q j).get2
                exact good_of (v := .int .i16 (Q j).rat) rfl (by simp [execOp, e1, go_sem, c1]) hC (.inl Two.refl) rfl
              · have e1 : ev (.tmp 40) = .pointer (some ⟨q, 2, none⟩) := kn.inn 40 rfl rfl
                have c1 : w1.cell? ⟨q, 2, none⟩ = some (.int .i16 (Q j).rat) := (hC.pm.cell 2).trans (Q j).get2
                exact good_of (v := .int .i16 (Q j).rat) rfl (by simp [execOp, e1, go_sem, c1]) hC (.inl Two.refl) rfl
              refine ⟨step_ph rfl (step_go rfl fun ev w1 hC kn => ?_) (fun _ => step_go rfl fun ev w1 hC kn => ?_), ?_⟩
              · have e1 : ev (.tmp 41) = .int .i16 (Q j).rat := kn.inn 41 rfl rfl
                exact good_of (v := .int .i64 (Q j).rat) rfl (by simp [execOp, e1, go_sem, hwr]) hC (.inl Two.refl) rfl
              · have e1 : ev (.tmp 41) = .int .i16 (Q j).rat := kn.inn 41 rfl rfl
                exact good_of (v := .int .i64 (Q j).rat) rfl (by simp [execOp, e1, go_sem, hwr]) hC (.inl Two.refl) rfl
              refine ⟨step_ph rfl (step_go rfl fun ev w1 hC kn => ?_) (fun _ => step_go rfl fun ev w1 hC kn => ?_), ?_⟩
              · have e1 : ev (.tmp 39) = .int .i64 Sm := kn.inn 39 rfl rfl
                have e2 : ev (.tmp 42) = .int .i64 (Q j).rat := kn.inn 42 rfl rfl
                exact good_of (v := .int .i64 (Sm + (Q j).rat)) rfl (by simp [execOp, e1, e2, go_sem, hwz]) hC (.inl Two.refl) rfl
              · have e1 : ev (.tmp 39) = .int .i64 Sm := kn.inn 39 rfl rfl
                have e2 : ev (.tmp 42) = .int .i64 (Q j).rat := kn.inn 42 rfl rfl
                exact good_of (v := .int .i64 (Sm + (Q j).rat)) rfl (by simp [execOp, e1, e2, go_sem, hwz]) hC (.inl Two.refl) rfl
              refine ⟨step_ph rfl (step_go rfl fun ev w1 hC kn => ?_) (fun _ => step_go rfl fun ev w1 hC kn => ?_), ?_⟩
              · have e1 : ev (.tmp 8) = .slice (some ⟨gb, 0, none⟩) L.length cb := kn.out 8 rfl rfl rfl
                exact good_of (v := .slice (some ⟨gb, 0, none⟩) L.length cb) rfl (by simp [execOp, e1, go_sem]) hC (.inl Two.refl) rfl
              · have e1 : ev (.tmp 8) = .slice (some ⟨gb, 0, none⟩) L.length cb := kn.out 8 rfl rfl rfl
                exact good_of (v := .slice (some ⟨gb, 0, none⟩) L.length cb) rfl (by simp [execOp, e1, go_sem]) hC (.inl Two.refl) rfl
              refine ⟨step_ph rfl (step_go rfl fun ev w1 hC kn => ?_) (fun _ => step_go rfl fun ev w1 hC kn => ?_), ?_⟩
              · have e1 : ev (.tmp 10) = .pointer (some ⟨q, 0, none⟩) := kn.out 10 rfl rfl rfl
                exact good_of (v := .agg (Q j).cells) rfl (load_blk e1 row99 hC.pm (Q j).cells_size) hC (.inl Two.refl) rfl
              · have e1 : ev (.tmp 10) = .pointer (some ⟨q, 0, none⟩) := kn.out 10 rfl rfl rfl
                exact good_of (v := .agg (Q j).cells) rfl (load_blk e1 row99 hC.pm (Q j).cells_size) hC (.inl Two.refl) rfl
              refine ⟨step_ph rfl (step_go rfl fun ev w1 hC kn => ?_) (fun _ => step_go rfl fun ev w1 hC kn => ?_), ?_⟩
              · have e1 : ev (.tmp 45) = .agg #[.int .i8 (Q j).own, .int .i8 (Q j).cel, .int .i16 (Q j).rat] := (kn.inn 45 rfl rfl : ev (.tmp 45) = .agg (Q j).cells).trans (by rw [(Q j).cells_eq])
                have ht : Two gl (L.length * 1) [.int .i64 j] gb (L.length * 3) (Q j).cells.toList w1 (w1.alloc (.cells (Q j).cells 64)) := Two.of_below (below1 _ _)
                exact good_of (v := .slice (some ⟨w1.heap.size, 0, none⟩) 1 1) (w' := w1.alloc (.cells (Q j).cells 64)) rfl (by rw [(Q j).cells_eq]; simp [execOp, e1, kn.con, go_sem]) (hC.step ht ⟨n1, n2⟩ ⟨n4, n5⟩ n3 (by omega) (by omega) zW) (.inl ht) ⟨_, rfl, Blk.new _ _ _, hC.size⟩
              · have e1 : ev (.tmp 45) = .agg #[.int .i8 (Q j).own, .int .i8 (Q j).cel, .int .i16 (Q j).rat] := (kn.inn 45 rfl rfl : ev (.tmp 45) = .agg (Q j).cells).trans (by rw [(Q j).cells_eq])
                have ht : Two gl (L.length * 1) [.int .i64 j] gb (L.length * 3) (Q j).cells.toList w1 (w1.alloc (.cells (Q j).cells 64)) := Two.of_below (below1 _ _)
                exact good_of (v := .slice (some ⟨w1.heap.size, 0, none⟩) 1 1) (w' := w1.alloc (.cells (Q j).cells 64)) rfl (by rw [(Q j).cells_eq]; simp [execOp, e1, kn.con, go_sem]) (hC.alloc zW.2.2 _) (.inl ht) ⟨_, rfl, Blk.new _ _ _, hC.size⟩
              refine ⟨step_ph rfl (step_go rfl fun ev w1 hC kn => ?_) (fun h => absurd h (by decide)), ?_⟩
              · have e1 : ev (.tmp 44) = .slice (some ⟨gb, 0, none⟩) L.length cb := kn.inn 44 rfl rfl
                obtain ⟨r, e2, hr, hr2⟩ : ∃ r, ev (.tmp 46) = .slice (some ⟨r, 0, none⟩) 1 1 ∧ Blk w1 r (Q j).cells 64 ∧ W3.heap.size ≤ r := kn.inn 46 rfl rfl
                obtain ⟨g2, c2, w2, hrun, ho, hgr, hcase⟩ := run_app2 (P := Tryz.prog) (ty := 44) elPm hC.two (ad := ⟨r, 0, none⟩) (m := 1) (c := 1) (news := (Q j).cells.toList) (by rw [Array.length_toList, (Q j).cells_size]) hr.at (Q j).one (by unfold maxLen; omega) (by omega)
                have ht : Two gl (L.length * 1) [.int .i64 j] gb (L.length * 3) (Q j).cells.toList w1 w2 := by rcases hcase with ⟨_, h⟩ | ⟨_, h⟩; exact Two.of_below h; exact Two.right hgr h
                exact good_of (v := .slice (some ⟨g2, 0, none⟩) (L.length + 1) c2) (w' := w2) rfl (by simp only [execOp, resolve, invoke, builtin, Sem.run_bind, Sem.run_pure, Result.andThen_ok, List.map_toArray, List.map_cons, List.map_nil, e1, e2, hrun]) (hC.step ht ⟨n1, n2⟩ ⟨n4, n5⟩ n3 (by omega) (by omega) zW) (.inl ht) ⟨g2, c2, rfl, ho, by rcases hcase with ⟨h, _⟩ | ⟨h, _⟩; exact .inr (by have := hC.size; omega); exact .inl h⟩
              refine ⟨step_ph rfl (step_go rfl fun ev w1 hC kn => ?_) (fun h => absurd h (by decide)), ?_⟩
              · have e1 : ev (.tmp 7) = .pointer (some ⟨c7, 0, none⟩) := kn.out 7 rfl rfl rfl
                exact good_of (v := .pointer (some ⟨c7, 0, none⟩)) rfl (by simp only [execOp, e1]; rfl) hC (.inl Two.refl) rfl
              refine ⟨step_pv rfl fun ev w1 hC kn => ?_, ?_⟩
              · have e1 : ev (.tmp 48) = .pointer (some ⟨c7, 0, none⟩) := kn.inn 48 rfl rfl
                obtain ⟨g1, c1, e2, ho, hcase⟩ : ∃ g1 c1, ev (.tmp 37) = .slice (some ⟨g1, 0, none⟩) (L.length + 1) c1 ∧ Own w1 g1 2 1 (.slice (some ⟨g1, 0, none⟩) (L.length + 1) c1) (L.length + 1) (ils L ++ [.int .i64 j]) ∧ (g1 = gl ∨ W3.heap.size ≤ g1) := kn.inn 37 rfl rfl
                refine good_store rfl rfl e1 e2 szSl rfl rfl hC.blk (by simp) fun W hB hG => ?_
                have m1 : g1 ≠ c7 := by rcases hcase with h | h <;> omega
                exact ⟨⟨⟨g1, c1, hB, ho.grown hG (fun e => by injection e; omega), hcase⟩, hC.pm.grown hG (fun e => by injection e; omega), hC.below.grown hG (by have := hC.size; omega) (fun k e => by injection e; omega), Nat.le_trans hC.size hG.size⟩, .inr hG⟩
              exact trivial
            · rintro xv w1 hxv hC
              have y43 : xv 43 = .int .i64 (Sm + (Q j).rat) := hxv 43 (by decide)
              obtain ⟨g2, c2, y47, ho2, hc2'⟩ : ∃ g2 c2, xv 47 = .slice (some ⟨g2, 0, none⟩) (L.length + 1) c2 ∧ Own w1 g2 64 3 (.slice (some ⟨g2, 0, none⟩) (L.length + 1) c2) (L.length + 1) (pls L.length (pickP Q L) ++ (Q j).cells.toList) ∧ (g2 = gb ∨ W3.heap.size ≤ g2) := hxv 47 (by decide)
              obtain ⟨⟨g1, c1, hA1, ho1, hc1'⟩, hP1, hb5, hs5⟩ := hC
              simp only [fill, dstsOf, List.filterMap_cons, List.filterMap_nil, List.foldl_cons, List.foldl_nil, List.set_cons_succ, List.set_cons_zero, List.take_succ_cons, List.take_zero, List.drop_succ_cons, List.drop_zero, y43, y47]
              clear hxv y43 y47
              have HT := Lib.hid (pickP_pls Q L j)
              have HSM := Lib.hid hSum
              have hlen : (L ++ [j]).length = L.length + 1 := by simp
              have HLN := Lib.hid hlen
              clear hC0 hSum hLL hlen hA hE hG hX hb4 hbt hwz hwr
              go_wp2_with (refine wpList_store_cell (v := .int .i64 _) rfl rfl rfl rfl szI64 rfl rfl hA1 (by simp) ?_; intro w3 hB hG3)
              have hb6 : Below z wo w3 := hb5.grown hG3 (by omega) (fun k e => by injection e; omega)
              have ho1' := ho1.grown hG3 (fun e => by injection e; rcases hc1' with h | h <;> omega)
              have ho2' := ho2.grown hG3 (fun e => by injection e; rcases hc2' with h | h <;> omega)
              have hB : Blk w3 c7 #[.slice (some ⟨g1, 0, none⟩) (L.length + 1) c1, .int .i64 (Sm + (Q j).rat)] 81 := hB
              rw [← HT.out, ← HLN.out] at ho2'
              rw [ils_snoc, ← HLN.out] at ho1'
              rw [← HLN.out, ← HSM.out, ← sumOf_snoc] at hB
              rw [← HPS.out] at ho1' ho2' hB
              go_roundw
              case rel => exact ⟨j + 1, g1, g2, c1, c2, by omega, by go_num, hB, ho1', by rw [HPS.out, HLN.out], ho2', by rcases hc1' with h | h <;> omega, by rcases hc2' with h | h <;> omega, hb6⟩
              case measure => simp [intOf]; omega
        · obtain rfl : j = m := by omega
          have hbw := hbel.trans (hb3.mono hzw)
          have hk1 := hke (picks k j) (fun i hi => picks_lt hi) wr hbw _ hG.psl
          rw [show keptB g n P (picks k j).length (pickP Q (picks k j)) = K (picks k j) by rw [HK.out]; rfl] at hk1
          have hks := keptTo_succ K j k
          have lO := hO.lt
          have HLR : Hid (∀ r, r ∈ D → r.g < wo.heap.size) := Lib.hid fun r hr => (hL.out r hr).1.lt
          have lA := hA.lt
          have lE := hE.lt
          cases hKv : K (picks k j) <;> rw [hKv] at hk1 hks
          · have HKS := Lib.hid (show keptTo K j (k + 1) = keptTo K j k from hks)
            clear hks hKv
            go_wp2_with (go_at_call 54; refine hk1.mono ?_; rintro e w5 ⟨rfl, hb5⟩)
            have hb35 := hb3.trans (hb5.mono (by have := hb3.size; omega))
            go_roundw
            case rel => exact ⟨k + 1, go, D, by omega, by go_num, Lib.hid (by rw [HKS.out]; exact hD.out), hO.below hb35 (by omega), Lib.hid (fun r hr => ⟨(hL.out r hr).1.below hb35 (by have := HLR.out r hr; omega), (hL.out r hr).2⟩), hgo, by omega, hbw.trans (hb5.mono hbw.size)⟩
            case measure => simp [intOf]; omega
          · have HKS := Lib.hid (show keptTo K j (k + 1) = keptTo K j k ++ [k] from hks)
            clear hks hKv
            go_upto_region 13 with (go_at_call 54; refine hk1.mono ?_; rintro e w5 ⟨rfl, hb5⟩)
            have hb35 := hb3.trans (hb5.mono (by have := hb3.size; omega))
            have hO5 := hO.below hb35 (by omega)
            have hA5 := hA.below hb5 lA
            have hE5 := hE.below hb5 lE
            have hb05 := hbw.trans (hb5.mono hbw.size)
            have HR := Lib.hid (rls_snoc j Q D ⟨gl, cl, k⟩)
            have HL5 : Hid (∀ r, r ∈ D → Lies w5 j w.heap.size r) := Lib.hid (fun r hr => ⟨(hL.out r hr).1.below hb35 (by have := HLR.out r hr; omega), (hL.out r hr).2⟩)
            have hD64 : D.length ≤ 64 := by omega
            have nOE := own_ne2 hO5 hE5 (by decide)
            have HOR : Hid (∀ r, r ∈ D → go ≠ r.g) := Lib.hid (fun r hr => own_ne2 hO5 (HL5.out r hr).1 (by decide))
            clear hb3 hb5 hb35 hG hA hE hL hO hk1 lA lE
            go_wp2_with (first | (refine wpList_load_blk rfl rfl rfl rowCh hA5 rfl ?_) | (at_builtin; refine wpList_app elCh rfl rfl rfl rfl Nat.two_pos (hO5.alloc _) (Blk.new _ _ _) rfl ?_ ?_ ?_ ?_; (· intro u hu; simp at hu; rcases hu with rfl | rfl <;> rfl); (· unfold maxLen; omega); (· omega); intro v1 w6 go' hown1 hgr1 hg1))
            have hown2 : Own w6 go' 81 2 v1 (D ++ [Rec.mk gl cl k]).length (rls j Q (D ++ [Rec.mk gl cl k])) := by
              rw [HR.out, List.length_append]; exact hown1
            have HL6 : Hid (∀ r, r ∈ D ++ [Rec.mk gl cl k] → Lies w6 j w.heap.size r) := Lib.hid fun r hr => by
              rcases List.mem_append.1 hr with h | h
              · exact ⟨((HL5.out r h).1.alloc _).grown hgr1 (fun e => HOR.out r h (Option.some.inj e)), (HL5.out r h).2⟩
              · rw [List.mem_singleton] at h; subst h
                exact ⟨(hE5.alloc _).grown hgr1 (fun e => nOE (Option.some.inj e)), by show w.heap.size ≤ gl; omega⟩
            have hD6 : Hid ((D ++ [Rec.mk gl cl k]).map Rec.s = keptTo K j (k + 1)) := Lib.hid (by rw [HKS.out, List.map_append, hD.out]; rfl)
            have hz5 := hb05.size
            have hb06 := (hb05.alloc hz5 (.cells #[.slice (some ⟨gl, 0, none⟩) (picks k j).length cl, .int .i64 (sumOf Q (picks k j))] 81)).grown hgr1 (by simp; omega) (fun k hk => by injection hk with hk; omega)
            have hgo' : w.heap.size ≤ go' := by
              rcases hg1 with h | h
              · omega
              · rw [h]; simp; omega
            clear hown1 hgr1 hg1 HL5 HOR hb05 hO5 hE5 hA5 hbw
            go_roundw
            case rel => exact ⟨k + 1, go', _, by omega, by go_num, hD6, hown2, HL6, hgo', by simp; omega, hb06⟩
            case measure => simp [intOf]; omega
    · obtain rfl : k = N := by omega
      clear hke hb hv
      obtain ⟨cap, rfl, hcap1, hcap2⟩ := hO.form
      have hsr := sortCh_any m Q D w.heap.size go cap wr hm hO hL.out (by omega)
      go_wp2_with (go_at_call 87; refine hsr.mono ?_; rintro e w5 ⟨rfl, D', hp, hs, hr, q1, q2, q3, q4, q5⟩)
      go_ret
      have hlen : D'.length = D.length := hp.length_eq
      refine ⟨go, cap, D', by rw [hlen]; rfl, by have := hO.lt; omega, hgo, by omega, hr, fun r hr' => ?_, ?_, fun i j r s h1 h2 h3 => by have := hs i j r s h1 h2 h3; omega, ?_⟩
      · have h1 := hL.out r (hp.mem_iff.1 hr')
        exact ⟨h1.1.move (q5 _ h1.1.lt (fun e => own_ne2 hO h1.1 (by decide) e.symm)), h1.2⟩
      · have h2 := hp.map Rec.s
        rw [hD.out, HN.out, HK.out] at h2
        exact h2
      · exact hbel.trans ⟨q1, q2, q3, q4, fun b hb => q5 b (by have := hbel.size; omega) (by omega)⟩
end Go.Proofs.YtokdpmpgonafmaaGreat
