import Derived.Test.YtmmfnklnmdhkiaaGreatMU22
import Derived.Test.YtmmfnklnmdhkiaaGreatMU25
/- HeadsOverTime where all is valid, of the first cell, in the program and in the reference. -/
namespace Go.Proofs.YtmmfnklnmdhkiaaGreat
open Go.ChangeShapes Go.WideShapes Go.ChangeAt Go.RowKit
set_option linter.unusedVariables false
set_option linter.unusedSimpArgs false
attribute [local irreducible] Calls
/-- The first cell's head behind each step. -/
def heaT (g : Gr) (m a b part i : Nat) : Nat := (tidTo g m a b part (i + 1)).1.hea 0
/-- How many heads are handed back. -/
def runN (g : Gr) (m a b part n : Nat) : Nat := if runC g m a b part n = 0 then n else 0
theorem Own.keep {w w' : World} {g : Nat} {e : TypeId} {s n : Nat} {v : Value} {xs : List Value} (h : Own w g e s v n xs) (hk : KeepNG w w') (he : e ≠ 30) : Own w' g e s v n xs := by
  obtain ⟨h1, cap, cur, hv, hb, h2⟩ := h
  exact ⟨h1, cap, cur, hv, hk _ _ _ hb he, h2⟩
/-- What has been seen: k heads in a row of its own; a variable that holds the row. -/
def Seen (w0 : World) (q c : Nat) (F : Nat → Nat) (k : Nat) (w : World) : Prop := ∃ (r : Nat) (y : Value), Blk w q #[y] 53 ∧ Own w r 25 1 y k (fls k F) ∧ Blk w c #[.int .i64 0] 2 ∧ w0.heap.size ≤ r
theorem Seen.keep {w0 : World} {q c : Nat} {F : Nat → Nat} {k : Nat} {w w' : World} (h : Seen w0 q c F k w) (hk : KeepNG w w') : Seen w0 q c F k w' := by
  obtain ⟨r, y, h1, h2, h3, h4⟩ := h
  exact ⟨r, y, hk _ _ _ h1 (by decide), h2.keep hk (by decide), hk _ _ _ h3 (by decide), h4⟩
theorem callHot : Callable Tryz.prog 65 := ⟨_, Tryz.func65, by kernel_rfl, by kernel_rfl⟩
theorem szFS : (Tryz.prog.info? 53).map (·.size) = some 1 := by kernel_rfl
theorem keepG_grown {w w' : World} {r : Nat} {C : Array Value} {t : TypeId} (h : w.grownBy w' (some r)) (hb : Blk w r C t) (ht : t ≠ 30) : KeepG w w' := fun x D hx => by
  have hne : x ≠ r := fun e => by
    subst e
    have h2 : w.heap[x]? = some (.cells C t (0, 0)) := hb
    rw [h2] at hx; injection hx with hx; injection hx with _ hx; exact ht hx
  exact (h.block x (lt_of_block hx) (fun e => by injection e with e; exact hne (by omega))).trans hx
theorem KeepG.trans {w w' w'' : World} (h : KeepG w w') (h' : KeepG w' w'') : KeepG w w'' := fun r C hr => h' r C (h r C hr)
set_option maxRecDepth 100000 in
set_option maxHeartbeats 1000000 in
theorem hot1_any (w0 : World) (q c p k : Nat) (F : Nat → Nat) (G : Gr) (hk : k ≤ 400) (hG : G.hea 0 = F k) (hq : w0.heap.size ≤ q) (w : World) (hS : Seen w0 q c F k w) (hp : Blk w p G.cells 30) (hb : Below w0.heap.size w0 w) :
    Calls Tryz.prog 65 (#[.pointer (some ⟨p, 0, none⟩)] ++ #[.pointer (some ⟨q, 0, none⟩), .pointer (some ⟨c, 0, none⟩)]) w fun e w' => ∃ v, e = .returned v ∧ Seen w0 q c F (k + 1) w' ∧ KeepG w w' ∧ Below w0.heap.size w0 w' := by
  show Calls Tryz.prog 65 #[.pointer (some ⟨p, 0, none⟩), .pointer (some ⟨q, 0, none⟩), .pointer (some ⟨c, 0, none⟩)] w _
  obtain ⟨r, y, hB, hO, hC, hr⟩ := hS
  have lB := hB.lt
  have lO := hO.lt
  have lC := hC.lt
  have lP := hp.lt
  have hqr : q ≠ r := own_ne hB hO (by decide)
  have hcr : c ≠ r := own_ne hC hO (by decide)
  have hqc : q ≠ c := fun e => by
    have h1 : w.heap[q]? = some (.cells #[y] 53 (0, 0)) := hB
    have h2 : w.heap[c]? = some (.cells #[.int .i64 0] 2 (0, 0)) := hC
    rw [e, h2] at h1; injection h1 with h1; injection h1 with _ h1; exact absurd h1 (by decide)
  have c0 : w.cell? ⟨p, 130, none⟩ = some (.float .f32 (F k)) := by rw [← hG]; exact hp.gat.getH 0 (by omega)
  have c1 : w.cell? ⟨q, 0, none⟩ = some y := hB.cell 0
  have c2 : w.cell? ⟨c, 0, none⟩ = some (.int .i64 0) := hC.cell 0
  have HF := Lib.hid (fls_succ k F)
  generalize F k = x at *
  go_enter Tryz.func65, Tryz.ntmps65
  go_upto_region 0 with fail
  refine wp_splitK 8 (fun w' => Below w.heap.size w w') (fun w w' => Below w.heap.size w w') (fun wx d v => match d, v with
    | 4, v => v = y
    | 5, v => v = .pointer (some ⟨p, 0, none⟩)
    | 6, v => v = .int .i64 0
    | 7, v => v = .pointer (some ⟨p, 0, none⟩)
    | 8, v => v = .pointer (some ⟨p, 130, none⟩)
    | 9, v => v = .pointer (some ⟨p, 130, none⟩)
    | 10, v => v = .float .f32 x
    | 11, v => ∃ s : Nat, v = .slice (some ⟨s, 0, none⟩) 1 1 ∧ w.heap.size ≤ s ∧ Blk wx s #[.float .f32 x] 25
    | _, _ => True) (fun w1 w2 d v hR hF => by split at hF <;> first | exact hF | (obtain ⟨s, q1, q2, q3⟩ := hF; exact ⟨s, q1, q2, q3.below hR q3.lt⟩)) (by kernel_rfl) (by kernel_rfl) (by kernel_rfl) (Below.refl _ _).drew ?_ ?_
  · refine ⟨step_go rfl fun ev w1 hC1 kn => ?_, ?_⟩
    · have e1 : ev (.tmp 1) = .pointer (some ⟨q, 0, none⟩) := kn.out 1 rfl rfl rfl
      have d1 := (hC1.cell (p := ⟨q, 0, none⟩) lB).trans c1
      exact good_of (v := y) rfl (by simp [execOp, e1, go_sem, d1]) hC1 (Below.refl _ _) rfl
    refine ⟨step_go rfl fun ev w1 hC1 kn => ?_, ?_⟩
    · have e1 : ev (.tmp 0) = .pointer (some ⟨p, 0, none⟩) := kn.out 0 rfl rfl rfl
      exact good_of (v := .pointer (some ⟨p, 0, none⟩)) rfl (by simp [execOp, e1, go_sem]) hC1 (Below.refl _ _) rfl
    refine ⟨step_go rfl fun ev w1 hC1 kn => ?_, ?_⟩
    · have e1 : ev (.tmp 2) = .pointer (some ⟨c, 0, none⟩) := kn.out 2 rfl rfl rfl
      have d1 := (hC1.cell (p := ⟨c, 0, none⟩) lC).trans c2
      exact good_of (v := .int .i64 0) rfl (by simp [execOp, e1, go_sem, d1]) hC1 (Below.refl _ _) rfl
    refine ⟨step_go rfl fun ev w1 hC1 kn => ?_, ?_⟩
    · have e1 : ev (.tmp 5) = .pointer (some ⟨p, 0, none⟩) := kn.inn 5 rfl rfl
      exact good_of (v := .pointer (some ⟨p, 0, none⟩)) rfl (by simp only [execOp, e1]; rfl) hC1 (Below.refl _ _) rfl
    refine ⟨step_go rfl fun ev w1 hC1 kn => ?_, ?_⟩
    · have e1 : ev (.tmp 7) = .pointer (some ⟨p, 0, none⟩) := kn.inn 7 rfl rfl
      exact good_of (v := .pointer (some ⟨p, 130, none⟩)) rfl (by simp only [execOp, e1]; rfl) hC1 (Below.refl _ _) rfl
    refine ⟨step_go rfl fun ev w1 hC1 kn => ?_, ?_⟩
    · have e1 : ev (.tmp 8) = .pointer (some ⟨p, 130, none⟩) := kn.inn 8 rfl rfl
      have e2 : ev (.tmp 6) = .int .i64 0 := kn.inn 6 rfl rfl
      exact good_of (v := .pointer (some ⟨p, 130, none⟩)) rfl (by simp [execOp, e1, e2, go_sem]) hC1 (Below.refl _ _) rfl
    refine ⟨step_go rfl fun ev w1 hC1 kn => ?_, ?_⟩
    · have e1 : ev (.tmp 9) = .pointer (some ⟨p, 130, none⟩) := kn.inn 9 rfl rfl
      have d1 := (hC1.cell (p := ⟨p, 130, none⟩) lP).trans c0
      exact good_of (v := .float .f32 x) rfl (by simp [execOp, e1, go_sem, d1]) hC1 (Below.refl _ _) rfl
    refine ⟨step_go rfl fun ev w1 hC1 kn => ?_, ?_⟩
    · have e1 : ev (.tmp 10) = .float .f32 x := kn.inn 10 rfl rfl
      exact good_of (v := .slice (some ⟨w1.heap.size, 0, none⟩) 1 1) (w' := w1.alloc (.cells #[.float .f32 x] 25)) rfl (by simp [execOp, e1, go_sem]) (hC1.alloc hC1.size _) (below1 _ _) ⟨w1.heap.size, rfl, hC1.size, Blk.new _ _ _⟩
    exact trivial
  · rintro xv w1 hxv hC1
    have y4 : xv 4 = y := hxv 4 (by decide)
    obtain ⟨s, y11, hs1, hN⟩ : ∃ s : Nat, xv 11 = .slice (some ⟨s, 0, none⟩) 1 1 ∧ w.heap.size ≤ s ∧ Blk w1 s #[.float .f32 x] 25 := hxv 11 (by decide)
    simp only [fill, dstsOf, List.filterMap_cons, List.filterMap_nil, List.foldl_cons, List.foldl_nil, List.set_cons_succ, List.set_cons_zero, List.take_succ_cons, List.take_zero, List.drop_succ_cons, List.drop_zero, y4, y11]
    clear hxv
    have hO1 := hO.below hC1 lO
    have hB1 := hB.below hC1 lB
    have hCc := hC.below hC1 lC
    go_wp2_with (first | (at_builtin; refine wpList_app elFl rfl rfl rfl rfl Nat.one_pos hO1 hN rfl ?_ ?_ ?_ ?_; (· intro u hu; simp at hu; subst hu; rfl); (· unfold maxLen; omega); (· omega); intro v1 w7 g2 hown1 hgr1 hg1; obtain ⟨c7, rfl, _, _⟩ := hown1.form; have hB7 := hB1.grown hgr1 (fun e => by injection e; omega)) | (refine wpList_store_cell (v := .slice (some ⟨g2, 0, none⟩) (k + 1) c7) rfl rfl rfl rfl szFS rfl rfl hB7 (by simp) ?_; intro w9 hB9 hgr9))
    go_end0
    obtain ⟨_, cap1, cur1, _, hbO, _⟩ := id hO1
    have z0 := hb.size
    have z1 := hC1.size
    have z2 := hgr1.size
    have z3 := hgr9.size
    have hqg : q ≠ g2 := by rcases hg1 with h | h <;> omega
    have hrg : w0.heap.size ≤ g2 := by rcases hg1 with h | h <;> omega
    have hB9 : Blk w9 q #[.slice (some ⟨g2, 0, none⟩) (k + 1) c7] 53 := hB9
    refine ⟨⟨_, rfl⟩, ⟨g2, _, hB9, ?_, (hCc.grown hgr1 (fun e => by injection e; omega)).grown hgr9 (fun e => by injection e; omega), hrg⟩, (KeepG.below hC1).trans ((keepG_grown hgr1 hbO (by decide)).trans (keepG_grown hgr9 hB7 (by decide))), ((hb.trans (hC1.mono hb.size)).grown hgr1 (by omega) (fun k e => by injection e; omega)).grown hgr9 (by omega) (fun k e => by injection e; omega)⟩
    rw [HF.out]
    exact hown1.grown hgr9 (fun e => by injection e; omega)
theorem cell0 {g : Gr} (hv : validG g = true) : isC g 0 = true := isC_zero hv
set_option maxRecDepth 100000 in
set_option maxHeartbeats 400000 in
theorem cellFault0_any (g : Gr) (q m a b part : Nat) (ho : TOk g m a b part) (w : World) (hb : GAt w q g) :
    Calls Tryz.prog 64 #[.pointer (some ⟨q, 0, none⟩), .int .i64 0] w fun e w' => e = .returned (.int .i64 0) ∧ Below w.heap.size w w' := by
  have hvg := fun w' => validGround_any g ho.ok w'
  have hh := fun w' hb' => has_any g q 0 ho.ok (by omega) w' hb'
  rw [ho.valid] at hvg
  rw [cell0 ho.valid] at hh
  have lb := hb.lt
  clear ho
  go_enter Tryz.func64, Tryz.ntmps64
  go_wp2_with (first | (refine wpList_load_gat rfl rfl rfl row66 hb ?_) | (go_at_call 33; refine (hvg _).mono ?_; rintro e w1 ⟨rfl, hb1⟩; have hb2 := hb.below hb1 lb) | (go_at_call 74; refine (in_any _ _ _ _).mono ?_; rintro e w' ⟨rfl, hw⟩; rw [hw]; clear hw w') | (go_at_call 90; refine (hh _ hb2).mono ?_; rintro e w' ⟨rfl, hw⟩; rw [hw]; clear hw w'))
  go_ret
  exact ⟨rfl, hb1⟩
set_option maxRecDepth 100000 in
set_option maxHeartbeats 1000000 in
theorem headsOverTime_any (g : Gr) (m a b part n : Nat) (hn : n ≤ 400) (ho : TOk g m a b part) (w : World) :
    Calls Tryz.prog 25 #[.agg g.cells, .float .f32 m, .complex .f32 a b, .float .f32 part, .int .i64 n, .int .i64 0] w fun e w' => ∃ y r, e = .returned (.tuple #[y, .int .i64 (runC g m a b part n)]) ∧ w.heap.size ≤ r ∧ Rs 25 w' r y (runN g m a b part n) (fls (runN g m a b part n) (heaT g m a b part)) ∧ Below w.heap.size w w' := by
  have hok := fun q w' hb => tideOk_any g q m a b part ho w' hb
  have hi := fun w' => isSteps_any n w'
  rw [stp_in hn] at hi
  have hcf := fun q w' hb => cellFault0_any g q m a b part ho w' hb
  have ht := fun cap w0 w' => tides_any g m a b part n hn ho 65 cap callHot (w0 := w0) (w := w')
  have hN : Hid (runC g m a b part n = 0 → runN g m a b part n = n) := Lib.hid fun h => by unfold runN; rw [if_pos h]
  have hN0 : Hid (runC g m a b part n ≠ 0 → runN g m a b part n = 0) := Lib.hid fun h => by unfold runN; rw [if_neg h]
  clear ho
  go_enter Tryz.func25, Tryz.ntmps25
  go_upto_region 1 with (refine wpList_box_as rfl rfl rfl ?_)
  have hA : Blk ((w.alloc (.cells g.cells 30)).alloc (.cells #[.int .i64 0] 2)) w.heap.size g.cells 30 := (Blk.new _ _ _).alloc _
  have hI : Blk ((w.alloc (.cells g.cells 30)).alloc (.cells #[.int .i64 0] 2)) (w.heap.size + 1) #[.int .i64 0] 2 := Blk.new1 _ _ _ _
  have hbel := below2 w (.cells g.cells 30) (.cells #[.int .i64 0] 2)
  generalize ((w.alloc (.cells g.cells 30)).alloc (.cells #[.int .i64 0] 2)) = W at *
  have lA := hA.lt
  have lI := hI.lt
  go_upto_region 5 with (first | (go_at_call 56; refine (hok _ _ hA.gat).mono ?_; rintro e w1 ⟨rfl, hb1⟩; have hA1 := hA.below hb1 lA; have hI1 := hI.below hb1 lI; have c2 := hI1.cell 0; simp only [List.getElem?_toArray, List.getElem?_cons_zero] at c2) | (go_at_call 42; refine (hi _).mono ?_; rintro e w' ⟨rfl, hw⟩; rw [hw]; clear hw w') | (go_at_call 64; refine (hcf _ _ hA1.gat).mono ?_; rintro e w2 ⟨rfl, hb2⟩))
  have hA := hA1.below hb2 hA1.lt
  have hI := hI1.below hb2 hI1.lt
  have hbel := hbel.trans (hb1.trans (hb2.mono hb1.size) |>.mono hbel.size)
  clear hA1 hI1 c2 hb1 hb2 hok hi hcf
  go_upto_region 6 with fail
  have hO : Own ((w2.alloc (.cells #[] 25)).alloc (.cells #[.slice (some ⟨w2.heap.size, 0, none⟩) 0 0] 53)) w2.heap.size 25 1 (.slice (some ⟨w2.heap.size, 0, none⟩) 0 0) 0 (fls 0 (heaT g m a b part)) := (own_blk (Blk.new _ _ _) rfl (by decide) (by rw [fls_zero])).alloc _
  have hB : Blk ((w2.alloc (.cells #[] 25)).alloc (.cells #[.slice (some ⟨w2.heap.size, 0, none⟩) 0 0] 53)) (w2.heap.size + 1) #[.slice (some ⟨w2.heap.size, 0, none⟩) 0 0] 53 := Blk.new1 _ _ _ _
  have hb3 := below2 w2 (.cells #[] 25) (.cells #[.slice (some ⟨w2.heap.size, 0, none⟩) 0 0] 53)
  have hz := hbel.size
  generalize ((w2.alloc (.cells #[] 25)).alloc (.cells #[.slice (some ⟨w2.heap.size, 0, none⟩) 0 0] 53)) = W3 at *
  have hA := hA.below hb3 hA.lt
  have hI := hI.below hb3 hI.lt
  have hbel := hbel.trans (hb3.mono hbel.size)
  have lA := hA.lt
  have htd := ht #[.pointer (some ⟨w2.heap.size + 1, 0, none⟩), .pointer (some ⟨w.heap.size + 1, 0, none⟩)] w W3 (Seen w (w2.heap.size + 1) (w.heap.size + 1) (heaT g m a b part)) hbel ⟨_, _, hB, hO, hI, hz⟩ (fun k w1 w2 h h2 => h.keep h2) (fun k q w1 hk h0 hJ hq hb => hot1_any w _ _ q k _ _ (by omega) rfl (by omega) w1 hJ hq hb)
  clear ht hO hB
  generalize hVe : runC g m a b part n = V at *
  generalize runG g m a b part n = R at *
  by_cases hV : V = 0
  · subst hV
    go_upto_region 9 with (first | (refine wpList_load_blk rfl rfl rfl row66 hA (Gr.size _) ?_) | (go_at_call 62; refine htd.mono ?_; rintro e w4 ⟨rfl, hb4, hJ4⟩) | (refine wpList_alloc_as rfl rfl zero66z ?_) | (refine wpList_store_last rfl rfl rfl rfl rfl (by rw [Gr.size]; kernel_rfl) (by rw [Gr.size, Gr.size]) (List.all_eq_true.2 (Gr.one _)) ?_))
    obtain ⟨r, y, hB4, hO4, _, hr4⟩ := hJ4 trivial
    have c4 : (w4.alloc (.cells R.cells 30)).cell? ⟨w2.heap.size + 1, 0, none⟩ = some y := (hB4.alloc _).cell 0
    have hO5 := hO4.alloc (.cells R.cells 30)
    have hb5 := hb4.alloc hb4.size (.cells R.cells 30)
    generalize w4.alloc (.cells R.cells 30) = W5 at *
    have HV := Lib.hid hVe
    clear hVe
    go_wp2_with fail
    go_ret2
    refine ⟨y, r, by rw [HV.out]; rfl, hr4, ?_, hb5⟩
    rw [hN.out trivial]
    exact .inr hO5
  · have hVb : (V != 0) = true := by simp [hV]
    go_wp2_with (first | (refine wpList_load_blk rfl rfl rfl row66 hA (Gr.size _) ?_) | (go_at_call 62; refine htd.mono ?_; rintro e w4 ⟨rfl, hb4, hJ4⟩) | (refine wpList_alloc_as rfl rfl zero66z ?_) | (refine wpList_store_last rfl rfl rfl rfl rfl (by rw [Gr.size]; kernel_rfl) (by rw [Gr.size, Gr.size]) (List.all_eq_true.2 (Gr.one _)) ?_))
    go_ret2
    refine ⟨_, w.heap.size, by rw [hVe]; rfl, Nat.le_refl _, ?_, hb4.alloc hb4.size _⟩
    rw [hN0.out hV]
    exact .inl ⟨rfl, _, _, rfl, Nat.zero_le _⟩
set_option maxRecDepth 100000 in
set_option maxHeartbeats 1000000 in
theorem specHeadsOverTime_any (g : Gr) (m a b part n : Nat) (hn : n ≤ 400) (ho : TOk g m a b part) (w : World) :
    Calls Tryz.prog 26 #[.agg g.cells, .float .f32 m, .complex .f32 a b, .float .f32 part, .int .i64 n, .int .i64 0] w fun e w' => ∃ y r, e = .returned (.tuple #[y, .int .i64 (runC g m a b part n)]) ∧ w.heap.size ≤ r ∧ Rs 25 w' r y (runN g m a b part n) (fls (runN g m a b part n) (heaT g m a b part)) ∧ Below w.heap.size w w' := by
  have hok := fun q w' hb => l06Given_any g q m a b part ho w' hb
  have hi := fun w' => l06Steps_any n w'
  rw [stp_in hn] at hi
  have his := fun q w' hb => l01Is_any g q 0 ho.ok (by omega) w' hb
  rw [cell0 ho.valid] at his
  have HO := Lib.hid ho
  have hn0 : (0 : Int) ≤ n := by omega
  have hn4 : (n : Int) ≤ 400 := by omega
  have hN : Hid (runC g m a b part n = 0 → runN g m a b part n = n) := Lib.hid fun h => by unfold runN; rw [if_pos h]
  have hN0 : Hid (runC g m a b part n ≠ 0 → runN g m a b part n = 0) := Lib.hid fun h => by unfold runN; rw [if_neg h]
  clear ho
  go_enter Tryz.func26, Tryz.ntmps26
  go_upto_region 1 with (refine wpList_box_as rfl rfl rfl ?_)
  have hA : Blk (w.alloc (.cells g.cells 30)) w.heap.size g.cells 30 := Blk.new _ _ _
  have hbel := below1 w (.cells g.cells 30)
  generalize (w.alloc (.cells g.cells 30)) = W at *
  have lA := hA.lt
  go_upto_region 4 with (first | (go_at_call 59; refine (hok _ _ hA.gat).mono ?_; rintro e w1 ⟨rfl, n1, rfl⟩) | (go_at_call 43; refine (hi _).mono ?_; rintro e w' ⟨rfl, hw⟩; rw [hw]; clear hw w') | (go_at_call 66; refine (l00In_any _ _ _ _).mono ?_; rintro e w' ⟨rfl, hw⟩; rw [hw]; clear hw w') | (go_at_call 67; refine (his _ _ (hA.drewN n1).gat).mono ?_; rintro e w' ⟨rfl, hw⟩; rw [hw]; clear hw w'))
  have hA := hA.drewN n1
  have hbel := below_drewN hbel n1
  generalize W.drewN n1 = W1 at *
  clear hok hi his lA
  go_upto_region 6 with fail
  have hO : Own (W1.alloc (.cells #[] 25)) W1.heap.size 25 1 (.slice (some ⟨W1.heap.size, 0, none⟩) 0 0) 0 (fls 0 (heaT g m a b part)) := own_blk (Blk.new _ _ _) rfl (by decide) (by rw [fls_zero])
  have hz := hbel.size
  have hA := hA.alloc (.cells #[] 25)
  have hbel := hbel.alloc hz (.cells #[] 25)
  generalize W1.alloc (.cells #[] 25) = W2 at *
  go_loopw [14, 15, 16] (fun c y i wr => ∃ (k r : Nat), k ≤ n ∧ i = .int .i64 k ∧ c = .int .i64 (tidTo g m a b part k).2 ∧ ((tidTo g m a b part k).2 ≠ 0 → Hid (tidTo g m a b part n = tidTo g m a b part k)) ∧ Blk wr w.heap.size (tidTo g m a b part k).1.cells 30 ∧ w.heap.size ≤ r ∧ Own wr r 25 1 y k (fls k (heaT g m a b part)) ∧ Below w.heap.size w wr) (fun _ _ i _ => n - (intOf i).toNat)
  case atStart => exact ⟨0, _, by omega, rfl, rfl, fun h => absurd rfl h, hA, hz, hO, hbel⟩
  case round =>
    clear hA hO hbel hz
    obtain ⟨k, r, hk, rfl, rfl, hst, hA, hr, hO, hbel⟩ := hrel
    by_cases hc0 : (tidTo g m a b part k).2 = 0
    · have HC0 := Lib.hid hc0
      by_cases hlt : k < n
      · have bk : (0 : Int) ≤ k := by omega
        have bl : (k : Int) < n := by omega
        have ho := tidTo_tok HO.out k hc0
        have ht := l06Tidal_any (tidTo g m a b part k).1 w.heap.size m a b k part ho.ok ho.valid bk (by omega) wr hA.gat
        have HGO := Lib.hid (tidTo_go hc0)
        have HST : Hid ((tidTo g m a b part (k + 1)).2 ≠ 0 → Hid (tidTo g m a b part n = tidTo g m a b part (k + 1))) := Lib.hid fun h => Lib.hid (tidTo_stay h n (by omega))
        have HF : Hid (fls (k + 1) (heaT g m a b part) = fls k (heaT g m a b part) ++ [.float .f32 ((tidR (tidTo g m a b part k).1 (headT m a b k) part).hea 0)]) := Lib.hid (by
          rw [fls_succ]
          unfold heaT
          rw [HGO.out])
        clear ho hst
        rw [hc0]
        clear hc0
        have lA := hA.lt
        have lO := hO.lt
        have hrA : w.heap.size ≠ r := own_ne hA hO (by decide)
        generalize (tidR (tidTo g m a b part k).1 (headT m a b k) part) = R at *
        go_upto_region 9 with (first | (go_at_call 61; refine ht.mono ?_; rintro e w1 ⟨rfl, hb1⟩; have hA1 := hA.below hb1 lA) | (refine wpList_store_blk rfl rfl rfl rfl row66 hA1 (Gr.size _) (Gr.size _) (Gr.one _) ?_))
        have hA2 := hA1.setRow R.cells
        have hO2 := (hO.below hb1 lO).rowOther (b := w.heap.size) R.cells (Ne.symm hrA)
        have hbel2 := below_setRow (hbel.trans (hb1.mono hbel.size)) (Nat.le_refl _) R.cells
        change Code.wp _ _ _ _ (w1.setRow w.heap.size R.cells)
        generalize w1.setRow w.heap.size R.cells = W5 at *
        have c0 : W5.cell? ⟨w.heap.size, 130, none⟩ = some (.float .f32 (R.hea 0)) := hA2.gat.getH 0 (by omega)
        have hand : bits .and .i64 0 63 = 0 := by decide
        clear hA1 hb1 ht
        have lO2 := hO2.lt
        have lA2 := hA2.lt
        have zb := hbel2.size
        go_wp2_with (at_builtin; refine wpList_app elFl rfl rfl rfl rfl Nat.one_pos (hO2.alloc _) (Blk.new _ _ _) rfl ?_ ?_ ?_ ?_; (· intro u hu; simp at hu; subst hu; rfl); (· unfold maxLen; omega); (· omega); intro v1 w7 g2 hown1 hgr1 hg1)
        have hA7 := (hA2.alloc (.cells #[.float .f32 (R.hea 0)] 25)).grown hgr1 (fun e => by injection e; omega)
        have hb7 := (hbel2.alloc zb (.cells #[.float .f32 (R.hea 0)] 25)).grown hgr1 (by simp; omega) (fun k e => by injection e; omega)
        go_roundw
        case rel => exact ⟨k + 1, g2, by omega, by go_num, by rw [HGO.out], HST.out, by rw [HGO.out]; exact hA7, by simp at hg1; omega, by rw [HF.out]; exact hown1, hb7⟩
        case measure => simp [intOf]; omega
      · obtain rfl : k = n := by omega
        rw [hc0]
        clear hc0 hst
        go_wp2_with fail
        go_ret2
        have e0 : runC g m a b part k = 0 := HC0.out
        refine ⟨_, r, by rw [e0]; rfl, hr, ?_, hbel⟩
        rw [hN.out e0]
        exact .inr hO
    · have hV : Hid (runC g m a b part n = (tidTo g m a b part k).2) := Lib.hid (by unfold runC; rw [(hst hc0).out])
      have hc1 : ((tidTo g m a b part k).2 == 0) = false := by simp [hc0]
      have hc2 : ((tidTo g m a b part k).2 != 0) = true := by simp [hc0]
      have hVN : Hid (runN g m a b part n = 0) := Lib.hid (hN0.out (by rw [hV.out]; exact hc0))
      clear hst
      generalize (tidTo g m a b part k).2 = V at *
      by_cases hlt : k < n
      · have bl : (k : Int) < n := by omega
        go_wp2_with fail
        go_ret2
        first | refine ⟨_, w.heap.size, by rw [hV.out]; rfl, Nat.le_refl _, ?_, hbel.alloc hbel.size _⟩ | refine ⟨_, by rw [hV.out]; rfl, w.heap.size, Nat.le_refl _, ?_, hbel.alloc hbel.size _⟩
        rw [hVN.out]
        exact .inl ⟨rfl, _, _, rfl, Nat.zero_le _⟩
      · have bl : ¬ (k : Int) < n := by omega
        go_wp2_with fail
        go_ret2
        first | refine ⟨_, w.heap.size, by rw [hV.out]; rfl, Nat.le_refl _, ?_, hbel.alloc hbel.size _⟩ | refine ⟨_, by rw [hV.out]; rfl, w.heap.size, Nat.le_refl _, ?_, hbel.alloc hbel.size _⟩
        rw [hVN.out]
        exact .inl ⟨rfl, _, _, rfl, Nat.zero_le _⟩
end Go.Proofs.YtmmfnklnmdhkiaaGreat
