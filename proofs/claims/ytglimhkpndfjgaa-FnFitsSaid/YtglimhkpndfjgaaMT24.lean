import Derived.Test.YtglimhkpndfjgaaMT23
import Derived.Test.YtglimhkpndfjgaaMT19
import Derived.OwnWalk
/- Fits: the reference's functions, from the aquifers that are tried on. -/
namespace Go.Proofs.Ytglimhkpndfjgaa
open Go.ChangeShapes Go.WideShapes Go.ChangeAt Go.RowKit
set_option linter.unusedVariables false
set_option linter.unusedSimpArgs false
attribute [local irreducible] Calls
theorem wpList_load_wantT {P : Program} {ops : Array Oper} {rest : List Oper} {o : Oper} {a : Act} {Q : Exit → Act → World → Prop} {w : World} {ty t : TypeId} {x : Operand} {b n : Nat} {C : Array Value} (hw : Region.wanted o (yielded ops a.tmps) = true) (ho : o.op = .load ty x) (hx : a.eval x = .pointer (some ⟨b, 0, none⟩)) (hr : RowTy P ty n) (hb : Blk w b C t) (hs : C.size = n)
    (h : wpList P ops Q rest (a.put o.dst (.agg C)) w) : wpList P ops Q (o :: rest) a w := by
  obtain ⟨d, hu, hd, hi⟩ := hr
  exact wpList_step fun K hK => by
    simp only [hw, if_true]
    exact wp_load_row ty x ho b hx t C (0, 0) d hb hu (by cases d <;> simp_all) (by rw [hi, hs]) (hK _ _ h)
set_option maxRecDepth 100000 in
set_option maxHeartbeats 1000000 in
theorem l03Aquifer_gen (T S : Nat) (w : World) :
    Calls Try.prog 28 #[.agg #[.float .f32 T, .float .f32 S]] w fun e w' => e = .returned (.bool (aqOk T S)) ∧ Below w.heap.size w w' := by
  have t1 := fge_eq T 981467136
  have t2 := fle_eq T 1233125376
  have t3 := fge_eq S 897581056
  have t4 := fle_eq S 1065353216
  have q1 := fun w' => l03Ratio_any 1024 981467136 (by decide +kernel) w'
  have q2 := fun w' => l03Ratio_any 1048576 897581056 (by decide +kernel) w'
  have hbel := below1 w (.cells #[.float .f32 T, .float .f32 S] 26)
  have hA := Blk.new w #[.float .f32 T, .float .f32 S] 26
  unfold aqOk
  generalize fge T 981467136 = a1 at *
  generalize fle T 1233125376 = a2 at *
  generalize fge S 897581056 = a3 at *
  generalize fle S 1065353216 = a4 at *
  have go : ∀ b1 b2 b3 b4, a1 = b1 → a2 = b2 → a3 = b3 → a4 = b4 → Calls Try.prog 28 #[.agg #[.float .f32 T, .float .f32 S]] w fun e w' => e = .returned (.bool (b1 && b2 && b3 && b4)) ∧ Below w.heap.size w w' := by
    intro b1 b2 b3 b4 e1 e2 e3 e4
    subst e1 e2 e3 e4
    cases a1 <;> cases a2 <;> cases a3 <;> cases a4
    all_goals (
      go_enter Try.func28, Try.ntmps28
      go_upto_region 1 with fail
      generalize w.alloc (.cells #[.float .f32 T, .float .f32 S] 26) = W at *
      have x1 : W.cell? ⟨w.heap.size, 0, none⟩ = some (.float .f32 T) := hA.cell 0
      have x2 : W.cell? ⟨w.heap.size, 1, none⟩ = some (.float .f32 S) := hA.cell 1
      go_quiet ((go_at_call 55; first | exact Calls.quiet_of_same (q1 _) | exact Calls.quiet_of_same (q2 _)))
      go_wp2_with fail
      go_ret
      exact ⟨rfl, below_drewN hbel _⟩)
  exact go a1 a2 a3 a4 rfl rfl rfl rfl
/-- What l04Tries gives. -/
def GaveQ (w : World) (l : List (Nat × Nat)) (e : Ending) (w' : World) : Prop := ∃ (x : Value) (g : Nat), e = .returned x ∧ w.heap.size ≤ g ∧ Own w' g 26 2 x l.length (lqs l.length (vA l)) ∧ Below w.heap.size w w'
set_option maxRecDepth 100000 in
set_option maxHeartbeats 1000000 in
theorem l04Tries_any (T S : Nat) (hA : Aq T S) (w : World) :
    Calls Try.prog 41 #[.agg #[.float .f32 T, .float .f32 S]] w (GaveQ w (vlTo T S 4)) := by
  obtain ⟨⟨c0, r0⟩, ⟨c1, r1⟩, ⟨c2, r2⟩, c3, r3⟩ := tr_ops hA
  have hok := fun i w' => l03Aquifer_gen (trT T i) (trS S i) w'
  have hZ : lqs 4 (fun i => ⟨trT T i, trS S i⟩) = [.float .f32 (trT T 0), .float .f32 S, .float .f32 (trT T 1), .float .f32 S, .float .f32 T, .float .f32 (trS S 2), .float .f32 T, .float .f32 (trS S 3)] := by
    rw [lqs_succ, lqs_succ, lqs_succ, lqs_succ, lqs_zero, Aqf.cells_eq, Aqf.cells_eq, Aqf.cells_eq, Aqf.cells_eq]; rfl
  have hb0 := below1 w (.cells #[.float .f32 T, .float .f32 S] 26)
  have hB := Blk.new w #[.float .f32 T, .float .f32 S] 26
  have z0 : (w.alloc (.cells #[.float .f32 T, .float .f32 S] 26)).cell? ⟨w.heap.size, 0, none⟩ = some (.float .f32 T) := hB.cell 0
  have z1 : (w.alloc (.cells #[.float .f32 T, .float .f32 S] 26)).cell? ⟨w.heap.size, 1, none⟩ = some (.float .f32 S) := hB.cell 1
  clear hA
  go_enter Try.func41, Try.ntmps41
  go_upto_region 1 with fail
  generalize w.alloc (.cells #[.float .f32 T, .float .f32 S] 26) = W at *
  have lW := hB.lt
  go_upto_region 2 with fail
  have hD := Blk.new W #[.float .f32 (trT T 0), .float .f32 S, .float .f32 (trT T 1), .float .f32 S, .float .f32 T, .float .f32 (trS S 2), .float .f32 T, .float .f32 (trS S 3)] 26
  have hO : Own (W.alloc (.cells #[.float .f32 (trT T 0), .float .f32 S, .float .f32 (trT T 1), .float .f32 S, .float .f32 T, .float .f32 (trS S 2), .float .f32 T, .float .f32 (trS S 3)] 26)) W.heap.size 26 2 (.slice (some ⟨W.heap.size, 0, none⟩) 4 4) 4 (lqs 4 (fun i => ⟨trT T i, trS S i⟩)) := own_blk hD rfl (by decide) hZ.symm
  clear hD hZ c0 c1 c2 c3 r0 r1 r2 r3 z0 z1 hB
  rw [show W.drewN 0 = W from rfl]
  have hb1 := hb0.alloc hb0.size (.cells #[.float .f32 (trT T 0), .float .f32 S, .float .f32 (trT T 1), .float .f32 S, .float .f32 T, .float .f32 (trS S 2), .float .f32 T, .float .f32 (trS S 3)] 26)
  generalize W.alloc (.cells #[.float .f32 (trT T 0), .float .f32 S, .float .f32 (trT T 1), .float .f32 S, .float .f32 T, .float .f32 (trS S 2), .float .f32 T, .float .f32 (trS S 3)] 26) = W1 at *
  have sW := hb0.size
  obtain ⟨p1, hp1⟩ : ∃ p, W.heap.size = p := ⟨_, rfl⟩
  rw [hp1] at hO ⊢
  have lO := hO.lt
  go_upto_region 3 with fail
  have hG : Own (W1.alloc (.cells #[] 26)) W1.heap.size 26 2 (.slice (some ⟨W1.heap.size, 0, none⟩) 0 0) (vlTo T S 0).length (lqs (vlTo T S 0).length (vA (vlTo T S 0))) := own_blk (Blk.new _ _ _) rfl (by decide) (by show _ = lqs 0 _; rw [lqs_zero])
  have hO1 := hO.alloc (.cells #[] 26)
  have hb2 := hb1.alloc hb1.size (.cells #[] 26)
  have s1 := hb1.size
  generalize W1.alloc (.cells #[] 26) = W2 at *
  obtain ⟨g0, hg0⟩ : ∃ g, W1.heap.size = g := ⟨_, rfl⟩
  rw [hg0] at hG ⊢
  have lg0 : p1 < g0 := by omega
  go_wp2_with fail
  go_loopw [4, 5] (fun y i wr => ∃ (k gb : Nat), k ≤ 4 ∧ i = .int .i64 k ∧ Own wr gb 26 2 y (vlTo T S k).length (lqs (vlTo T S k).length (vA (vlTo T S k))) ∧ g0 ≤ gb ∧ Own wr p1 26 2 (.slice (some ⟨p1, 0, none⟩) 4 4) 4 (lqs 4 (fun i => ⟨trT T i, trS S i⟩)) ∧ Below w.heap.size w wr) (fun _ i _ => 4 - (intOf i).toNat)
  case atStart => exact ⟨0, g0, by omega, rfl, hG, Nat.le_refl _, hO1, hb2⟩
  case round =>
    clear hG hO1 hb2 hO hb1
    obtain ⟨k, gb, hk, rfl, hG, hgb, hO, hbs⟩ := hrel
    have bk : (0 : Int) ≤ k := by omega
    by_cases hlt : k < 4
    · have bl : (k : Int) < 4 := by omega
      have y0 : wr.cell? ⟨p1, k * 2, none⟩ = some (.float .f32 (trT T k)) := by
        rw [hO.cell (k * 2) (by omega), show k * 2 = k * 2 + 0 by omega, lqs_get 4 _ k 0 hlt (by omega), Aqf.get0]
      have y1 : wr.cell? ⟨p1, k * 2 + 1, none⟩ = some (.float .f32 (trS S k)) := by
        rw [hO.cell (k * 2 + 1) (by omega), lqs_get 4 _ k 1 hlt (by omega), Aqf.get1]
      have hokk := hok k
      have hlen := vlTo_len T S k
      have hst : vlTo T S (k + 1) = if aqOk (trT T k) (trS S k) = true then vlTo T S k ++ [(trT T k, trS S k)] else vlTo T S k := rfl
      obtain ⟨tk, htk⟩ : ∃ t, trT T k = t := ⟨_, rfl⟩
      obtain ⟨sk, hsk⟩ : ∃ t, trS S k = t := ⟨_, rfl⟩
      rw [htk, hsk] at hokk hst
      rw [htk] at y0
      rw [hsk] at y1
      clear htk hsk
      obtain ⟨cap, rfl, hcap, hcapm⟩ := hG.form
      unfold maxLen at hcapm
      have eb := hbs.size
      have lG := hG.lt
      have lO := hO.lt
      cases hq : aqOk tk sk
      · rw [hq] at hokk hst
        rw [if_neg Bool.false_ne_true] at hst
        have HST := Lib.hid hst
        clear hst hq
        go_wp2_with (go_at_call 28; refine (hokk _).mono ?_; rintro e w5 ⟨rfl, hb5⟩)
        go_roundw
        case rel =>
          refine ⟨k + 1, gb, by omega, by go_num, ?_, hgb, hO.below hb5 lO, hbs.trans (hb5.mono eb)⟩
          rw [HST.out]; exact hG.below hb5 lG
        case measure => simp [intOf]; omega
      · rw [hq] at hokk hst
        rw [if_pos rfl] at hst
        have HST := Lib.hid hst
        clear hst hq
        go_upto_if 42 with (go_at_call 28; refine (hokk _).mono ?_; rintro e w5 ⟨rfl, hb5⟩)
        have hG5 := hG.below hb5 lG
        have hO5 := hO.below hb5 lO
        have hbs5 := hbs.trans (hb5.mono eb)
        have x0 := (hb5.cell (p := ⟨p1, k * 2, none⟩) lO).trans y0
        have x1 := (hb5.cell (p := ⟨p1, k * 2 + 1, none⟩) lO).trans y1
        have e5 := hb5.size
        clear hG hO hbs y0 y1
        go_wp2_with (at_builtin; refine wpList_app elAqf rfl rfl rfl rfl (by decide) (hG5.alloc _) (Blk.new _ _ _) rfl ?_ ?_ ?_ ?_; (· intro u hu; simp at hu; rcases hu with rfl | rfl <;> rfl); (· unfold maxLen; omega); (· omega); intro v1 w7 g2 hown1 hgr1 hg1)
        have s5 := hbs5.size
        go_roundw
        case rel =>
          refine ⟨k + 1, g2, by omega, by go_num, ?_, ?_, ?_, ?_⟩
          · rw [HST.out, vA_app, List.length_append, List.length_singleton]; exact hown1
          · rcases hg1 with h | h
            · omega
            · rw [h]; simp; omega
          · exact (hO5.alloc _).grown hgr1 (fun e => by injection e; omega)
          · exact (hbs5.alloc s5 _).grown hgr1 (by simp; omega) (fun k e => by injection e; omega)
        case measure => simp [intOf]; omega
    · obtain rfl : k = 4 := by omega
      go_wp2_with fail
      go_ret
      exact ⟨_, gb, rfl, by omega, hG, hbs⟩
set_option maxRecDepth 100000 in
set_option maxHeartbeats 1000000 in
theorem l04Best_any (n : Nat) (hn : 1 ≤ n ∧ n ≤ 20) (P : Nat → Aqf) (hP : ∀ i, i < n → AqD (P i).T (P i).S) (s : Si) (hs : SiD s) (m : Nat) (hm : m ≤ 8) (R : Nat → Rg) (hR : ∀ i, i < m → RgD (R i)) (u v : Value) (w : World) (hu : QSl w u n P) (hv : RSl w v m R) :
    Calls Try.prog 42 #[u, .agg s.cells, v] w fun e w' => e = .returned (.tuple #[.int .i64 (lsTo (fun i => mfX s R m (P i).T (P i).S) n : Nat), .float .f32 (mfX s R m (P (lsTo (fun i => mfX s R m (P i).T (P i).S) n)).T (P (lsTo (fun i => mfX s R m (P i).T (P i).S) n)).S)]) ∧ Below w.heap.size w w' := by
  have hb := below1 w (.cells #[.int .i8 s.px, .int .i8 s.py, .float .f32 s.rt, .int .i8 s.x, .int .i8 s.y] 32)
  have hu := hu.below hb
  have hv := hv.below hb
  have hmf := fun i (hi : i < n) w' hv' => l04Misfit_any (P i).T (P i).S (hP i hi).aq s hs m hm R hR v w' hv'
  have hfin := fun i (hi : i < n) => (mfX_in (hP i hi).aq hs hR hm).1
  rw [s.cells_eq] at hmf ⊢
  have hB := Blk.new w #[.int .i8 s.px, .int .i8 s.py, .float .f32 s.rt, .int .i8 s.x, .int .i8 s.y] 32
  obtain ⟨E, hE⟩ : ∃ E : Nat → Nat, (fun i => mfX s R m (P i).T (P i).S) = E := ⟨_, rfl⟩
  have hE2 : ∀ i, mfX s R m (P i).T (P i).S = E i := fun i => congrFun hE i
  rw [hE]
  simp only [hE2] at hmf hfin ⊢
  obtain ⟨a, c, rfl, hc1, hc2, hcell⟩ := hu
  unfold maxLen at hc2
  have HC := Lib.hid hcell
  have HF := Lib.hid hfin
  have HM := Lib.hid hmf
  have HV := Lib.hid hv
  obtain ⟨n1, n2⟩ := hn
  clear hcell hfin hmf hE hE2 hP hs hR hv
  go_enter Try.func42, Try.ntmps42
  go_upto_region 1 with fail
  generalize w.alloc (.cells #[.int .i8 s.px, .int .i8 s.py, .float .f32 s.rt, .int .i8 s.x, .int .i8 s.y] 32) = W at *
  obtain ⟨b0, e0⟩ : ∃ b, w.heap.size = b := ⟨_, rfl⟩
  rw [e0] at hB ⊢
  have lB := hB.lt
  have bn : (0 : Int) < n := by omega
  have hn0 : ¬ n = 0 := by omega
  obtain ⟨b, o, rfl, hbl, hcell⟩ := HC.out.resolve_left (by omega)
  have HCC := Lib.hid hcell
  have z0 : W.cell? ⟨b, o, none⟩ = some (.float .f32 (P 0).T) := by
    have := (hcell 0 0 (by omega) (by omega)).trans (P 0).get0
    simpa using this
  have z1 : W.cell? ⟨b, o + 1, none⟩ = some (.float .f32 (P 0).S) := by
    have := (hcell 0 1 (by omega) (by omega)).trans (P 0).get1
    simpa using this
  have hm0 := HM.out 0 (by omega)
  have b00 : (0 : Int) ≤ (0 : Int) := by omega
  clear hcell HC
  go_upto_region 2 with fail
  have hmW : ∀ w', Below W.heap.size W w' → Calls Try.prog 38 #[.agg #[.float .f32 (P 0).T, .float .f32 (P 0).S], .agg #[.int .i8 s.px, .int .i8 s.py, .float .f32 s.rt, .int .i8 s.x, .int .i8 s.y], v] w' fun e w'' => e = .returned (.float .f32 (E 0)) ∧ Below w'.heap.size w' w'' := fun w' h => hm0 w' (HV.out.below h)
  refine wp_loose (C := fun w' => Below W.heap.size W w') (R := fun w w' => Below w.heap.size w w') (F := fun _ dd vv => match dd, vv with
    | 12, vv => vv = .slice (some ⟨b, o, none⟩) n c
    | 13, vv => vv = .pointer (some ⟨b, o + 0 * 2, none⟩)
    | 14, vv => vv = .agg (#[.float .f32 (P 0).T, .float .f32 (P 0).S])
    | 15, vv => vv = .agg (#[.int .i8 s.px, .int .i8 s.py, .float .f32 s.rt, .int .i8 s.x, .int .i8 s.y])
    | 16, vv => vv = v
    | 17, vv => vv = .float .f32 (E 0)
    | 9, vv => vv = .float .f32 (E 0)
    | _, _ => True) (fun _ _ _ _ _ h => h) (by kernel_rfl) (by kernel_rfl) (by kernel_rfl) (Below.refl _ _).drew ?_ ?_
  · refine steps_cons (step_go rfl fun ev w1 hC kn => ?_) ?_
    · have e1 : ev (.tmp 0) = .slice (some ⟨b, o, none⟩) n c := kn.out 0 rfl rfl rfl
      exact good_of (v := .slice (some ⟨b, o, none⟩) n c) rfl (by simp [execOp, e1, kn.con, go_sem]) hC (Below.refl _ _) rfl
    refine steps_cons (step_go rfl fun ev w1 hC kn => ?_) ?_
    · have e1 : ev (.tmp 12) = .slice (some ⟨b, o, none⟩) n c := kn.inn 12 rfl rfl
      exact good_of (v := .pointer (some ⟨b, o + 0 * 2, none⟩)) rfl (by simp [execOp, e1, kn.con, go_sem, bn, hn0]) hC (Below.refl _ _) rfl
    refine steps_cons (step_go rfl fun ev w1 hC kn => ?_) ?_
    · have e1 : ev (.tmp 13) = .pointer (some ⟨b, o + 0 * 2, none⟩) := kn.inn 13 rfl rfl
      exact good_of (v := .agg (#[.float .f32 (P 0).T, .float .f32 (P 0).S])) rfl (load_aq2 e1 (below_cell hC hbl z0) (below_cell hC hbl z1)) hC (Below.refl _ _) rfl
    refine steps_cons (step_go rfl fun ev w1 hC kn => ?_) ?_
    · have e1 : ev (.tmp 4) = .pointer (some ⟨b0, 0, none⟩) := kn.out 4 rfl rfl rfl
      exact good_of (v := .agg (#[.int .i8 s.px, .int .i8 s.py, .float .f32 s.rt, .int .i8 s.x, .int .i8 s.y])) rfl (load_blk e1 rowSi (hB.below hC lB) rfl) hC (Below.refl _ _) rfl
    refine steps_cons (step_go rfl fun ev w1 hC kn => ?_) ?_
    · have e1 : ev (.tmp 2) = v := kn.out 2 rfl rfl rfl
      exact good_of (v := v) rfl (by simp [execOp, e1, kn.con, go_sem]) hC (Below.refl _ _) rfl
    refine steps_cons (step_go rfl fun ev w1 hC kn => ?_) ?_
    · have e1 : ev (.tmp 14) = .agg (#[.float .f32 (P 0).T, .float .f32 (P 0).S]) := kn.inn 14 rfl rfl
      have e2 : ev (.tmp 15) = .agg (#[.int .i8 s.px, .int .i8 s.py, .float .f32 s.rt, .int .i8 s.x, .int .i8 s.y]) := kn.inn 15 rfl rfl
      have e3 : ev (.tmp 16) = v := kn.inn 16 rfl rfl
      refine good_call (f := 38) (args := #[.agg (#[.float .f32 (P 0).T, .float .f32 (P 0).S]), .agg (#[.int .i8 s.px, .int .i8 s.py, .float .f32 s.rt, .int .i8 s.x, .int .i8 s.y]), v]) rfl (by simp [execOp, e1, e2, e3, kn.fn, kn.con, go_sem]) ((hmW w1 hC).mono fun e w2 ⟨he, hb⟩ => ⟨_, he, hC.trans (hb.mono hC.size), hb, rfl⟩)
    refine steps_cons (step_go rfl fun ev w1 hC kn => ?_) ?_
    · have e1 : ev (.tmp 17) = .float .f32 (E 0) := kn.inn 17 rfl rfl
      exact good_of (v := .float .f32 (E 0)) rfl (by simp [execOp, e1, kn.con, go_sem]) hC (Below.refl _ _) rfl
    exact steps_nil
  rintro xv w3 hxv hb3
  have y9 : xv 9 = .float .f32 (E 0) := hxv 9 (by decide)
  simp only [fill, dstsOf, List.filterMap_cons, List.filterMap_nil, List.foldl_cons, List.foldl_nil, List.set_cons_succ, List.set_cons_zero, y9]
  clear hxv y9
  have hb4 := hb.trans (hb3.mono hb.size)
  have hB4 := hB.below hb3 lB
  clear hmW hm0 z0 z1
  go_wp2_with fail
  go_loopw [8, 9, 10] (fun x y i wr => ∃ (k : Nat), 1 ≤ k ∧ k ≤ n ∧ i = .int .i64 k ∧ x = .int .i64 (lsTo E k : Nat) ∧ y = .float .f32 (E (lsTo E k)) ∧ Blk wr b0 #[.int .i8 s.px, .int .i8 s.py, .float .f32 s.rt, .int .i8 s.x, .int .i8 s.y] 32 ∧ Below W.heap.size W wr) (fun _ _ i _ => n - (intOf i).toNat)
  case atStart => exact ⟨1, by omega, by omega, rfl, rfl, rfl, hB4, hb3⟩
  case round =>
    clear hB4 hb4 hb3
    obtain ⟨k, hk1, hk, rfl, rfl, rfl, hB1, hbW⟩ := hrel
    have bk : (0 : Int) ≤ k := by omega
    by_cases hlt : k < n
    · have bl : (k : Int) < n := by omega
      have y0 : wr.cell? ⟨b, o + k * 2, none⟩ = some (.float .f32 (P k).T) := (hbW.cell (p := ⟨b, _, none⟩) hbl).trans ((HCC.out k 0 hlt (by omega)).trans (P k).get0)
      have y1 : wr.cell? ⟨b, o + k * 2 + 1, none⟩ = some (.float .f32 (P k).S) := (hbW.cell (p := ⟨b, _, none⟩) hbl).trans ((HCC.out k 1 hlt (by omega)).trans (P k).get1)
      have sW := hbW.size
      have lb : b < wr.heap.size := by omega
      have lB1 := hB1.lt
      have hmk := HM.out k hlt
      have hmW : ∀ w', Below wr.heap.size wr w' → Calls Try.prog 38 #[.agg #[.float .f32 (P k).T, .float .f32 (P k).S], .agg #[.int .i8 s.px, .int .i8 s.py, .float .f32 s.rt, .int .i8 s.x, .int .i8 s.y], v] w' fun e w'' => e = .returned (.float .f32 (E k)) ∧ Below w'.heap.size w' w'' := fun w' h => hmk w' ((HV.out.below hbW).below h)
      have hll := lsTo_lt E k hk1
      have ht := flt_eq (E k) (E (lsTo E k))
      rw [flt_fin (HF.out k hlt) (HF.out _ (by omega))] at ht
      have hst := lsTo_step E k hk1
      go_wp2_with fail
      refine wp_loose (C := fun w' => Below wr.heap.size wr w') (R := fun w w' => Below w.heap.size w w') (F := fun _ dd vv => match dd, vv with
        | 24, vv => vv = .slice (some ⟨b, o, none⟩) n c
        | 25, vv => vv = .int .i64 k
        | 26, vv => vv = .pointer (some ⟨b, o + k * 2, none⟩)
        | 27, vv => vv = .agg (#[.float .f32 (P k).T, .float .f32 (P k).S])
        | 28, vv => vv = .agg (#[.int .i8 s.px, .int .i8 s.py, .float .f32 s.rt, .int .i8 s.x, .int .i8 s.y])
        | 29, vv => vv = v
        | 30, vv => vv = .float .f32 (E k)
        | 11, vv => vv = .float .f32 (E k)
        | _, _ => True) (fun _ _ _ _ _ h => h) (by kernel_rfl) (by kernel_rfl) (by kernel_rfl) (Below.refl _ _).drew ?_ ?_
      · refine steps_cons (step_go rfl fun ev w1 hC kn => ?_) ?_
        · have e1 : ev (.tmp 0) = .slice (some ⟨b, o, none⟩) n c := kn.out 0 rfl rfl rfl
          exact good_of (v := .slice (some ⟨b, o, none⟩) n c) rfl (by simp [execOp, e1, kn.con, go_sem]) hC (Below.refl _ _) rfl
        refine steps_cons (step_go rfl fun ev w1 hC kn => ?_) ?_
        · have e1 : ev (.tmp 10) = .int .i64 k := kn.out 10 rfl rfl rfl
          exact good_of (v := .int .i64 k) rfl (by simp [execOp, e1, kn.con, go_sem]) hC (Below.refl _ _) rfl
        refine steps_cons (step_go rfl fun ev w1 hC kn => ?_) ?_
        · have e1 : ev (.tmp 24) = .slice (some ⟨b, o, none⟩) n c := kn.inn 24 rfl rfl
          have e2 : ev (.tmp 25) = .int .i64 k := kn.inn 25 rfl rfl
          exact good_of (v := .pointer (some ⟨b, o + k * 2, none⟩)) rfl (by simp [execOp, e1, e2, kn.con, go_sem, bk, bl]) hC (Below.refl _ _) rfl
        refine steps_cons (step_go rfl fun ev w1 hC kn => ?_) ?_
        · have e1 : ev (.tmp 26) = .pointer (some ⟨b, o + k * 2, none⟩) := kn.inn 26 rfl rfl
          exact good_of (v := .agg (#[.float .f32 (P k).T, .float .f32 (P k).S])) rfl (load_aq2 e1 (below_cell hC lb y0) (below_cell hC lb y1)) hC (Below.refl _ _) rfl
        refine steps_cons (step_go rfl fun ev w1 hC kn => ?_) ?_
        · have e1 : ev (.tmp 4) = .pointer (some ⟨b0, 0, none⟩) := kn.out 4 rfl rfl rfl
          exact good_of (v := .agg (#[.int .i8 s.px, .int .i8 s.py, .float .f32 s.rt, .int .i8 s.x, .int .i8 s.y])) rfl (load_blk e1 rowSi (hB1.below hC lB1) rfl) hC (Below.refl _ _) rfl
        refine steps_cons (step_go rfl fun ev w1 hC kn => ?_) ?_
        · have e1 : ev (.tmp 2) = v := kn.out 2 rfl rfl rfl
          exact good_of (v := v) rfl (by simp [execOp, e1, kn.con, go_sem]) hC (Below.refl _ _) rfl
        refine steps_cons (step_go rfl fun ev w1 hC kn => ?_) ?_
        · have e1 : ev (.tmp 27) = .agg (#[.float .f32 (P k).T, .float .f32 (P k).S]) := kn.inn 27 rfl rfl
          have e2 : ev (.tmp 28) = .agg (#[.int .i8 s.px, .int .i8 s.py, .float .f32 s.rt, .int .i8 s.x, .int .i8 s.y]) := kn.inn 28 rfl rfl
          have e3 : ev (.tmp 29) = v := kn.inn 29 rfl rfl
          refine good_call (f := 38) (args := #[.agg (#[.float .f32 (P k).T, .float .f32 (P k).S]), .agg (#[.int .i8 s.px, .int .i8 s.py, .float .f32 s.rt, .int .i8 s.x, .int .i8 s.y]), v]) rfl (by simp [execOp, e1, e2, e3, kn.fn, kn.con, go_sem]) ((hmW w1 hC).mono fun e w2 ⟨he, hb⟩ => ⟨_, he, hC.trans (hb.mono hC.size), hb, rfl⟩)
        refine steps_cons (step_go rfl fun ev w1 hC kn => ?_) ?_
        · have e1 : ev (.tmp 30) = .float .f32 (E k) := kn.inn 30 rfl rfl
          exact good_of (v := .float .f32 (E k)) rfl (by simp [execOp, e1, kn.con, go_sem]) hC (Below.refl _ _) rfl
        exact steps_nil
      rintro xv w5 hxv hb5
      have y11 : xv 11 = .float .f32 (E k) := hxv 11 (by decide)
      simp only [fill, dstsOf, List.filterMap_cons, List.filterMap_nil, List.foldl_cons, List.foldl_nil, List.set_cons_succ, List.set_cons_zero, y11]
      clear hxv y11
      have hB5 := hB1.below hb5 lB1
      have hbW5 := hbW.trans (hb5.mono sW)
      by_cases hl : E k < E (lsTo E k)
      · rw [decide_eq_true hl] at ht
        rw [if_pos hl] at hst
        have HST := Lib.hid hst
        clear hst hmW hmk y0 y1
        go_wp2_with fail
        go_roundw
        case rel => exact ⟨k + 1, by omega, by omega, by go_num, by rw [HST.out], by rw [HST.out], hB5, hbW5⟩
        case measure => simp [intOf]; omega
      · rw [decide_eq_false hl] at ht
        rw [if_neg hl] at hst
        have HST := Lib.hid hst
        clear hst hmW hmk y0 y1
        go_wp2_with fail
        go_roundw
        case rel => exact ⟨k + 1, by omega, by omega, by go_num, by rw [HST.out], by rw [HST.out], hB5, hbW5⟩
        case measure => simp [intOf]; omega
    · obtain rfl : k = n := by omega
      go_wp2_with fail
      go_ret2
      exact ⟨rfl, hb.trans (hbW.mono hb.size)⟩
theorem okT_of {R : Nat → Rg} : ∀ n, (∀ i, i < n → 1 ≤ (R i).tim ∧ (R i).tim ≤ 100000) → (∀ i j, i < j → j < n → (R i).tim < (R j).tim) → okT R n = true
  | 0, _, _ => rfl
  | n + 1, h1, h2 => by
    have ih := okT_of n (fun i hi => h1 i (by omega)) (fun i j hij hj => h2 i j hij (by omega))
    have a := h1 n (by omega)
    have b : prevT R n < (R n).tim := by
      cases n with
      | zero => show (0 : Int) < _; omega
      | succ m => exact h2 m (m + 1) (by omega) (by omega)
    unfold okT
    simp [ih]
    omega
/-- Readings that are looked at. -/
structure RdD (n : Nat) (R : Nat → Rg) : Prop where
  le : n ≤ 8
  each : ∀ i, i < n → RgD (R i)
  ok : okT R n = true
set_option maxRecDepth 100000 in
set_option maxHeartbeats 1000000 in
theorem l04Asked_any (T S : Nat) (hA : AqD T S) (s : Si) (hs : SiD s) (n : Nat) (R : Nat → Rg) (hR : RdD n R) (v : Value) (w : World) (hv : RSl w v n R) :
    Calls Try.prog 37 #[.agg #[.float .f32 T, .float .f32 S], .agg s.cells, v] w fun e w' => e = .returned (.int .i64 0) ∧ Below w.heap.size w w' := by
  have q1 := fun w' => l03Aquifer_any T S hA.ok w'
  have q2 := fun w' => l04Site_any s hs w'
  have hb := below2 w (.cells #[.float .f32 T, .float .f32 S] 26) (.cells #[.int .i8 s.px, .int .i8 s.py, .float .f32 s.rt, .int .i8 s.x, .int .i8 s.y] 32)
  have hv := hv.below hb
  have q3 := fun w' (hv : RSl w' v n R) => l04Ok_any n R v w' hv
  rw [hR.ok, decide_eq_true (by have := hR.le; omega : n ≤ 40)] at q3
  rw [s.cells_eq] at q2 ⊢
  have hA0 : Blk ((w.alloc (.cells #[.float .f32 T, .float .f32 S] 26)).alloc (.cells #[.int .i8 s.px, .int .i8 s.py, .float .f32 s.rt, .int .i8 s.x, .int .i8 s.y] 32)) w.heap.size #[.float .f32 T, .float .f32 S] 26 := (Blk.new _ _ _).alloc _
  have hB0 : Blk ((w.alloc (.cells #[.float .f32 T, .float .f32 S] 26)).alloc (.cells #[.int .i8 s.px, .int .i8 s.py, .float .f32 s.rt, .int .i8 s.x, .int .i8 s.y] 32)) (w.heap.size + 1) #[.int .i8 s.px, .int .i8 s.py, .float .f32 s.rt, .int .i8 s.x, .int .i8 s.y] 32 := Blk.new1 _ _ _ _
  clear hA hs hR
  go_enter Try.func37, Try.ntmps37
  go_upto_region 1 with fail
  generalize (w.alloc (.cells #[.float .f32 T, .float .f32 S] 26)).alloc (.cells #[.int .i8 s.px, .int .i8 s.py, .float .f32 s.rt, .int .i8 s.x, .int .i8 s.y] 32) = W at *
  go_wp2_with (first | (refine wpList_load_blk rfl rfl rfl rowAq hA0 rfl ?_) | (refine wpList_load_wantT rfl rfl rfl rowSi hB0 rfl ?_) | (go_at_call 28; refine (q1 _).mono ?_; rintro e w1 ⟨rfl, hb1⟩; replace hB0 := hB0.below hb1 hB0.lt; replace hv := hv.below hb1; replace hb := hb.trans (hb1.mono hb.size); clear hb1) | (go_at_call 29; refine (q2 _).mono ?_; rintro e w2 ⟨rfl, hb2⟩; replace hv := hv.below hb2; replace hb := hb.trans (hb2.mono hb.size); clear hb2) | (go_at_call 65; refine (q3 _ hv).mono ?_; rintro e w' ⟨rfl, hw⟩; rw [hw]; clear hw w'))
  go_ret
  exact ⟨rfl, hb⟩
set_option maxRecDepth 100000 in
set_option maxHeartbeats 1000000 in
theorem specMisfitOf_any (T S : Nat) (hA : AqD T S) (s : Si) (hs : SiD s) (n : Nat) (R : Nat → Rg) (hR : RdD n R) (v : Value) (w : World) (hv : RSl w v n R) :
    Calls Try.prog 11 #[.agg #[.float .f32 T, .float .f32 S], .agg s.cells, v] w fun e w' => e = .returned (.tuple #[.float .f32 (mfX s R n T S), .int .i64 0]) ∧ Below w.heap.size w w' := by
  have q1 := fun w' (hv : RSl w' v n R) => l04Asked_any T S hA s hs n R hR v w' hv
  have q2 := fun w' (hv : RSl w' v n R) => l04Misfit_any T S hA.aq s hs n hR.le R hR.each v w' hv
  have hb := below2 w (.cells #[.float .f32 T, .float .f32 S] 26) (.cells #[.int .i8 s.px, .int .i8 s.py, .float .f32 s.rt, .int .i8 s.x, .int .i8 s.y] 32)
  have hv := hv.below hb
  rw [s.cells_eq] at q1 q2 ⊢
  have hA0 : Blk ((w.alloc (.cells #[.float .f32 T, .float .f32 S] 26)).alloc (.cells #[.int .i8 s.px, .int .i8 s.py, .float .f32 s.rt, .int .i8 s.x, .int .i8 s.y] 32)) w.heap.size #[.float .f32 T, .float .f32 S] 26 := (Blk.new _ _ _).alloc _
  have hB0 : Blk ((w.alloc (.cells #[.float .f32 T, .float .f32 S] 26)).alloc (.cells #[.int .i8 s.px, .int .i8 s.py, .float .f32 s.rt, .int .i8 s.x, .int .i8 s.y] 32)) (w.heap.size + 1) #[.int .i8 s.px, .int .i8 s.py, .float .f32 s.rt, .int .i8 s.x, .int .i8 s.y] 32 := Blk.new1 _ _ _ _
  generalize mfX s R n T S = Z at *
  clear hA hs hR
  go_enter Try.func11, Try.ntmps11
  go_upto_region 1 with fail
  generalize (w.alloc (.cells #[.float .f32 T, .float .f32 S] 26)).alloc (.cells #[.int .i8 s.px, .int .i8 s.py, .float .f32 s.rt, .int .i8 s.x, .int .i8 s.y] 32) = W at *
  go_wp2_with (first | (refine wpList_load_blk rfl rfl rfl rowAq hA0 rfl ?_) | (refine wpList_load_blk rfl rfl rfl rowSi hB0 rfl ?_) | (go_at_call 37; refine (q1 _ hv).mono ?_; rintro e w1 ⟨rfl, hb1⟩; replace hA0 := hA0.below hb1 hA0.lt; replace hB0 := hB0.below hb1 hB0.lt; replace hv := hv.below hb1; replace hb := hb.trans (hb1.mono hb.size); clear hb1) | (go_at_call 38; refine (q2 _ hv).mono ?_; rintro e w2 ⟨rfl, hb2⟩; replace hb := hb.trans (hb2.mono hb.size); clear hb2))
  go_ret2
  exact ⟨rfl, hb⟩
set_option maxRecDepth 100000 in
set_option maxHeartbeats 1000000 in
theorem l04Guesses_any (n : Nat) (hn : 1 ≤ n ∧ n ≤ 20) (P : Nat → Aqf) (hP : ∀ i, i < n → AqD (P i).T (P i).S) (s : Si) (hs : SiD s) (m : Nat) (R : Nat → Rg) (hR : RdD m R) (u v : Value) (w : World) (hu : QSl w u n P) (hv : RSl w v m R) :
    Calls Try.prog 47 #[u, .agg s.cells, v] w fun e w' => e = .returned (.int .i64 0) ∧ Below w.heap.size w w' := by
  have q2 := fun w' => l04Site_any s hs w'
  have q3 := fun w' (hv : RSl w' v m R) => l04Ok_any m R v w' hv
  rw [hR.ok, decide_eq_true (by have := hR.le; omega : m ≤ 40)] at q3
  have q1 := fun i (hi : i < n) w' => l03Aquifer_any (P i).T (P i).S (hP i hi).ok w'
  have q4 := fun w' => l00In_any (n : Int) 1 20 w'
  rw [decide_eq_true (by omega : (1 : Int) ≤ n), decide_eq_true (by omega : (n : Int) ≤ 20)] at q4
  rw [s.cells_eq] at q2 ⊢
  have hb := below1 w (.cells #[.int .i8 s.px, .int .i8 s.py, .float .f32 s.rt, .int .i8 s.x, .int .i8 s.y] 32)
  have hu := hu.below hb
  have hv := hv.below hb
  have hB := Blk.new w #[.int .i8 s.px, .int .i8 s.py, .float .f32 s.rt, .int .i8 s.x, .int .i8 s.y] 32
  obtain ⟨a, c, rfl, hc1, hc2, hcell⟩ := hu
  unfold maxLen at hc2
  obtain ⟨n1, n2⟩ := hn
  obtain ⟨b, o, rfl, hbl, hcell⟩ := hcell.resolve_left (by omega)
  have HC := Lib.hid hcell
  have HQ := Lib.hid q1
  clear hcell q1 hP hs hR
  go_enter Try.func47, Try.ntmps47
  go_upto_region 1 with fail
  generalize w.alloc (.cells #[.int .i8 s.px, .int .i8 s.py, .float .f32 s.rt, .int .i8 s.x, .int .i8 s.y] 32) = W at *
  go_upto_region 2 with (first | (refine wpList_load_blk rfl rfl rfl rowSi hB rfl ?_) | (go_at_call 29; refine (q2 _).mono ?_; rintro e w2 ⟨rfl, hb2⟩; replace hv := hv.below hb2) | (go_at_call 65; refine (q3 _ hv).mono ?_; rintro e w' ⟨rfl, hw⟩; rw [hw]; clear hw w'))
  have hb3 := hb.trans (hb2.mono hb.size)
  clear hB hv
  go_wp2_with fail
  go_loopw [7, 8] (fun y i wr => ∃ (k : Nat), k ≤ n ∧ i = .int .i64 k ∧ y = .bool true ∧ Below w.heap.size w wr ∧ Below W.heap.size W wr) (fun _ i _ => n - (intOf i).toNat)
  case atStart => exact ⟨0, by omega, rfl, rfl, hb3, hb2⟩
  case round =>
    clear hb3 hb2
    obtain ⟨k, hk, rfl, rfl, hbs, hbW⟩ := hrel
    have bk : (0 : Int) ≤ k := by omega
    by_cases hlt : k < n
    · have bl : (k : Int) < n := by omega
      have y0 : wr.cell? ⟨b, o + k * 2, none⟩ = some (.float .f32 (P k).T) := (hbW.cell (p := ⟨b, _, none⟩) hbl).trans ((HC.out k 0 hlt (by omega)).trans (P k).get0)
      have y1 : wr.cell? ⟨b, o + k * 2 + 1, none⟩ = some (.float .f32 (P k).S) := (hbW.cell (p := ⟨b, _, none⟩) hbl).trans ((HC.out k 1 hlt (by omega)).trans (P k).get1)
      have q1 := HQ.out k hlt
      have e1 := hbs.size
      have e2 := hbW.size
      go_wp2_with (go_at_call 28; refine (q1 _).mono ?_; rintro e w5 ⟨rfl, hb5⟩)
      go_roundw
      case rel => exact ⟨k + 1, by omega, by go_num, rfl, hbs.trans (hb5.mono e1), hbW.trans (hb5.mono e2)⟩
      case measure => simp [intOf]; omega
    · obtain rfl : k = n := by omega
      go_wp2_with (go_at_call 30; refine (q4 _).mono ?_; rintro e w' ⟨rfl, hw⟩; rw [hw]; clear hw w')
      go_ret
      exact ⟨rfl, hbs⟩
/-- The misfits of several aquifers. -/
def mfL (s : Si) (R : Nat → Rg) (m : Nat) (P : Nat → Aqf) (i : Nat) : Nat := mfX s R m (P i).T (P i).S
set_option maxRecDepth 100000 in
set_option maxHeartbeats 1000000 in
theorem specBestGuess_any (n : Nat) (hn : 1 ≤ n ∧ n ≤ 20) (P : Nat → Aqf) (hP : ∀ i, i < n → AqD (P i).T (P i).S) (s : Si) (hs : SiD s) (m : Nat) (R : Nat → Rg) (hR : RdD m R) (u v : Value) (w : World) (hu : QSl w u n P) (hv : RSl w v m R) :
    Calls Try.prog 17 #[u, .agg s.cells, v] w fun e w' => e = .returned (.tuple #[.int .i64 (lsTo (mfL s R m P) n : Nat), .float .f32 (mfL s R m P (lsTo (mfL s R m P) n)), .int .i64 0]) ∧ Below w.heap.size w w' := by
  have q1 := fun w' (hu : QSl w' u n P) (hv : RSl w' v m R) => l04Guesses_any n hn P hP s hs m R hR u v w' hu hv
  have q2 := fun w' (hu : QSl w' u n P) (hv : RSl w' v m R) => l04Best_any n hn P hP s hs m hR.le R hR.each u v w' hu hv
  change ∀ w', _ → _ → Calls _ _ _ w' (fun e w'' => e = .returned (.tuple #[.int .i64 (lsTo (mfL s R m P) n : Nat), .float .f32 (mfL s R m P (lsTo (mfL s R m P) n))]) ∧ _) at q2
  rw [s.cells_eq] at q1 q2 ⊢
  have hb := below1 w (.cells #[.int .i8 s.px, .int .i8 s.py, .float .f32 s.rt, .int .i8 s.x, .int .i8 s.y] 32)
  have hu := hu.below hb
  have hv := hv.below hb
  have hB := Blk.new w #[.int .i8 s.px, .int .i8 s.py, .float .f32 s.rt, .int .i8 s.x, .int .i8 s.y] 32
  generalize mfL s R m P (lsTo (mfL s R m P) n) = Z at *
  generalize lsTo (mfL s R m P) n = Y at *
  clear hs hR hP
  go_enter Try.func17, Try.ntmps17
  go_upto_region 1 with fail
  generalize w.alloc (.cells #[.int .i8 s.px, .int .i8 s.py, .float .f32 s.rt, .int .i8 s.x, .int .i8 s.y] 32) = W at *
  go_wp2_with (first | (refine wpList_load_blk rfl rfl rfl rowSi hB rfl ?_) | (go_at_call 47; refine (q1 _ hu hv).mono ?_; rintro e w1 ⟨rfl, hb1⟩; replace hB := hB.below hb1 hB.lt; replace hv := hv.below hb1; replace hu := hu.below hb1; replace hb := hb.trans (hb1.mono hb.size); clear hb1) | (go_at_call 42; refine (q2 _ hu hv).mono ?_; rintro e w2 ⟨rfl, hb2⟩; replace hb := hb.trans (hb2.mono hb.size); clear hb2))
  go_ret3
  exact ⟨rfl, hb⟩
/-- The places of those of the first k whose misfit is within a bound. -/
def wtTo (F : Nat → Nat) (bd : Nat) : Nat → List Nat
  | 0 => []
  | k + 1 => if fle (F k) bd = true then wtTo F bd k ++ [k] else wtTo F bd k
theorem wtTo_len (F : Nat → Nat) (bd : Nat) : ∀ k, (wtTo F bd k).length ≤ k
  | 0 => Nat.le_refl _
  | k + 1 => by
    have := wtTo_len F bd k
    unfold wtTo
    split
    · simp; omega
    · omega
def wtI (F : Nat → Nat) (bd k : Nat) (i : Nat) : Int := (((wtTo F bd k).getD i 0 : Nat) : Int)
theorem wt_mts (F : Nat → Nat) (bd k : Nat) : (fle (F k) bd = true → mts (wtTo F bd (k + 1)).length (wtI F bd (k + 1)) = mts (wtTo F bd k).length (wtI F bd k) ++ [.int .i64 (k : Int)] ∧ (wtTo F bd (k + 1)).length = (wtTo F bd k).length + 1) ∧ (fle (F k) bd = false → mts (wtTo F bd (k + 1)).length (wtI F bd (k + 1)) = mts (wtTo F bd k).length (wtI F bd k) ∧ (wtTo F bd (k + 1)).length = (wtTo F bd k).length) := by
  constructor
  · intro h
    have e : wtTo F bd (k + 1) = wtTo F bd k ++ [k] := by
      show (if fle (F k) bd = true then wtTo F bd k ++ [k] else wtTo F bd k) = _
      rw [if_pos h]
    have e2 : ∀ i, wtI F bd (k + 1) i = (((wtTo F bd k ++ [k]).getD i 0 : Nat) : Int) := fun i => by unfold wtI; rw [e]
    refine ⟨?_, by rw [e]; simp⟩
    rw [e, List.length_append, List.length_singleton, mts_succ, mts_congr (g := wtI F bd k) (fun i hi => by rw [e2, getD_app hi]; rfl), e2, getD_last]
  · intro h
    have e : wtTo F bd (k + 1) = wtTo F bd k := by
      show (if fle (F k) bd = true then wtTo F bd k ++ [k] else wtTo F bd k) = _
      rw [h, if_neg Bool.false_ne_true]
    refine ⟨?_, by rw [e]⟩
    rw [e]
    exact mts_congr fun i _ => by unfold wtI; rw [e]
/-- What FitsWithin gives. -/
def GaveWt (w : World) (F : Nat → Nat) (bd n : Nat) (e : Ending) (w' : World) : Prop := ∃ (x : Value) (g : Nat), e = .returned (.tuple #[x, .int .i64 0]) ∧ w.heap.size ≤ g ∧ Own w' g 2 1 x (wtTo F bd n).length (mts (wtTo F bd n).length (wtI F bd n)) ∧ Below w.heap.size w w'
set_option maxRecDepth 100000 in
set_option maxHeartbeats 1000000 in
theorem specFitsWithin_any (n : Nat) (hn : 1 ≤ n ∧ n ≤ 20) (P : Nat → Aqf) (hP : ∀ i, i < n → AqD (P i).T (P i).S) (s : Si) (hs : SiD s) (m : Nat) (R : Nat → Rg) (hR : RdD m R) (bd : Nat) (u v : Value) (w : World) (hu : QSl w u n P) (hv : RSl w v m R) :
    Calls Try.prog 20 #[u, .agg s.cells, v, .float .f32 bd] w (GaveWt w (mfL s R m P) bd n) := by
  have q1 := fun w' (hu : QSl w' u n P) (hv : RSl w' v m R) => l04Guesses_any n hn P hP s hs m R hR u v w' hu hv
  have hmf := fun i (hi : i < n) w' hv' => l04Misfit_any (P i).T (P i).S (hP i hi).aq s hs m hR.le R hR.each v w' hv'
  change ∀ i, i < n → ∀ w', RSl w' v m R → Calls _ _ _ w' (fun e w'' => e = .returned (.float .f32 (mfL s R m P i)) ∧ _) at hmf
  rw [s.cells_eq] at q1 hmf ⊢
  generalize mfL s R m P = E at *
  have hb := below1 w (.cells #[.int .i8 s.px, .int .i8 s.py, .float .f32 s.rt, .int .i8 s.x, .int .i8 s.y] 32)
  have hu := hu.below hb
  have hv := hv.below hb
  have hB := Blk.new w #[.int .i8 s.px, .int .i8 s.py, .float .f32 s.rt, .int .i8 s.x, .int .i8 s.y] 32
  obtain ⟨n1, n2⟩ := hn
  clear hs hR hP
  go_enter Try.func20, Try.ntmps20
  go_upto_region 1 with fail
  generalize w.alloc (.cells #[.int .i8 s.px, .int .i8 s.py, .float .f32 s.rt, .int .i8 s.x, .int .i8 s.y] 32) = W at *
  go_upto_region 4 with (first | (refine wpList_load_blk rfl rfl rfl rowSi hB rfl ?_) | (go_at_call 47; refine (q1 _ hu hv).mono ?_; rintro e w1 ⟨rfl, hb1⟩; replace hB := hB.below hb1 hB.lt; replace hv := hv.below hb1; replace hu := hu.below hb1; replace hb := hb.trans (hb1.mono hb.size); clear hb1))
  obtain ⟨a, c, rfl, hc1, hc2, hcell⟩ := hu
  unfold maxLen at hc2
  obtain ⟨b, o, rfl, hbl, hcell⟩ := hcell.resolve_left (by omega)
  have HC := Lib.hid hcell
  have HM := Lib.hid hmf
  have lB := hB.lt
  clear hcell hmf
  go_upto_region 5 with fail
  have hG : Own (w1.alloc (.cells #[] 2)) w1.heap.size 2 1 (.slice (some ⟨w1.heap.size, 0, none⟩) 0 0) (wtTo E bd 0).length (mts (wtTo E bd 0).length (wtI E bd 0)) := own_blk (Blk.new _ _ _) rfl (by decide) (by show _ = mts 0 _; rw [mts_zero])
  have hB1 := hB.alloc (.cells #[] 2)
  have hb2 := hb.alloc hb.size (.cells #[] 2)
  have hW2 := below1 w1 (.cells #[] 2)
  have sw := hb.size
  generalize w1.alloc (.cells #[] 2) = W2 at *
  obtain ⟨g0, hg0⟩ : ∃ g, w1.heap.size = g := ⟨_, rfl⟩
  rw [hg0] at hG ⊢
  obtain ⟨b0, e0⟩ : ∃ b, w.heap.size = b := ⟨_, rfl⟩
  rw [e0] at hB1 ⊢
  have l0 : b0 < g0 := by omega
  go_wp2_with fail
  go_loopw [11, 12] (fun y i wr => ∃ (k gb : Nat), k ≤ n ∧ i = .int .i64 k ∧ Own wr gb 2 1 y (wtTo E bd k).length (mts (wtTo E bd k).length (wtI E bd k)) ∧ g0 ≤ gb ∧ Blk wr b0 #[.int .i8 s.px, .int .i8 s.py, .float .f32 s.rt, .int .i8 s.x, .int .i8 s.y] 32 ∧ Below b0 w wr ∧ Below w1.heap.size w1 wr) (fun _ i _ => n - (intOf i).toNat)
  case atStart => exact ⟨0, g0, by omega, rfl, hG, Nat.le_refl _, hB1, by rw [← e0]; exact hb2, hW2⟩
  case round =>
    clear hG hB1 hb2 hW2
    obtain ⟨k, gb, hk, rfl, hG, hgb, hB1, hbs, hbW⟩ := hrel
    have bk : (0 : Int) ≤ k := by omega
    by_cases hlt : k < n
    · have bl : (k : Int) < n := by omega
      have y0 : wr.cell? ⟨b, o + k * 2, none⟩ = some (.float .f32 (P k).T) := (hbW.cell (p := ⟨b, _, none⟩) hbl).trans ((HC.out k 0 hlt (by omega)).trans (P k).get0)
      have y1 : wr.cell? ⟨b, o + k * 2 + 1, none⟩ = some (.float .f32 (P k).S) := (hbW.cell (p := ⟨b, _, none⟩) hbl).trans ((HC.out k 1 hlt (by omega)).trans (P k).get1)
      have sW := hbW.size
      have sr := hbs.size
      have lb : b < wr.heap.size := by omega
      have lB1 := hB1.lt
      have lG := hG.lt
      have hmk := HM.out k hlt
      have hmW : ∀ w', Below wr.heap.size wr w' → Calls Try.prog 38 #[.agg #[.float .f32 (P k).T, .float .f32 (P k).S], .agg #[.int .i8 s.px, .int .i8 s.py, .float .f32 s.rt, .int .i8 s.x, .int .i8 s.y], v] w' fun e w'' => e = .returned (.float .f32 (E k)) ∧ Below w'.heap.size w' w'' := fun w' h => hmk w' ((hv.below hbW).below h)
      have hlen := wtTo_len E bd k
      obtain ⟨s1, s2⟩ := wt_mts E bd k
      obtain ⟨cap, rfl, hcap, hcapm⟩ := hG.form
      unfold maxLen at hcapm
      go_wp2_with fail
      refine wp_loose (C := fun w' => Below wr.heap.size wr w') (R := fun w w' => Below w.heap.size w w') (F := fun _ dd vv => match dd, vv with
        | 28, vv => vv = .slice (some ⟨b, o, none⟩) n c
        | 29, vv => vv = .int .i64 k
        | 30, vv => vv = .pointer (some ⟨b, o + k * 2, none⟩)
        | 31, vv => vv = .agg (#[.float .f32 (P k).T, .float .f32 (P k).S])
        | 32, vv => vv = .agg (#[.int .i8 s.px, .int .i8 s.py, .float .f32 s.rt, .int .i8 s.x, .int .i8 s.y])
        | 33, vv => vv = v
        | 34, vv => vv = .float .f32 (E k)
        | 35, vv => vv = .float .f32 bd
        | 36, vv => vv = .bool (fle (E k) bd)
        | _, _ => True) (fun _ _ _ _ _ h => h) (by kernel_rfl) (by kernel_rfl) (by kernel_rfl) (Below.refl _ _).drew ?_ ?_
      · refine steps_cons (step_go rfl fun ev w1 hC kn => ?_) ?_
        · have e1 : ev (.tmp 0) = .slice (some ⟨b, o, none⟩) n c := kn.out 0 rfl rfl rfl
          exact good_of (v := .slice (some ⟨b, o, none⟩) n c) rfl (by simp [execOp, e1, kn.con, go_sem]) hC (Below.refl _ _) rfl
        refine steps_cons (step_go rfl fun ev w1 hC kn => ?_) ?_
        · have e1 : ev (.tmp 12) = .int .i64 k := kn.out 12 rfl rfl rfl
          exact good_of (v := .int .i64 k) rfl (by simp [execOp, e1, kn.con, go_sem]) hC (Below.refl _ _) rfl
        refine steps_cons (step_go rfl fun ev w1 hC kn => ?_) ?_
        · have e1 : ev (.tmp 28) = .slice (some ⟨b, o, none⟩) n c := kn.inn 28 rfl rfl
          have e2 : ev (.tmp 29) = .int .i64 k := kn.inn 29 rfl rfl
          exact good_of (v := .pointer (some ⟨b, o + k * 2, none⟩)) rfl (by simp [execOp, e1, e2, kn.con, go_sem, bk, bl]) hC (Below.refl _ _) rfl
        refine steps_cons (step_go rfl fun ev w1 hC kn => ?_) ?_
        · have e1 : ev (.tmp 30) = .pointer (some ⟨b, o + k * 2, none⟩) := kn.inn 30 rfl rfl
          exact good_of (v := .agg (#[.float .f32 (P k).T, .float .f32 (P k).S])) rfl (load_aq2 e1 (below_cell hC lb y0) (below_cell hC lb y1)) hC (Below.refl _ _) rfl
        refine steps_cons (step_go rfl fun ev w1 hC kn => ?_) ?_
        · have e1 : ev (.tmp 5) = .pointer (some ⟨b0, 0, none⟩) := kn.out 5 rfl rfl rfl
          exact good_of (v := .agg (#[.int .i8 s.px, .int .i8 s.py, .float .f32 s.rt, .int .i8 s.x, .int .i8 s.y])) rfl (load_blk e1 rowSi (hB1.below hC lB1) rfl) hC (Below.refl _ _) rfl
        refine steps_cons (step_go rfl fun ev w1 hC kn => ?_) ?_
        · have e1 : ev (.tmp 2) = v := kn.out 2 rfl rfl rfl
          exact good_of (v := v) rfl (by simp [execOp, e1, kn.con, go_sem]) hC (Below.refl _ _) rfl
        refine steps_cons (step_go rfl fun ev w1 hC kn => ?_) ?_
        · have e1 : ev (.tmp 31) = .agg (#[.float .f32 (P k).T, .float .f32 (P k).S]) := kn.inn 31 rfl rfl
          have e2 : ev (.tmp 32) = .agg (#[.int .i8 s.px, .int .i8 s.py, .float .f32 s.rt, .int .i8 s.x, .int .i8 s.y]) := kn.inn 32 rfl rfl
          have e3 : ev (.tmp 33) = v := kn.inn 33 rfl rfl
          refine good_call (f := 38) (args := #[.agg (#[.float .f32 (P k).T, .float .f32 (P k).S]), .agg (#[.int .i8 s.px, .int .i8 s.py, .float .f32 s.rt, .int .i8 s.x, .int .i8 s.y]), v]) rfl (by simp [execOp, e1, e2, e3, kn.fn, kn.con, go_sem]) ((hmW w1 hC).mono fun e w2 ⟨he, hb⟩ => ⟨_, he, hC.trans (hb.mono hC.size), hb, rfl⟩)
        refine steps_cons (step_go rfl fun ev w1 hC kn => ?_) ?_
        · have e1 : ev (.tmp 3) = .float .f32 bd := kn.out 3 rfl rfl rfl
          exact good_of (v := .float .f32 bd) rfl (by simp [execOp, e1, kn.con, go_sem]) hC (Below.refl _ _) rfl
        refine steps_cons (step_go rfl fun ev w1 hC kn => ?_) ?_
        · have e1 : ev (.tmp 34) = .float .f32 (E k) := kn.inn 34 rfl rfl
          have e2 : ev (.tmp 35) = .float .f32 bd := kn.inn 35 rfl rfl
          exact good_of (v := .bool (fle (E k) bd)) rfl (by simp [execOp, e1, e2, kn.con, go_sem, fle_eq]) hC (Below.refl _ _) rfl
        exact steps_nil
      rintro xv w5 hxv hb5
      have y36 : xv 36 = .bool (fle (E k) bd) := hxv 36 (by decide)
      simp only [fill, dstsOf, List.filterMap_cons, List.filterMap_nil, List.foldl_cons, List.foldl_nil, List.set_cons_succ, List.set_cons_zero, y36]
      clear hxv y36
      have hB5 := hB1.below hb5 lB1
      have hG5 := hG.below hb5 lG
      have hbs5 := hbs.trans (hb5.mono (by omega))
      have hbW5 := hbW.trans (hb5.mono sW)
      have e5 := hb5.size
      clear hmW hmk y0 y1 hG hB1 hbs hbW
      cases hq : fle (E k) bd
      · have HST := Lib.hid (s2 hq)
        clear s1 s2 hq
        go_wp2_with fail
        go_roundw
        case rel => exact ⟨k + 1, gb, by omega, by go_num, by rw [HST.out.1, HST.out.2]; exact hG5, hgb, hB5, hbs5, hbW5⟩
        case measure => simp [intOf]; omega
      · have HST := Lib.hid (s1 hq)
        clear s1 s2 hq
        go_wp2_with (at_builtin; refine wpList_app elI64T rfl rfl rfl rfl (by decide) (hG5.alloc _) (Blk.new _ _ _) rfl ?_ ?_ ?_ ?_; (· intro u hu; simp at hu; subst hu; rfl); (· unfold maxLen; omega); (· omega); intro v1 w7 g2 hown1 hgr1 hg1)
        have s5 := hbs5.size
        have t5 := hbW5.size
        go_roundw
        case rel =>
          refine ⟨k + 1, g2, by omega, by go_num, ?_, ?_, ?_, ?_, ?_⟩
          · rw [HST.out.1, HST.out.2]; exact hown1
          · rcases hg1 with h | h
            · omega
            · rw [h]; simp; omega
          · exact (hB5.alloc _).grown hgr1 (fun e => by injection e; omega)
          · exact (hbs5.alloc (by omega) _).grown hgr1 (by simp; omega) (fun k e => by injection e; omega)
          · exact (hbW5.alloc (by omega) _).grown hgr1 (by simp; omega) (fun k e => by injection e; omega)
        case measure => simp [intOf]; omega
    · obtain rfl : k = n := by omega
      go_wp2_with fail
      go_ret2
      exact ⟨_, gb, rfl, by omega, hG, by rw [e0]; exact hbs⟩
set_option maxRecDepth 100000 in
set_option maxHeartbeats 1000000 in
theorem specWorstReading_any (T S : Nat) (hA : AqD T S) (s : Si) (hs : SiD s) (n : Nat) (R : Nat → Rg) (hR : RdD n R) (v : Value) (w : World) (hv : RSl w v n R) :
    Calls Try.prog 24 #[.agg #[.float .f32 T, .float .f32 S], .agg s.cells, v] w fun e w' => e = .returned (bestR n (fun i => dfX T S s (R i))) ∧ Below w.heap.size w w' := by
  have q1 := fun w' (hv : RSl w' v n R) => l04Asked_any T S hA s hs n R hR v w' hv
  have hdd := fun i (hi : i < n) w' => l04Difference_any T S hA.aq s hs (R i) (hR.each i hi) w'
  have hmg := fun i (hi : i < n) => (dfX_mg hA.aq hs (hR.each i hi)).mono (by omega : 220 ≤ 240)
  have hb := below2 w (.cells #[.float .f32 T, .float .f32 S] 26) (.cells #[.int .i8 s.px, .int .i8 s.py, .float .f32 s.rt, .int .i8 s.x, .int .i8 s.y] 32)
  have hv := hv.below hb
  rw [s.cells_eq] at q1 hdd ⊢
  have hA0 : Blk ((w.alloc (.cells #[.float .f32 T, .float .f32 S] 26)).alloc (.cells #[.int .i8 s.px, .int .i8 s.py, .float .f32 s.rt, .int .i8 s.x, .int .i8 s.y] 32)) w.heap.size #[.float .f32 T, .float .f32 S] 26 := (Blk.new _ _ _).alloc _
  have hB0 : Blk ((w.alloc (.cells #[.float .f32 T, .float .f32 S] 26)).alloc (.cells #[.int .i8 s.px, .int .i8 s.py, .float .f32 s.rt, .int .i8 s.x, .int .i8 s.y] 32)) (w.heap.size + 1) #[.int .i8 s.px, .int .i8 s.py, .float .f32 s.rt, .int .i8 s.x, .int .i8 s.y] 32 := Blk.new1 _ _ _ _
  obtain ⟨E, hE⟩ : ∃ E : Nat → Nat, (fun i => dfX T S s (R i)) = E := ⟨_, rfl⟩
  have hE2 : ∀ i, dfX T S s (R i) = E i := fun i => congrFun hE i
  rw [hE]
  simp only [hE2] at hdd hmg
  have hn8 := hR.le
  clear hE hE2 hA hs hR
  go_enter Try.func24, Try.ntmps24
  go_upto_region 1 with fail
  generalize (w.alloc (.cells #[.float .f32 T, .float .f32 S] 26)).alloc (.cells #[.int .i8 s.px, .int .i8 s.py, .float .f32 s.rt, .int .i8 s.x, .int .i8 s.y] 32) = W at *
  go_upto_region 4 with (first | (refine wpList_load_blk rfl rfl rfl rowAq hA0 rfl ?_) | (refine wpList_load_blk rfl rfl rfl rowSi hB0 rfl ?_) | (go_at_call 37; refine (q1 _ hv).mono ?_; rintro e w1 ⟨rfl, hb1⟩; replace hA0 := hA0.below hb1 hA0.lt; replace hB0 := hB0.below hb1 hB0.lt; replace hv := hv.below hb1; replace hb := hb.trans (hb1.mono hb.size); clear hb1))
  obtain ⟨a, c, rfl, hc1, hc2, hcell⟩ := hv
  unfold maxLen at hc2
  by_cases h0 : n = 0
  · subst h0
    have hR0 : bestR 0 E = .tuple #[.int .i64 0, .float .f32 0, .int .i64 6] := rfl
    have HR0 := Lib.hid hR0
    clear hR0
    go_wp2_with fail
    go_ret3
    exact ⟨by rw [HR0.out]; rfl, hb⟩
  · have hR0 : bestR n E = .tuple #[.int .i64 (bestTo E n : Nat), .float .f32 (E (bestTo E n)), .int .i64 0] := by unfold bestR; rw [if_neg h0]
    have HR0 := Lib.hid hR0
    obtain ⟨b, o, rfl, hbl, hcell⟩ := hcell.resolve_left h0
    have bn : (0 : Int) < n := by omega
    have hnb : ((n : Int) == 0) = false := by simp; omega
    have z0 : w1.cell? ⟨b, o, none⟩ = some (.int .i64 (R 0).tim) := by
      have := (hcell 0 0 (by omega) (by omega)).trans (R 0).get0
      simpa using this
    have z1 : w1.cell? ⟨b, o + 1, none⟩ = some (.int .i16 (R 0).lev) := by
      have := (hcell 0 1 (by omega) (by omega)).trans (R 0).get1
      simpa using this
    have hd0 := hdd 0 (by omega)
    rw [(R 0).cells_eq] at hd0
    obtain ⟨b1, e1⟩ : ∃ b, w.heap.size + 1 = b := ⟨_, rfl⟩
    rw [e1] at hB0 ⊢
    obtain ⟨b0, e0⟩ : ∃ b, w.heap.size = b := ⟨_, rfl⟩
    rw [e0] at hA0 ⊢
    have lA := hA0.lt
    have lB := hB0.lt
    have HC := Lib.hid hcell
    have HD := Lib.hid hdd
    have HM := Lib.hid hmg
    have hsz := fun x w' => l03Size_is x w'
    clear hcell hdd hmg hR0
    have H0 := Lib.hid h0
    clear h0
    go_upto_region 7 with fail
    have h0 := H0.out
    refine wp_loose (C := fun w' => Below w1.heap.size w1 w') (R := fun w w' => Below w.heap.size w w') (F := fun _ dd vv => match dd, vv with
      | 24, vv => vv = .agg (#[.float .f32 T, .float .f32 S])
      | 25, vv => vv = .agg (#[.int .i8 s.px, .int .i8 s.py, .float .f32 s.rt, .int .i8 s.x, .int .i8 s.y])
      | 26, vv => vv = .slice (some ⟨b, o, none⟩) n c
      | 27, vv => vv = .pointer (some ⟨b, o + 0 * 2, none⟩)
      | 28, vv => vv = .agg (#[.int .i64 (R 0).tim, .int .i16 (R 0).lev])
      | 29, vv => vv = .float .f32 (E 0)
      | 11, vv => vv = .float .f32 (E 0)
      | _, _ => True) (fun _ _ _ _ _ h => h) (by kernel_rfl) (by kernel_rfl) (by kernel_rfl) (Below.refl _ _).drew ?_ ?_
    · refine steps_cons (step_go rfl fun ev w1 hC kn => ?_) ?_
      · have e1 : ev (.tmp 3) = .pointer (some ⟨b0, 0, none⟩) := kn.out 3 rfl rfl rfl
        exact good_of (v := .agg (#[.float .f32 T, .float .f32 S])) rfl (load_blk e1 rowAq (hA0.below hC lA) rfl) hC (Below.refl _ _) rfl
      refine steps_cons (step_go rfl fun ev w1 hC kn => ?_) ?_
      · have e1 : ev (.tmp 4) = .pointer (some ⟨b1, 0, none⟩) := kn.out 4 rfl rfl rfl
        exact good_of (v := .agg (#[.int .i8 s.px, .int .i8 s.py, .float .f32 s.rt, .int .i8 s.x, .int .i8 s.y])) rfl (load_blk e1 rowSi (hB0.below hC lB) rfl) hC (Below.refl _ _) rfl
      refine steps_cons (step_go rfl fun ev w1 hC kn => ?_) ?_
      · have e1 : ev (.tmp 2) = .slice (some ⟨b, o, none⟩) n c := kn.out 2 rfl rfl rfl
        exact good_of (v := .slice (some ⟨b, o, none⟩) n c) rfl (by simp [execOp, e1, kn.con, go_sem]) hC (Below.refl _ _) rfl
      refine steps_cons (step_go rfl fun ev w1 hC kn => ?_) ?_
      · have e1 : ev (.tmp 26) = .slice (some ⟨b, o, none⟩) n c := kn.inn 26 rfl rfl
        exact good_of (v := .pointer (some ⟨b, o + 0 * 2, none⟩)) rfl (by simp [execOp, e1, kn.con, go_sem, bn, h0]) hC (Below.refl _ _) rfl
      refine steps_cons (step_go rfl fun ev w1 hC kn => ?_) ?_
      · have e1 : ev (.tmp 27) = .pointer (some ⟨b, o + 0 * 2, none⟩) := kn.inn 27 rfl rfl
        exact good_of (v := .agg (#[.int .i64 (R 0).tim, .int .i16 (R 0).lev])) rfl (load_rg2 e1 (below_cell hC hbl z0) (below_cell hC hbl z1)) hC (Below.refl _ _) rfl
      refine steps_cons (step_go rfl fun ev w1 hC kn => ?_) ?_
      · have e1 : ev (.tmp 24) = .agg (#[.float .f32 T, .float .f32 S]) := kn.inn 24 rfl rfl
        have e2 : ev (.tmp 25) = .agg (#[.int .i8 s.px, .int .i8 s.py, .float .f32 s.rt, .int .i8 s.x, .int .i8 s.y]) := kn.inn 25 rfl rfl
        have e3 : ev (.tmp 28) = .agg (#[.int .i64 (R 0).tim, .int .i16 (R 0).lev]) := kn.inn 28 rfl rfl
        refine good_call (f := 52) (args := #[.agg (#[.float .f32 T, .float .f32 S]), .agg (#[.int .i8 s.px, .int .i8 s.py, .float .f32 s.rt, .int .i8 s.x, .int .i8 s.y]), .agg (#[.int .i64 (R 0).tim, .int .i16 (R 0).lev])]) rfl (by simp [execOp, e1, e2, e3, kn.fn, kn.con, go_sem]) ((hd0 w1).mono fun e w2 ⟨he, hb⟩ => ⟨_, he, hC.trans (hb.mono hC.size), hb, rfl⟩)
      refine steps_cons (step_go rfl fun ev w1 hC kn => ?_) ?_
      · have e1 : ev (.tmp 29) = .float .f32 (E 0) := kn.inn 29 rfl rfl
        exact good_of (v := .float .f32 (E 0)) rfl (by simp [execOp, e1, kn.con, go_sem]) hC (Below.refl _ _) rfl
      exact steps_nil
    rintro xv w3 hxv hb3
    have y11 : xv 11 = .float .f32 (E 0) := hxv 11 (by decide)
    simp only [fill, dstsOf, List.filterMap_cons, List.filterMap_nil, List.foldl_cons, List.foldl_nil, List.set_cons_succ, List.set_cons_zero, y11]
    clear hxv y11
    have hA3 := hA0.below hb3 lA
    have hB3 := hB0.below hb3 lB
    clear hd0 z0 z1 h0
    go_wp2_with fail
    go_loopw [10, 11, 12] (fun x y i wr => ∃ (k : Nat), 1 ≤ k ∧ k ≤ n ∧ i = .int .i64 k ∧ x = .int .i64 (bestTo E k : Nat) ∧ y = .float .f32 (E (bestTo E k)) ∧ Blk wr b0 #[.float .f32 T, .float .f32 S] 26 ∧ Blk wr b1 #[.int .i8 s.px, .int .i8 s.py, .float .f32 s.rt, .int .i8 s.x, .int .i8 s.y] 32 ∧ Below w1.heap.size w1 wr) (fun _ _ i _ => n - (intOf i).toNat)
    case atStart => exact ⟨1, by omega, by omega, rfl, rfl, rfl, hA3, hB3, hb3⟩
    case round =>
      clear hA3 hB3 hb3
      obtain ⟨k, hk1, hk, rfl, rfl, rfl, hA1, hB1, hbW⟩ := hrel
      have bk : (0 : Int) ≤ k := by omega
      by_cases hlt : k < n
      · have bl : (k : Int) < n := by omega
        have y0 : wr.cell? ⟨b, o + k * 2, none⟩ = some (.int .i64 (R k).tim) := (hbW.cell (p := ⟨b, _, none⟩) hbl).trans ((HC.out k 0 hlt (by omega)).trans (R k).get0)
        have y1 : wr.cell? ⟨b, o + k * 2 + 1, none⟩ = some (.int .i16 (R k).lev) := (hbW.cell (p := ⟨b, _, none⟩) hbl).trans ((HC.out k 1 hlt (by omega)).trans (R k).get1)
        have sW := hbW.size
        have lb : b < wr.heap.size := by omega
        have lA1 := hA1.lt
        have lB1 := hB1.lt
        have hdk := HD.out k hlt
        rw [(R k).cells_eq] at hdk
        have hll := bestTo_lt E k hk1
        have ht := fgt_eq (szS (E k)) (szS (E (bestTo E k)))
        rw [fgt_szS (HM.out k hlt) (HM.out _ (by omega))] at ht
        have hst : bestTo E (k + 1) = if E (bestTo E k) % 2147483648 < E k % 2147483648 then k else bestTo E k := by
          show (if k = 0 then 0 else if E (bestTo E k) % 2147483648 < E k % 2147483648 then k else bestTo E k) = _
          rw [if_neg (by omega)]
        have hz1 := hsz (E k)
        have hz2 := hsz (E (bestTo E k))
        go_wp2_with fail
        refine wp_loose (C := fun w' => Below wr.heap.size wr w') (R := fun w w' => Below w.heap.size w w') (F := fun _ dd vv => match dd, vv with
          | 36, vv => vv = .agg (#[.float .f32 T, .float .f32 S])
          | 37, vv => vv = .agg (#[.int .i8 s.px, .int .i8 s.py, .float .f32 s.rt, .int .i8 s.x, .int .i8 s.y])
          | 38, vv => vv = .slice (some ⟨b, o, none⟩) n c
          | 39, vv => vv = .int .i64 k
          | 40, vv => vv = .pointer (some ⟨b, o + k * 2, none⟩)
          | 41, vv => vv = .agg (#[.int .i64 (R k).tim, .int .i16 (R k).lev])
          | 42, vv => vv = .float .f32 (E k)
          | 13, vv => vv = .float .f32 (E k)
          | _, _ => True) (fun _ _ _ _ _ h => h) (by kernel_rfl) (by kernel_rfl) (by kernel_rfl) (Below.refl _ _).drew ?_ ?_
        · refine steps_cons (step_go rfl fun ev w1 hC kn => ?_) ?_
          · have e1 : ev (.tmp 3) = .pointer (some ⟨b0, 0, none⟩) := kn.out 3 rfl rfl rfl
            exact good_of (v := .agg (#[.float .f32 T, .float .f32 S])) rfl (load_blk e1 rowAq (hA1.below hC lA1) rfl) hC (Below.refl _ _) rfl
          refine steps_cons (step_go rfl fun ev w1 hC kn => ?_) ?_
          · have e1 : ev (.tmp 4) = .pointer (some ⟨b1, 0, none⟩) := kn.out 4 rfl rfl rfl
            exact good_of (v := .agg (#[.int .i8 s.px, .int .i8 s.py, .float .f32 s.rt, .int .i8 s.x, .int .i8 s.y])) rfl (load_blk e1 rowSi (hB1.below hC lB1) rfl) hC (Below.refl _ _) rfl
          refine steps_cons (step_go rfl fun ev w1 hC kn => ?_) ?_
          · have e1 : ev (.tmp 2) = .slice (some ⟨b, o, none⟩) n c := kn.out 2 rfl rfl rfl
            exact good_of (v := .slice (some ⟨b, o, none⟩) n c) rfl (by simp [execOp, e1, kn.con, go_sem]) hC (Below.refl _ _) rfl
          refine steps_cons (step_go rfl fun ev w1 hC kn => ?_) ?_
          · have e1 : ev (.tmp 12) = .int .i64 k := kn.out 12 rfl rfl rfl
            exact good_of (v := .int .i64 k) rfl (by simp [execOp, e1, kn.con, go_sem]) hC (Below.refl _ _) rfl
          refine steps_cons (step_go rfl fun ev w1 hC kn => ?_) ?_
          · have e1 : ev (.tmp 38) = .slice (some ⟨b, o, none⟩) n c := kn.inn 38 rfl rfl
            have e2 : ev (.tmp 39) = .int .i64 k := kn.inn 39 rfl rfl
            exact good_of (v := .pointer (some ⟨b, o + k * 2, none⟩)) rfl (by simp [execOp, e1, e2, kn.con, go_sem, bk, bl]) hC (Below.refl _ _) rfl
          refine steps_cons (step_go rfl fun ev w1 hC kn => ?_) ?_
          · have e1 : ev (.tmp 40) = .pointer (some ⟨b, o + k * 2, none⟩) := kn.inn 40 rfl rfl
            exact good_of (v := .agg (#[.int .i64 (R k).tim, .int .i16 (R k).lev])) rfl (load_rg2 e1 (below_cell hC lb y0) (below_cell hC lb y1)) hC (Below.refl _ _) rfl
          refine steps_cons (step_go rfl fun ev w1 hC kn => ?_) ?_
          · have e1 : ev (.tmp 36) = .agg (#[.float .f32 T, .float .f32 S]) := kn.inn 36 rfl rfl
            have e2 : ev (.tmp 37) = .agg (#[.int .i8 s.px, .int .i8 s.py, .float .f32 s.rt, .int .i8 s.x, .int .i8 s.y]) := kn.inn 37 rfl rfl
            have e3 : ev (.tmp 41) = .agg (#[.int .i64 (R k).tim, .int .i16 (R k).lev]) := kn.inn 41 rfl rfl
            refine good_call (f := 52) (args := #[.agg (#[.float .f32 T, .float .f32 S]), .agg (#[.int .i8 s.px, .int .i8 s.py, .float .f32 s.rt, .int .i8 s.x, .int .i8 s.y]), .agg (#[.int .i64 (R k).tim, .int .i16 (R k).lev])]) rfl (by simp [execOp, e1, e2, e3, kn.fn, kn.con, go_sem]) ((hdk w1).mono fun e w2 ⟨he, hb⟩ => ⟨_, he, hC.trans (hb.mono hC.size), hb, rfl⟩)
          refine steps_cons (step_go rfl fun ev w1 hC kn => ?_) ?_
          · have e1 : ev (.tmp 42) = .float .f32 (E k) := kn.inn 42 rfl rfl
            exact good_of (v := .float .f32 (E k)) rfl (by simp [execOp, e1, kn.con, go_sem]) hC (Below.refl _ _) rfl
          exact steps_nil
        rintro xv w5 hxv hb5
        have y13 : xv 13 = .float .f32 (E k) := hxv 13 (by decide)
        simp only [fill, dstsOf, List.filterMap_cons, List.filterMap_nil, List.foldl_cons, List.foldl_nil, List.set_cons_succ, List.set_cons_zero, y13]
        clear hxv y13
        have hA5 := hA1.below hb5 lA1
        have hB5 := hB1.below hb5 lB1
        have hbW5 := hbW.trans (hb5.mono sW)
        clear hdk y0 y1
        by_cases hl : E (bestTo E k) % 2147483648 < E k % 2147483648
        · rw [decide_eq_true hl] at ht
          rw [if_pos hl] at hst
          have HST := Lib.hid hst
          have HLL := Lib.hid hl
          clear hst hl
          go_wp2_with (go_at_call 53; first | (refine (hz1 _).mono ?_; rintro e w' ⟨rfl, hw⟩; rw [hw]; clear hw w') | (refine (hz2 _).mono ?_; rintro e w' ⟨rfl, hw⟩; rw [hw]; clear hw w'))
          go_roundw
          case rel => exact ⟨k + 1, by omega, by omega, by go_num, by rw [HST.out], by rw [HST.out], hA5, hB5, hbW5⟩
          case measure => simp [intOf]; omega
        · rw [decide_eq_false hl] at ht
          rw [if_neg hl] at hst
          have HST := Lib.hid hst
          clear hst hl
          go_wp2_with (go_at_call 53; first | (refine (hz1 _).mono ?_; rintro e w' ⟨rfl, hw⟩; rw [hw]; clear hw w') | (refine (hz2 _).mono ?_; rintro e w' ⟨rfl, hw⟩; rw [hw]; clear hw w'))
          go_roundw
          case rel => exact ⟨k + 1, by omega, by omega, by go_num, by rw [HST.out], by rw [HST.out], hA5, hB5, hbW5⟩
          case measure => simp [intOf]; omega
      · obtain rfl : k = n := by omega
        go_wp2_with fail
        go_ret3
        exact ⟨by rw [HR0.out]; rfl, hb.trans (hbW.mono hb.size)⟩
end Go.Proofs.Ytglimhkpndfjgaa
