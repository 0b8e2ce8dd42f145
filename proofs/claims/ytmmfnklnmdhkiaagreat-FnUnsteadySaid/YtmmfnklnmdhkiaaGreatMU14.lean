import Derived.Test.YtmmfnklnmdhkiaaGreatMU13
import Derived.Test.YtmmfnklnmdhkiaaGreatMU03
/- Several steps of a ground: StepsOf in the program and in the reference, and its law. -/
namespace Go.Proofs.YtmmfnklnmdhkiaaGreat
open Go.ChangeShapes Go.WideShapes Go.ChangeAt Go.RowKit
set_option linter.unusedVariables false
set_option linter.unusedSimpArgs false
attribute [local irreducible] Calls

/-- The ground behind k steps, with a code: nothing goes on behind a step that fails. -/
def runTo (g : Gr) (part : Nat) : Nat → Gr × Int
  | 0 => (g, 0)
  | k + 1 => if (runTo g part k).2 = 0 then (stepR (runTo g part k).1 part, stepC (runTo g part k).1 part) else runTo g part k
theorem runTo_go {g : Gr} {part k : Nat} (h : (runTo g part k).2 = 0) : runTo g part (k + 1) = (stepR (runTo g part k).1 part, stepC (runTo g part k).1 part) := by
  show (if _ then _ else _) = _
  rw [if_pos h]
theorem runTo_stay {g : Gr} {part k : Nat} (h : (runTo g part k).2 ≠ 0) : ∀ m, k ≤ m → runTo g part m = runTo g part k
  | 0, hm => by obtain rfl : k = 0 := by omega
                rfl
  | m + 1, hm => by
    by_cases hk : k = m + 1
    · rw [hk]
    · have ih := runTo_stay h m (by omega)
      show (if _ then _ else _) = _
      rw [ih, if_neg h]
theorem stepC_cases (g : Gr) (part : Nat) : (stepIs g part = true ∧ stepC g part = 0 ∧ stepR g part = stepG g part) ∨ (stepIs g part = false ∧ stepC g part = 4 ∧ stepR g part = zeroG) := by
  unfold stepC stepR
  cases h : stepIs g part
  · right; exact ⟨rfl, rfl, rfl⟩
  · left; exact ⟨rfl, rfl, rfl⟩
theorem stepG_ok {g : Gr} (part : Nat) (h : g.ok) : (stepG g part).ok := ⟨h.wide, h.high, h.fix⟩
theorem zeroG_ok : zeroG.ok := ⟨by decide, by decide, by decide⟩
theorem zeroG_small : zeroG.small := ⟨by decide, by decide⟩
theorem stepR_ok {g : Gr} (part : Nat) (h : g.ok) : (stepR g part).ok := by
  rcases stepC_cases g part with ⟨_, _, e⟩ | ⟨_, _, e⟩ <;> rw [e]
  · exact stepG_ok part h
  · exact zeroG_ok
theorem stepR_small {g : Gr} (part : Nat) (h : g.small) : (stepR g part).small := by
  rcases stepC_cases g part with ⟨_, _, e⟩ | ⟨_, _, e⟩ <;> rw [e]
  · exact h
  · exact zeroG_small
theorem runTo_ok {g : Gr} {part : Nat} (h : g.ok) : ∀ k, (runTo g part k).1.ok
  | 0 => h
  | k + 1 => by
    show (if _ then _ else _ : Gr × Int).1.ok
    split
    · exact stepR_ok part (runTo_ok h k)
    · exact runTo_ok h k
theorem runTo_small {g : Gr} {part : Nat} (h : g.small) : ∀ k, (runTo g part k).1.small
  | 0 => h
  | k + 1 => by
    show (if _ then _ else _ : Gr × Int).1.small
    split
    · exact stepR_small part (runTo_small h k)
    · exact runTo_small h k

/-- May there be so many steps? -/
def isStp (n : Int) : Bool := decide (0 ≤ n) && decide (n ≤ 400)
def stepsC (g : Gr) (part : Nat) (n : Int) : Int := if askOk g part then (if isStp n then (runTo g part n.toNat).2 else 2) else 1
def stepsR (g : Gr) (part : Nat) (n : Int) : Gr := if stepsC g part n = 0 then (runTo g part n.toNat).1 else zeroG

theorem isSteps_any (n : Int) (w : World) :
    Calls Tryz.prog 42 #[.int .i64 n] w fun e w' => e = .returned (.bool (isStp n)) ∧ w' = w := by
  unfold isStp
  go_enter Tryz.func42, Tryz.ntmps42
  go_wp2_with (go_at_call 74; refine (in_any _ _ _ _).mono ?_; rintro e w' ⟨rfl, rfl⟩)
  go_ret
  exact ⟨rfl, rfl⟩
theorem l06Steps_any (n : Int) (w : World) :
    Calls Tryz.prog 43 #[.int .i64 n] w fun e w' => e = .returned (.bool (isStp n)) ∧ w' = w := by
  unfold isStp
  go_enter Tryz.func43, Tryz.ntmps43
  go_wp2_with (go_at_call 66; refine (l00In_any _ _ _ _).mono ?_; rintro e w' ⟨rfl, rfl⟩)
  go_ret
  exact ⟨rfl, rfl⟩

set_option maxRecDepth 100000 in
set_option maxHeartbeats 400000 in
theorem stepsOf_any (g : Gr) (part : Nat) (n : Int) (hg : g.ok) (w : World) :
    Calls Tryz.prog 13 #[.agg g.cells, .float .f32 part, .int .i64 n] w fun e w' => e = .returned (.tuple #[.agg (stepsR g part n).cells, .int .i64 (stepsC g part n)]) ∧ Below w.heap.size w w' := by
  have hvg := fun w' => validGround_any g hg w'
  have hpl := fun w' => isPlain_any part w'
  have his := fun w' => isSteps_any n w'
  obtain ⟨R, hR⟩ : ∃ R, R = (stepsR g part n).cells := ⟨_, rfl⟩
  obtain ⟨V, hV⟩ : ∃ V, V = stepsC g part n := ⟨_, rfl⟩
  have fin0 : Hid (∀ c, stepsC g part n = c → c ≠ 0 → R = zeroG.cells ∧ V = c) := Lib.hid fun c h h0 => by
    rw [hR, hV, h]; unfold stepsR; rw [h, if_neg h0]; exact ⟨rfl, rfl⟩
  rw [← hR, ← hV]
  go_enter Tryz.func13, Tryz.ntmps13
  go_upto_region 1 with (first | (refine wpList_box_as rfl rfl rfl ?_) | (refine wpList_alloc_as rfl rfl zero66z ?_))
  have hA : Blk ((w.alloc (.cells g.cells 30)).alloc (.cells zeroG.cells 30)) w.heap.size g.cells 30 := (Blk.new _ _ _).alloc _
  have hS : Blk ((w.alloc (.cells g.cells 30)).alloc (.cells zeroG.cells 30)) (w.heap.size + 1) zeroG.cells 30 := Blk.new1 _ _ _ _
  have hbel := below2 w (.cells g.cells 30) (.cells zeroG.cells 30)
  generalize ((w.alloc (.cells g.cells 30)).alloc (.cells zeroG.cells 30)) = W at *
  have lS := hS.lt
  have lA := hA.lt
  cases h1 : validG g
  · rw [h1] at hvg
    have HF := Lib.hid (fin0.out 1 (by unfold stepsC askOk; rw [h1]; rfl) (by decide))
    clear hR hV h1
    go_wp2_with (first | (refine wpList_load_blk rfl rfl rfl row66 hA g.size ?_) | (go_at_call 33; refine (hvg _).mono ?_; rintro e w4 ⟨rfl, hb4⟩; have hS4 := hS.below hb4 lS) | (refine wpList_zero rfl rfl built66 ?_) | (refine wpList_store_blk rfl rfl rfl rfl row66 hS4 zeroG.size zeroG.size zeroG.one ?_))
    refine bodyPost_row2 rfl rfl row66 (hS4.setRow _) zeroG.size rfl ⟨?_, below_setRow (hbel.trans (hb4.mono hbel.size)) (by omega) _⟩
    rw [HF.out.1, HF.out.2]; rfl
  rw [h1] at hvg
  cases h2 : plain part
  · rw [h2] at hpl
    have HF := Lib.hid (fin0.out 1 (by unfold stepsC askOk; rw [h1, h2]; rfl) (by decide))
    clear hR hV h1 h2
    go_wp2_with (first | (refine wpList_load_blk rfl rfl rfl row66 hA g.size ?_) | (go_at_call 33; refine (hvg _).mono ?_; rintro e w4 ⟨rfl, hb4⟩; have hS4 := hS.below hb4 lS) | (go_at_call 34; refine (hpl _).mono ?_; rintro e w' ⟨rfl, hw⟩; rw [hw]; clear hw w') | (refine wpList_zero rfl rfl built66 ?_) | (refine wpList_store_blk rfl rfl rfl rfl row66 hS4 zeroG.size zeroG.size zeroG.one ?_))
    refine bodyPost_row2 rfl rfl row66 (hS4.setRow _) zeroG.size rfl ⟨?_, below_setRow (hbel.trans (hb4.mono hbel.size)) (by omega) _⟩
    rw [HF.out.1, HF.out.2]; rfl
  rw [h2] at hpl
  cases h3 : isStp n
  · rw [h3] at his
    have HF := Lib.hid (fin0.out 2 (by unfold stepsC askOk; rw [h1, h2, h3]; rfl) (by decide))
    clear hR hV h1 h2 h3
    go_wp2_with (first | (refine wpList_load_blk rfl rfl rfl row66 hA g.size ?_) | (go_at_call 33; refine (hvg _).mono ?_; rintro e w4 ⟨rfl, hb4⟩; have hS4 := hS.below hb4 lS) | (go_at_call 34; refine (hpl _).mono ?_; rintro e w' ⟨rfl, hw⟩; rw [hw]; clear hw w') | (go_at_call 42; refine (his _).mono ?_; rintro e w' ⟨rfl, hw⟩; rw [hw]; clear hw w') | (refine wpList_zero rfl rfl built66 ?_) | (refine wpList_store_blk rfl rfl rfl rfl row66 hS4 zeroG.size zeroG.size zeroG.one ?_))
    refine bodyPost_row2 rfl rfl row66 (hS4.setRow _) zeroG.size rfl ⟨?_, below_setRow (hbel.trans (hb4.mono hbel.size)) (by omega) _⟩
    rw [HF.out.1, HF.out.2]; rfl
  rw [h3] at his
  have hsm := validG_small h1
  have hC : stepsC g part n = (runTo g part n.toNat).2 := by unfold stepsC askOk; rw [h1, h2, h3]; rfl
  have hn : 0 ≤ n ∧ n ≤ 400 := by unfold isStp at h3; simpa using h3
  clear h1 h2 h3
  obtain ⟨m, rfl⟩ : ∃ m : Nat, n = m := ⟨n.toNat, by omega⟩
  rw [Int.toNat_natCast] at hC
  have hm : (m : Int) ≤ 400 := hn.2
  have bm : (0 : Int) ≤ m := hn.1
  clear hn
  have FIN := Lib.hid (And.intro hR (And.intro hV hC))
  clear hR hV hC
  go_wp2_with (first | (refine wpList_load_blk rfl rfl rfl row66 hA g.size ?_) | (go_at_call 33; refine (hvg _).mono ?_; rintro e w4 ⟨rfl, hb4⟩; have hS4 := hS.below hb4 lS; have hA4 := hA.below hb4 lA) | (go_at_call 34; refine (hpl _).mono ?_; rintro e w' ⟨rfl, hw⟩; rw [hw]; clear hw w') | (go_at_call 42; refine (his _).mono ?_; rintro e w' ⟨rfl, hw⟩; rw [hw]; clear hw w'))
  have hbel := hbel.trans (hb4.mono hbel.size)
  clear hvg hpl his hb4 hS hA lS lA
  go_loopw [26] (fun i wr => ∃ k : Nat, k ≤ m ∧ i = .int .i64 k ∧ Hid ((runTo g part k).2 = 0) ∧ Blk wr w.heap.size (runTo g part k).1.cells 30 ∧ Blk wr (w.heap.size + 1) zeroG.cells 30 ∧ Below w.heap.size w wr) (fun i _ => m - (intOf i).toNat)
  case atStart => exact ⟨0, by omega, rfl, Lib.hid rfl, hA4, hS4, hbel⟩
  case round =>
    clear hA4 hS4 hbel
    obtain ⟨k, hk, rfl, h0, hA, hS, hbel⟩ := hrel
    have bk : (0 : Int) ≤ k := by omega
    by_cases hlt : k < m
    · have bl : (k : Int) < m := by omega
      have HGO := Lib.hid (runTo_go h0.out)
      have hGo := runTo_ok (part := part) hg k
      have hGs := runTo_small (part := part) hsm k
      have HSTAY : Hid (∀ c, stepC (runTo g part k).1 part = c → c ≠ 0 → R = zeroG.cells ∧ V = c) := Lib.hid fun c h hc => fin0.out c (by
        rw [FIN.out.2.2, runTo_stay (k := k + 1) (by rw [HGO.out, h]; exact hc) m (by omega), HGO.out, h]) hc
      generalize (runTo g part k).1 = G at *
      have hst := stepped_any G w.heap.size part hGo hGs wr hA.gat
      have lS := hS.lt
      have lA := hA.lt
      rcases stepC_cases G part with ⟨_, e1, e2⟩ | ⟨_, e1, e2⟩
      · rw [e1] at hst
        have HE := Lib.hid (And.intro e1 e2)
        clear e1 e2
        generalize hGN : stepR G part = GN at *
        have HGN := Lib.hid hGN
        clear hGN
        go_upto_region 10 with (first | (go_at_call 35; refine hst.mono ?_; rintro e w5 ⟨rfl, hb5⟩) | (refine wpList_alloc_as rfl rfl zero66z ?_) | (refine wpList_store_last rfl rfl rfl rfl rfl (by rw [Gr.size]; kernel_rfl) (by rw [Gr.size, Gr.size]) (List.all_eq_true.2 (Gr.one _)) ?_))
        have hA5 := (hA.below hb5 lA).alloc (.cells GN.cells 30)
        have hS5 := (hS.below hb5 lS).alloc (.cells GN.cells 30)
        have hN5 := Blk.new w5 GN.cells 30
        have hbel5 := hbel.trans (hb5.mono hbel.size)
        have hbel5 := hbel5.alloc hbel5.size (.cells GN.cells 30)
        generalize w5.alloc (.cells GN.cells 30) = W5 at *
        generalize w5.heap.size = q at *
        clear hA hS hbel hb5 lS lA hst
        go_wp2_with (first | (refine wpList_load_blk rfl rfl rfl row66 hN5 (Gr.size _) ?_) | (refine wpList_store_blk rfl rfl rfl rfl row66 hA5 (Gr.size _) (Gr.size _) (Gr.one _) ?_))
        go_roundw
        case rel =>
          refine ⟨k + 1, by omega, by go_num, Lib.hid (by rw [HGO.out]; exact HE.out.1), ?_, hS5.rowOther _ (by omega), below_setRow hbel5 (by omega) _⟩
          rw [HGO.out]
          exact hA5.setRow _
        case measure => simp [intOf]; omega
      · rw [e1] at hst
        have HF := Lib.hid (HSTAY.out 4 e1 (by decide))
        clear e1 e2
        generalize stepR G part = GN at *
        go_wp2_with (first | (go_at_call 35; refine hst.mono ?_; rintro e w5 ⟨rfl, hb5⟩; have hS5 := (hS.below hb5 lS).alloc (.cells GN.cells 30)) | (refine wpList_alloc_as rfl rfl zero66z ?_) | (refine wpList_store_last rfl rfl rfl rfl rfl (by rw [Gr.size]; kernel_rfl) (by rw [Gr.size, Gr.size]) (List.all_eq_true.2 (Gr.one _)) ?_) | (refine wpList_zero rfl rfl built66 ?_) | (refine wpList_store_blk rfl rfl rfl rfl row66 hS5 zeroG.size zeroG.size zeroG.one ?_))
        have hbel5 := hbel.trans (hb5.mono hbel.size)
        have hbel5 := hbel5.alloc hbel5.size (.cells GN.cells 30)
        refine bodyPost_row2 rfl rfl row66 (hS5.setRow _) zeroG.size rfl ⟨?_, below_setRow hbel5 (by omega) _⟩
        rw [HF.out.1, HF.out.2]; rfl
    · obtain rfl : k = m := by omega
      have HF : Hid (R = (runTo g part k).1.cells ∧ V = 0) := Lib.hid ⟨by rw [FIN.out.1]; unfold stepsR; rw [FIN.out.2.2, if_pos h0.out, Int.toNat_natCast], by rw [FIN.out.2.1, FIN.out.2.2, h0.out]⟩
      go_wp2_with (first | (refine wpList_load_blk rfl rfl rfl row66 hA (Gr.size _) ?_) | (refine wpList_store_blk rfl rfl rfl rfl row66 hS zeroG.size (Gr.size _) (Gr.one _) ?_))
      refine bodyPost_row2 rfl rfl row66 (hS.setRow _) (Gr.size _) rfl ⟨?_, below_setRow hbel (by omega) _⟩
      rw [HF.out.1, HF.out.2]; rfl

set_option maxRecDepth 100000 in
set_option maxHeartbeats 400000 in
theorem specStepsOf_any (g : Gr) (part : Nat) (n : Int) (hg : g.ok) (w : World) :
    Calls Tryz.prog 14 #[.agg g.cells, .float .f32 part, .int .i64 n] w fun e w' => e = .returned (.tuple #[.agg (stepsR g part n).cells, .int .i64 (stepsC g part n)]) ∧ Below w.heap.size w w' := by
  have hask := fun w' b h => l06Asked_any g b part hg w' h
  have his := fun w' => l06Steps_any n w'
  obtain ⟨R, hR⟩ : ∃ R, R = (stepsR g part n).cells := ⟨_, rfl⟩
  obtain ⟨V, hV⟩ : ∃ V, V = stepsC g part n := ⟨_, rfl⟩
  have fin0 : Hid (∀ c, stepsC g part n = c → c ≠ 0 → R = zeroG.cells ∧ V = c) := Lib.hid fun c h h0 => by
    rw [hR, hV, h]; unfold stepsR; rw [h, if_neg h0]; exact ⟨rfl, rfl⟩
  rw [← hR, ← hV]
  go_enter Tryz.func14, Tryz.ntmps14
  go_upto_region 1 with (first | (refine wpList_box_as rfl rfl rfl ?_) | (refine wpList_alloc_as rfl rfl zero66z ?_))
  have hA : Blk ((w.alloc (.cells g.cells 30)).alloc (.cells zeroG.cells 30)) w.heap.size g.cells 30 := (Blk.new _ _ _).alloc _
  have hS : Blk ((w.alloc (.cells g.cells 30)).alloc (.cells zeroG.cells 30)) (w.heap.size + 1) zeroG.cells 30 := Blk.new1 _ _ _ _
  have hbel := below2 w (.cells g.cells 30) (.cells zeroG.cells 30)
  generalize ((w.alloc (.cells g.cells 30)).alloc (.cells zeroG.cells 30)) = W at *
  have lS := hS.lt
  have lA := hA.lt
  -- a code that is none at the start: the loop is not entered
  have early : ∀ (c : Int) (W' : World), c ≠ 0 → stepsC g part n = c → Hid (R = zeroG.cells ∧ V = c) := fun c W' h0 h => Lib.hid (fin0.out c h h0)
  cases h1 : askOk g part
  · rw [h1] at hask
    have HF := early 1 W (by decide) (by unfold stepsC; rw [h1]; rfl)
    clear hR hV h1 early
    go_wp2_with (first | (go_at_call 36; refine (hask _ _ hA.gat).mono ?_; rintro e w4 ⟨rfl, m4, rfl⟩))
    go_loopw [8, 9] (fun c i wr => c = .int .i64 1 ∧ i = .int .i64 0 ∧ wr = W.drewN m4) (fun _ _ _ => 0)
    case atStart => exact ⟨rfl, rfl, rfl⟩
    case round =>
      obtain ⟨rfl, rfl, rfl⟩ := hrel
      go_wp2_with (first | (refine wpList_zero rfl rfl built66 ?_) | (refine wpList_store_blk rfl rfl rfl rfl row66 (hS.drewN _) zeroG.size zeroG.size zeroG.one ?_))
      all_goals
        refine bodyPost_row2 rfl rfl row66 ((hS.drewN _).setRow _) zeroG.size rfl ⟨?_, below_setRow (below_drewN hbel _) (by omega) _⟩
        rw [HF.out.1, HF.out.2]; rfl
  rw [h1] at hask
  cases h3 : isStp n
  · rw [h3] at his
    have HF := early 2 W (by decide) (by unfold stepsC; rw [h1, h3]; rfl)
    clear hR hV h1 early h3
    go_wp2_with (first | (go_at_call 36; refine (hask _ _ hA.gat).mono ?_; rintro e w4 ⟨rfl, m4, rfl⟩) | (go_at_call 43; refine (his _).mono ?_; rintro e w' ⟨rfl, hw⟩; rw [hw]; clear hw w'))
    go_loopw [8, 9] (fun c i wr => c = .int .i64 2 ∧ i = .int .i64 0 ∧ wr = W.drewN m4) (fun _ _ _ => 0)
    case atStart => exact ⟨rfl, rfl, rfl⟩
    case round =>
      obtain ⟨rfl, rfl, rfl⟩ := hrel
      go_wp2_with (first | (refine wpList_zero rfl rfl built66 ?_) | (refine wpList_store_blk rfl rfl rfl rfl row66 (hS.drewN _) zeroG.size zeroG.size zeroG.one ?_))
      all_goals
        refine bodyPost_row2 rfl rfl row66 ((hS.drewN _).setRow _) zeroG.size rfl ⟨?_, below_setRow (below_drewN hbel _) (by omega) _⟩
        rw [HF.out.1, HF.out.2]; rfl
  rw [h3] at his
  have hsm := validG_small (g := g) (by unfold askOk at h1; exact (Bool.and_eq_true_iff.1 h1).1)
  have hC : stepsC g part n = (runTo g part n.toNat).2 := by unfold stepsC; rw [h1, h3]; rfl
  have hn : 0 ≤ n ∧ n ≤ 400 := by unfold isStp at h3; simpa using h3
  clear h1 h3 early
  obtain ⟨m, rfl⟩ : ∃ m : Nat, n = m := ⟨n.toNat, by omega⟩
  rw [Int.toNat_natCast] at hC
  have hm : (m : Int) ≤ 400 := hn.2
  have bm : (0 : Int) ≤ m := hn.1
  clear hn
  have FIN := Lib.hid (And.intro hR (And.intro hV hC))
  clear hR hV hC
  go_wp2_with (first | (go_at_call 36; refine (hask _ _ hA.gat).mono ?_; rintro e w4 ⟨rfl, m4, rfl⟩) | (go_at_call 43; refine (his _).mono ?_; rintro e w' ⟨rfl, hw⟩; rw [hw]; clear hw w'))
  clear hask his lS lA
  go_loopw [8, 9] (fun c i wr => ∃ (k : Nat) (x : Int), k ≤ m ∧ i = .int .i64 k ∧ c = .int .i64 x ∧ Hid ((runTo g part k).2 = x) ∧ Hid (x = 0 ∨ x = 4) ∧ Blk wr w.heap.size (runTo g part k).1.cells 30 ∧ Blk wr (w.heap.size + 1) zeroG.cells 30 ∧ Below w.heap.size w wr) (fun _ i _ => m - (intOf i).toNat)
  case atStart => exact ⟨0, 0, by omega, rfl, rfl, Lib.hid rfl, Lib.hid (.inl rfl), hA.drewN _, hS.drewN _, below_drewN hbel _⟩
  case round =>
    clear hA hS hbel
    obtain ⟨k, x, hk, rfl, rfl, hx, h04, hA, hS, hbel⟩ := hrel
    have bk : (0 : Int) ≤ k := by omega
    rcases h04.out with rfl | rfl
    · by_cases hlt : k < m
      · have bl : (k : Int) < m := by omega
        have HGO := Lib.hid (runTo_go hx.out)
        have hGo := runTo_ok (part := part) hg k
        have hGs := runTo_small (part := part) hsm k
        have HV : Hid (stepC (runTo g part k).1 part = 0 ∨ stepC (runTo g part k).1 part = 4) := Lib.hid (by
          rcases stepC_cases (runTo g part k).1 part with ⟨_, e, _⟩ | ⟨_, e, _⟩
          · exact .inl e
          · exact .inr e)
        generalize (runTo g part k).1 = G at *
        have hst := l06Stepped_any G w.heap.size part hGo hGs wr hA.gat
        have lS := hS.lt
        have lA := hA.lt
        generalize hGN : stepR G part = GN at *
        generalize hVN : stepC G part = VN at *
        have HGN := Lib.hid (And.intro hGN hVN)
        clear hGN hVN
        go_wp2_with (first | (go_at_call 37; refine hst.mono ?_; rintro e w5 ⟨rfl, hb5⟩; have hA5 := hA.below hb5 lA; have hS5 := hS.below hb5 lS; have hbel5 := hbel.trans (hb5.mono hbel.size)) | (refine wpList_store_blk rfl rfl rfl rfl row66 hA5 (Gr.size _) (Gr.size _) (Gr.one _) ?_))
        go_roundw
        case rel => exact ⟨k + 1, VN, by omega, by go_num, rfl, Lib.hid (by rw [HGO.out]), HV, by rw [HGO.out]; exact hA5.setRow _, hS5.rowOther _ (by omega), below_setRow hbel5 (by omega) _⟩
        case measure => simp [intOf]; omega
      · obtain rfl : k = m := by omega
        have HF : Hid (R = (runTo g part k).1.cells ∧ V = 0) := Lib.hid ⟨by rw [FIN.out.1]; unfold stepsR; rw [FIN.out.2.2, if_pos hx.out, Int.toNat_natCast], by rw [FIN.out.2.1, FIN.out.2.2, hx.out]⟩
        go_wp2_with (first | (refine wpList_load_blk rfl rfl rfl row66 hA (Gr.size _) ?_) | (refine wpList_store_blk rfl rfl rfl rfl row66 hS zeroG.size (Gr.size _) (Gr.one _) ?_))
        refine bodyPost_row2 rfl rfl row66 (hS.setRow _) (Gr.size _) rfl ⟨?_, below_setRow hbel (by omega) _⟩
        rw [HF.out.1, HF.out.2]; rfl
    · have HF := Lib.hid (fin0.out 4 (by rw [FIN.out.2.2, runTo_stay (k := k) (by rw [hx.out]; decide) m hk, hx.out]) (by decide))
      by_cases hlt : k < m
      all_goals
        go_wp2_with (first | (refine wpList_zero rfl rfl built66 ?_) | (refine wpList_store_blk rfl rfl rfl rfl row66 hS zeroG.size zeroG.size zeroG.one ?_))
        refine bodyPost_row2 rfl rfl row66 (hS.setRow _) zeroG.size rfl ⟨?_, below_setRow hbel (by omega) _⟩
        rw [HF.out.1, HF.out.2]; rfl
end Go.Proofs.YtmmfnklnmdhkiaaGreat
/- The head of a tide at an hour, in the program and in the reference, up to the bits of a number that is none. -/
namespace Go.Proofs.YtmmfnklnmdhkiaaGreat
open Go.ChangeShapes Go.WideShapes Go.ChangeAt Go.RowKit
set_option linter.unusedVariables false
set_option linter.unusedSimpArgs false
attribute [local irreducible] Calls
/-- The first part of a product. -/
def reT (a b c d : Nat) : Nat := fop .sub (fop .mul a c) (fop .mul b d)
/-- The head at an hour. -/
def headT (m a b : Nat) (h : Int) : Nat := fop .add m (reT a b (cosT (h % 12).toNat) (sinT (h % 12).toNat))
theorem cn_headT (m a b : Nat) (h : Int) : cn (headT m a b h) = headT m a b h := cn_fop _ _ _
theorem cn_reT (a b c d : Nat) : cn (reT a b c d) = reT a b c d := cn_fop _ _ _
set_option maxRecDepth 100000 in
set_option maxHeartbeats 400000 in
theorem timesWave_any (a b c d : Nat) (w : World) :
    Calls Tryz.prog 93 #[.complex .f32 a b, .complex .f32 c d] w fun e w' => ∃ r i, e = .returned (.complex .f32 r i) ∧ cn r = reT a b c d ∧ ∃ q, w' = w.drewN q := by
  go_enter Tryz.func93, Tryz.ntmps93
  go_wp2_with fail
  go_ret
  refine ⟨_, _, rfl, ?_, _, rfl⟩
  unfold reT
  simp only [cn_res, fop_res_l, fop_res_r, cn_fop]
set_option maxRecDepth 100000 in
set_option maxHeartbeats 400000 in
theorem l06Times_any (a b c d : Nat) (w : World) :
    Calls Tryz.prog 103 #[.complex .f32 a b, .complex .f32 c d] w fun e w' => ∃ r i, e = .returned (.complex .f32 r i) ∧ cn r = reT a b c d ∧ ∃ q, w' = w.drewN q := by
  go_enter Tryz.func103, Tryz.ntmps103
  go_wp2_with (first | (go_at_call 101; refine (l06Re_any _ _ _).mono ?_; rintro e w' ⟨rfl, hw⟩; rw [hw]; clear hw w') | (go_at_call 102; refine (l06Im_any _ _ _).mono ?_; rintro e w' ⟨rfl, hw⟩; rw [hw]; clear hw w') | (go_at_call 55; refine (l06Wave_any _ _ _).mono ?_; rintro e w' ⟨rfl, hw⟩; rw [hw]; clear hw w'))
  go_ret
  refine ⟨_, _, rfl, ?_, _, rfl⟩
  unfold reT
  simp only [cn_res, fop_res_l, fop_res_r, cn_fop]
set_option maxRecDepth 100000 in
set_option maxHeartbeats 400000 in
theorem headAt_any (m a b : Nat) (h : Int) (h0 : 0 ≤ h) (h1 : h ≤ 100000) (w : World) :
    Calls Tryz.prog 69 #[.float .f32 m, .complex .f32 a b, .int .i64 h] w fun e w' => ∃ r, e = .returned (.float .f32 r) ∧ cn r = headT m a b h ∧ Below w.heap.size w w' := by
  have ht := turn_any h h0 h1 w
  unfold headT
  generalize cosT (h % 12).toNat = c at *
  generalize sinT (h % 12).toNat = d at *
  go_enter Tryz.func69, Tryz.ntmps69
  go_wp2_with (first | (go_at_call 94; refine ht.mono ?_; rintro e w1 ⟨rfl, hb⟩) | (go_at_call 93; refine (timesWave_any _ _ _ _ _).mono ?_; rintro e w2 ⟨r, i, rfl, hr, q, rfl⟩))
  go_ret
  refine ⟨_, rfl, ?_, below_drewN hb _⟩
  rw [cn_res]
  exact fop_eq rfl (by rw [hr, cn_reT])
set_option maxRecDepth 100000 in
set_option maxHeartbeats 400000 in
theorem l06Head_any (m a b : Nat) (h : Int) (h0 : 0 ≤ h) (h1 : h ≤ 100000) (w : World) :
    Calls Tryz.prog 92 #[.float .f32 m, .complex .f32 a b, .int .i64 h] w fun e w' => ∃ r, e = .returned (.float .f32 r) ∧ cn r = headT m a b h ∧ Below w.heap.size w w' := by
  have ht := l06Turn_any h h0 h1 w
  unfold headT
  generalize cosT (h % 12).toNat = c at *
  generalize sinT (h % 12).toNat = d at *
  go_enter Tryz.func92, Tryz.ntmps92
  go_wp2_with (first | (go_at_call 104; refine ht.mono ?_; rintro e w1 ⟨rfl, hb⟩) | (go_at_call 103; refine (l06Times_any _ _ _ _ _).mono ?_; rintro e w2 ⟨r, i, rfl, hr, q, rfl⟩) | (go_at_call 101; refine (l06Re_any _ _ _).mono ?_; rintro e w' ⟨rfl, hw⟩; rw [hw]; clear hw w'))
  go_ret
  refine ⟨_, rfl, ?_, below_drewN hb _⟩
  rw [cn_res]
  exact fop_eq rfl (by rw [hr, cn_reT])
set_option maxRecDepth 100000 in
set_option maxHeartbeats 400000 in
theorem validWave_any (a b : Nat) (w : World) :
    Calls Tryz.prog 68 #[.complex .f32 a b] w fun e w' => e = .returned (.bool (plain a && plain b)) ∧ w' = w := by
  have h1 := fun w' => isPlain_any a w'
  have h2 := fun w' => isPlain_any b w'
  cases ha : plain a <;> rw [ha] at h1
  · clear h2 ha
    go_enter Tryz.func68, Tryz.ntmps68
    go_wp2_with (go_at_call 34; refine (h1 _).mono ?_; rintro e w' ⟨rfl, hw⟩; rw [hw]; clear hw w')
    go_ret
    exact ⟨rfl, rfl⟩
  · generalize plain b = pb at *
    clear ha
    go_enter Tryz.func68, Tryz.ntmps68
    go_wp2_with (go_at_call 34; first | (refine (h1 _).mono ?_; rintro e w' ⟨rfl, hw⟩; rw [hw]; clear hw w') | (refine (h2 _).mono ?_; rintro e w' ⟨rfl, hw⟩; rw [hw]; clear hw w'))
    go_ret
    exact ⟨rfl, rfl⟩
set_option maxRecDepth 100000 in
set_option maxHeartbeats 400000 in
theorem l06Ok_any (a b : Nat) (w : World) :
    Calls Tryz.prog 91 #[.complex .f32 a b] w fun e w' => e = .returned (.bool (plain a && plain b)) ∧ w' = w := by
  have h1 := fun w' => l01Plain_any a w'
  have h2 := fun w' => l01Plain_any b w'
  cases ha : plain a <;> rw [ha] at h1
  · clear h2 ha
    go_enter Tryz.func91, Tryz.ntmps91
    go_wp2_with (first | (go_at_call 101; refine (l06Re_any _ _ _).mono ?_; rintro e w' ⟨rfl, hw⟩; rw [hw]; clear hw w') | (go_at_call 47; refine (h1 _).mono ?_; rintro e w' ⟨rfl, hw⟩; rw [hw]; clear hw w'))
    go_ret
    exact ⟨rfl, rfl⟩
  · generalize plain b = pb at *
    clear ha
    go_enter Tryz.func91, Tryz.ntmps91
    go_wp2_with (first | (go_at_call 101; refine (l06Re_any _ _ _).mono ?_; rintro e w' ⟨rfl, hw⟩; rw [hw]; clear hw w') | (go_at_call 102; refine (l06Im_any _ _ _).mono ?_; rintro e w' ⟨rfl, hw⟩; rw [hw]; clear hw w') | (go_at_call 47; first | (refine (h1 _).mono ?_; rintro e w' ⟨rfl, hw⟩; rw [hw]; clear hw w') | (refine (h2 _).mono ?_; rintro e w' ⟨rfl, hw⟩; rw [hw]; clear hw w')))
    go_ret
    exact ⟨rfl, rfl⟩
theorem isHour_any (h : Int) (w : World) :
    Calls Tryz.prog 57 #[.int .i64 h] w fun e w' => e = .returned (.bool (decide (0 ≤ h) && decide (h ≤ 100000))) ∧ w' = w := by
  go_enter Tryz.func57, Tryz.ntmps57
  go_wp2_with (go_at_call 74; refine (in_any _ _ _ _).mono ?_; rintro e w' ⟨rfl, hw⟩; rw [hw]; clear hw w')
  go_ret
  exact ⟨rfl, rfl⟩
theorem l06Hour_any (h : Int) (w : World) :
    Calls Tryz.prog 60 #[.int .i64 h] w fun e w' => e = .returned (.bool (decide (0 ≤ h) && decide (h ≤ 100000))) ∧ w' = w := by
  go_enter Tryz.func60, Tryz.ntmps60
  go_wp2_with (go_at_call 66; refine (l00In_any _ _ _ _).mono ?_; rintro e w' ⟨rfl, hw⟩; rw [hw]; clear hw w')
  go_ret
  exact ⟨rfl, rfl⟩
/-- The head that is returned, where all is valid. -/
theorem headAtHour_any (m a b : Nat) (h : Int) (hm : plain m = true) (ha : plain a = true) (hb : plain b = true) (h0 : 0 ≤ h) (h1 : h ≤ 100000) (w : World) :
    Calls Tryz.prog 28 #[.float .f32 m, .complex .f32 a b, .int .i64 h] w fun e w' => ∃ r, e = .returned (.tuple #[.float .f32 r, .int .i64 0]) ∧ cn r = headT m a b h ∧ Below w.heap.size w w' := by
  have hh := headAt_any m a b h h0 h1 w
  have hp := fun w' => isPlain_any m w'
  have hv := fun w' => validWave_any a b w'
  have hi := fun w' => isHour_any h w'
  rw [hm] at hp
  rw [ha, hb] at hv
  have hd : (decide (0 ≤ h) && decide (h ≤ 100000)) = true := by simp; omega
  rw [hd] at hi
  clear hd hm ha hb
  go_enter Tryz.func28, Tryz.ntmps28
  go_wp2_with (first | (go_at_call 34; refine (hp _).mono ?_; rintro e w' ⟨rfl, hw⟩; rw [hw]; clear hw w') | (go_at_call 68; refine (hv _).mono ?_; rintro e w' ⟨rfl, hw⟩; rw [hw]; clear hw w') | (go_at_call 57; refine (hi _).mono ?_; rintro e w' ⟨rfl, hw⟩; rw [hw]; clear hw w') | (go_at_call 69; refine hh.mono ?_; rintro e w1 ⟨r, rfl, hr, hb1⟩))
  go_ret2
  exact ⟨r, rfl, hr, hb1⟩
end Go.Proofs.YtmmfnklnmdhkiaaGreat
