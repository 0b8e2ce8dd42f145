import Derived.Test.YtdnnjahdcabdmaaGreatDoorMD23
/- GroundWith, in the program and in the reference. -/
namespace Go.Proofs.YtdnnjahdcabdmaaGreatDoor
open Go.ChangeShapes Go.WideShapes Go.ChangeAt Go.RowKit
set_option linter.unusedVariables false
set_option linter.unusedSimpArgs false
attribute [local irreducible] Calls

theorem validP_use {g : Gr} {n m : Nat} {P : Nat → Wt} {Q : Nat → Pm} (h : validP g n P m Q = true) : validG g = true ∧ validO g n P = true ∧ cellsIn g m Q ∧ m ≤ 6 ∧ ∀ i, i < m → badPG g (Q i) = false := by
  unfold validP at h
  simp only [Bool.and_eq_true, decide_eq_true_eq, Bool.not_eq_true'] at h
  have h0 : validO g n P = true := h.1
  have hv : validG g = true := by unfold validO at h0; exact (Bool.and_eq_true_iff.1 h0).1
  have hb := anyTo_false.1 h.2.2
  refine ⟨hv, h0, fun i hi => ?_, h.2.1, hb⟩
  have := hb i hi
  unfold badPG at this
  simp only [Bool.or_eq_false_iff, Bool.not_eq_false'] at this
  exact this.2.2
def gwT (g : Gr) (n : Nat) (P : Nat → Wt) (m : Nat) (Q : Nat → Pm) : Gr × Int := if validP g n P m Q then withT Q m 0 g else (zeroG, 1)

set_option maxRecDepth 100000 in
set_option maxHeartbeats 400000 in
theorem groundWith_any (g : Gr) (v u : Value) (n m : Nat) (P : Nat → Wt) (Q : Nat → Pm) (hg : g.ok) (hP : ∀ i, i < n → (P i).ok) (hQ : ∀ i, i < m → (Q i).ok) (w : World) (hv : WSl w v n P) (hu : PSl w u m Q) :
    Calls Tryz.prog 10 #[.agg (ofc g v), u] w fun e w' => e = .returned (.tuple #[.agg (gwT g n P m Q).1.cells, .int .i64 (gwT g n P m Q).2]) ∧ Below w.heap.size w w' := by
  obtain ⟨R, hR⟩ : ∃ R, R = (gwT g n P m Q).1.cells := ⟨_, rfl⟩
  obtain ⟨V, hV⟩ : ∃ V, V = (gwT g n P m Q).2 := ⟨_, rfl⟩
  rw [← hR, ← hV]
  unfold gwT at hR hV
  obtain ⟨a, c, rfl, hform⟩ := id hu
  clear hform
  go_enter Tryz.func10, Tryz.ntmps10
  go_upto_region 1 with (first | (refine wpList_box_as rfl rfl rfl ?_) | (refine wpList_alloc_as rfl rfl zero66z ?_))
  have hA : Blk ((w.alloc (.cells (ofc g v) 33)).alloc (.cells zeroG.cells 30)) w.heap.size (ofc g v) 33 := (Blk.new _ _ _).alloc _
  have hS : Blk ((w.alloc (.cells (ofc g v) 33)).alloc (.cells zeroG.cells 30)) (w.heap.size + 1) zeroG.cells 30 := Blk.new1 _ _ _ _
  have hbel := below2 w (.cells (ofc g v) 33) (.cells zeroG.cells 30)
  generalize ((w.alloc (.cells (ofc g v) 33)).alloc (.cells zeroG.cells 30)) = W at *
  have lA := hA.lt
  have lS := hS.lt
  have hu := hu.below hbel
  have hvp := validPermits_any g v _ n m P Q hg hP hQ W (hv.below hbel) hu
  cases hvd : validP g n P m Q <;> rw [hvd] at hvp hR hV
  · have HF := Lib.hid (And.intro hR hV)
    clear hR hV hvd
    go_wp2_with (first | (refine wpList_load_blk rfl rfl rfl row76 hA (ofc_size _ _) ?_) | (go_at_call 18; refine hvp.mono ?_; rintro e w2 ⟨rfl, hb2⟩; have hS2 := hS.below hb2 lS) | (refine wpList_zero rfl rfl built66 ?_) | (refine wpList_store_blk rfl rfl rfl rfl row66 hS2 zeroG.size zeroG.size zeroG.one ?_))
    refine bodyPost_row2 rfl rfl row66 (hS2.setRow _) zeroG.size rfl ⟨?_, below_setRow (hbel.trans (hb2.mono hbel.size)) (by omega) _⟩
    rw [HF.out.1, HF.out.2]; rfl
  · have HF := Lib.hid (And.intro hR hV)
    obtain ⟨hvg, _, hci, _, _⟩ := validP_use hvd
    have hwi := fun w' h1 (h2 : PSl w' (.slice a m c) m Q) => with_any g w.heap.size _ m Q hg hvg hci w' h1 h2
    clear hR hV hvd
    generalize withT Q m 0 g = T at *
    obtain ⟨T1, T2⟩ := T
    go_wp2_with (first | (refine wpList_load_blk rfl rfl rfl row76 hA (ofc_size _ _) ?_) | (go_at_call 18; refine hvp.mono ?_; rintro e w2 ⟨rfl, hb2⟩; have hS2 := hS.below hb2 lS; have lS2 := hS2.lt; have hA2 := hA.below hb2 lA) | (go_at_call 52; refine (hwi _ hA2.ogat (hu.below hb2)).mono ?_; rintro e w3 ⟨rfl, hb3⟩; have hS3 := hS2.below hb3 lS2) | (refine wpList_store_blk rfl rfl rfl rfl row66 hS3 zeroG.size (Gr.size _) (Gr.one _) ?_))
    have hbel2 := hbel.trans (hb2.mono hbel.size)
    refine bodyPost_row2 rfl rfl row66 (hS3.setRow _) (Gr.size _) rfl ⟨?_, below_setRow (hbel2.trans (hb3.mono hbel2.size)) (by omega) _⟩
    rw [HF.out.1, HF.out.2]; rfl

set_option maxRecDepth 100000 in
set_option maxHeartbeats 400000 in
theorem specGroundWith_any (g : Gr) (v u : Value) (n m : Nat) (P : Nat → Wt) (Q : Nat → Pm) (hg : g.ok) (hP : ∀ i, i < n → (P i).ok) (hQ : ∀ i, i < m → (Q i).ok) (w : World) (hv : WSl w v n P) (hu : PSl w u m Q) :
    Calls Tryz.prog 11 #[.agg (ofc g v), u] w fun e w' => e = .returned (.tuple #[.agg (gwT g n P m Q).1.cells, .int .i64 (gwT g n P m Q).2]) ∧ Below w.heap.size w w' := by
  obtain ⟨R, hR⟩ : ∃ R, R = (gwT g n P m Q).1.cells := ⟨_, rfl⟩
  obtain ⟨V, hV⟩ : ∃ V, V = (gwT g n P m Q).2 := ⟨_, rfl⟩
  rw [← hR, ← hV]
  unfold gwT at hR hV
  obtain ⟨a, c, rfl, hform⟩ := id hu
  clear hform
  go_enter Tryz.func11, Tryz.ntmps11
  go_upto_region 1 with (first | (refine wpList_box_as rfl rfl rfl ?_) | (refine wpList_alloc_as rfl rfl zero66z ?_))
  have hA : Blk ((w.alloc (.cells (ofc g v) 33)).alloc (.cells zeroG.cells 30)) w.heap.size (ofc g v) 33 := (Blk.new _ _ _).alloc _
  have hS : Blk ((w.alloc (.cells (ofc g v) 33)).alloc (.cells zeroG.cells 30)) (w.heap.size + 1) zeroG.cells 30 := Blk.new1 _ _ _ _
  have hbel := below2 w (.cells (ofc g v) 33) (.cells zeroG.cells 30)
  generalize ((w.alloc (.cells (ofc g v) 33)).alloc (.cells zeroG.cells 30)) = W at *
  have lA := hA.lt
  have lS := hS.lt
  have hu := hu.below hbel
  have hvp := l07Fits_any g v _ n m P Q w.heap.size _ hg hP hQ W hA (hv.below hbel) hu
  cases hvd : validP g n P m Q <;> rw [hvd] at hvp hR hV
  · have HF := Lib.hid (And.intro hR hV)
    clear hR hV hvd
    go_wp2_with (first | (go_at_call 53; refine hvp.mono ?_; rintro e w2 ⟨rfl, hb2⟩; have hS2 := hS.below hb2 lS) | (refine wpList_zero rfl rfl built66 ?_) | (refine wpList_store_blk rfl rfl rfl rfl row66 hS2 zeroG.size zeroG.size zeroG.one ?_))
    refine bodyPost_row2 rfl rfl row66 (hS2.setRow _) zeroG.size rfl ⟨?_, below_setRow (hbel.trans (hb2.mono hbel.size)) (by omega) _⟩
    rw [HF.out.1, HF.out.2]; rfl
  · have HF := Lib.hid (And.intro hR hV)
    obtain ⟨hvg, _, hci, _, _⟩ := validP_use hvd
    have hwi := fun w' h1 (h2 : PSl w' (.slice a m c) m Q) => l07Ground_any g w.heap.size _ m Q hg hvg hci w' h1 h2
    clear hR hV hvd
    generalize withT Q m 0 g = T at *
    obtain ⟨T1, T2⟩ := T
    go_wp2_with (first | (go_at_call 53; refine hvp.mono ?_; rintro e w2 ⟨rfl, hb2⟩; have hS2 := hS.below hb2 lS; have lS2 := hS2.lt; have hA2 := hA.below hb2 lA) | (go_at_call 54; refine (hwi _ hA2.ogat (hu.below hb2)).mono ?_; rintro e w3 ⟨rfl, hb3⟩; have hS3 := hS2.below hb3 lS2) | (refine wpList_store_blk rfl rfl rfl rfl row66 hS3 zeroG.size (Gr.size _) (Gr.one _) ?_))
    have hbel2 := hbel.trans (hb2.mono hbel.size)
    refine bodyPost_row2 rfl rfl row66 (hS3.setRow _) (Gr.size _) rfl ⟨?_, below_setRow (hbel2.trans (hb3.mono hbel2.size)) (by omega) _⟩
    rw [HF.out.1, HF.out.2]; rfl
end Go.Proofs.YtdnnjahdcabdmaaGreatDoor
/- The first watch that is below its level, and whether permits are kept: the walks. -/
namespace Go.Proofs.YtdnnjahdcabdmaaGreatDoor
open Go.ChangeShapes Go.WideShapes Go.ChangeAt Go.RowKit
set_option linter.unusedVariables false
set_option linter.unusedSimpArgs false
attribute [local irreducible] Calls

/-- The first index of which q is true, -1 if there is none. -/
def firstI {α : Type} (q : α → Bool) (P : Nat → α) : Nat → Int
  | 0 => -1
  | n + 1 => if 0 ≤ firstI q P n then firstI q P n else if q (P n) then n else -1
theorem firstI_to {α : Type} (q : α → Bool) (P : Nat → α) : ∀ n, firstTo q P n (firstI q P n)
  | 0 => .inl ⟨rfl, fun i hi => by omega⟩
  | n + 1 => by
    have ih := firstI_to q P n
    unfold firstI
    rcases ih with ⟨h1, h2⟩ | ⟨k, h1, h2, h3, h4⟩
    · rw [h1, if_neg (by omega)]
      by_cases hq : q (P n) = true
      · rw [if_pos hq]; exact .inr ⟨n, rfl, by omega, hq, h2⟩
      · rw [if_neg hq]
        exact .inl ⟨rfl, fun i hi => by
          by_cases h : i < n
          · exact h2 i h
          · obtain rfl : i = n := by omega
            simpa using hq⟩
    · rw [h1, if_pos (by omega)]; exact .inr ⟨k, rfl, by omega, h3, h4⟩
theorem firstTo_uniq {α : Type} {q : α → Bool} {P : Nat → α} {n : Nat} {r r' : Int} (h : firstTo q P n r) (h' : firstTo q P n r') : r = r' := by
  rcases h with ⟨h1, h2⟩ | ⟨k, h1, h2, h3, h4⟩ <;> rcases h' with ⟨g1, g2⟩ | ⟨j, g1, g2, g3, g4⟩
  · omega
  · rw [h2 j g2] at g3; cases g3
  · rw [g2 k h2] at h3; cases h3
  · by_cases hkj : k < j
    · rw [g4 k hkj] at h3; cases h3
    · by_cases hjk : j < k
      · rw [h4 j hjk] at g3; cases g3
      · omega
theorem firstTo_eq {α : Type} {q : α → Bool} {P : Nat → α} {n : Nat} {r : Int} (h : firstTo q P n r) : r = firstI q P n := firstTo_uniq h (firstI_to q P n)
theorem firstI_lt {α : Type} (q : α → Bool) (P : Nat → α) (n : Nat) : -1 ≤ firstI q P n ∧ firstI q P n < n := by
  rcases firstI_to q P n with ⟨h1, h2⟩ | ⟨k, h1, h2, h3, h4⟩ <;> omega
/-- Is the head of this watch less than its level? -/
def lowW (G : Gr) (p : Wt) : Bool := flt (G.hea p.cel.toNat) p.lim
/-- The watches lie in cells. -/
def watchIn (n : Nat) (P : Nat → Wt) : Prop := ∀ i, i < n → ∃ c : Nat, (P i).cel = c ∧ c < 64

set_option maxRecDepth 100000 in
set_option maxHeartbeats 400000 in
theorem belowW_any (G : Gr) (x k c : Nat) (l : Nat) (hc : c < 64) (w : World) (hG : GAt w x G) (hk : w.cell? ⟨k, 0, none⟩ = some (.pointer (some ⟨x, 0, none⟩))) (lk : k < w.heap.size) :
    Calls Tryz.prog 113 #[.agg #[.int .i8 c, .float .f32 l], .pointer (some ⟨k, 0, none⟩)] w fun e w' => e = .returned (.bool (flt (G.hea c) l)) ∧ Below w.heap.size w w' := by
  have bk : (0 : Int) ≤ c := by omega
  have bl : (c : Int) < 64 := by omega
  go_enter Tryz.func113, Tryz.ntmps113
  go_upto_region 1 with fail
  have hY := Blk.new w #[.int .i8 c, .float .f32 l] 55
  have hG := hG.alloc (.cells #[.int .i8 c, .float .f32 l] 55)
  have hbel := below1 w (.cells #[.int .i8 c, .float .f32 l] 55)
  have hk : (w.alloc (.cells #[.int .i8 c, .float .f32 l] 55)).cell? ⟨k, 0, none⟩ = some (.pointer (some ⟨x, 0, none⟩)) := (hbel.cell (p := ⟨k, 0, none⟩) lk).trans hk
  generalize w.alloc (.cells #[.int .i8 c, .float .f32 l] 55) = W at *
  generalize hy : w.heap.size = y at *
  have c0 : W.cell? ⟨y, 0, none⟩ = some (.int .i8 c) := hY.cell 0
  have c1 : W.cell? ⟨y, 1, none⟩ = some (.float .f32 l) := hY.cell 1
  have c2 : W.cell? ⟨x, 130 + c, none⟩ = some (.float .f32 (G.hea c)) := hG.getH c hc
  refine wp_loose (C := fun w' => ∃ n, w' = W.drewN n) (R := fun _ _ => True) (F := fun _ dd vv => match dd, vv with
    | 4, vv => vv = .pointer (some ⟨x, 0, none⟩)
    | 5, vv => vv = .pointer (some ⟨y, 0, none⟩)
    | 6, vv => vv = .int .i8 c
    | 7, vv => vv = .pointer (some ⟨x, 0, none⟩)
    | 8, vv => vv = .pointer (some ⟨x, 130, none⟩)
    | 9, vv => vv = .pointer (some ⟨x, 130 + c, none⟩)
    | 10, vv => vv = .float .f32 (G.hea c)
    | 11, vv => vv = .pointer (some ⟨y, 1, none⟩)
    | 12, vv => vv = .float .f32 l
    | 13, vv => vv = .bool (flt (G.hea c) l)
    | 3, vv => vv = .bool (flt (G.hea c) l)
    | _, _ => True) (fun _ _ _ _ _ h => h) (by kernel_rfl) (by kernel_rfl) (by kernel_rfl) ⟨1, rfl⟩ ?_ ?_
  · refine steps_cons (step_go rfl fun ev w1 hC kn => ?_) ?_
    · have e1 : ev (.tmp 1) = .pointer (some ⟨k, 0, none⟩) := kn.out 1 rfl rfl rfl
      obtain ⟨nn, rfl⟩ := hC
      exact good_of (v := .pointer (some ⟨x, 0, none⟩)) rfl (by simp [execOp, e1, go_sem, hk]) ⟨nn, rfl⟩ trivial rfl
    refine steps_cons (step_go rfl fun ev w1 hC kn => ?_) ?_
    · have e1 : ev (.tmp 2) = .pointer (some ⟨y, 0, none⟩) := kn.out 2 rfl rfl rfl
      exact good_of (v := .pointer (some ⟨y, 0, none⟩)) rfl (by simp only [execOp, e1]; rfl) hC trivial rfl
    refine steps_cons (step_go rfl fun ev w1 hC kn => ?_) ?_
    · have e1 : ev (.tmp 5) = .pointer (some ⟨y, 0, none⟩) := kn.inn 5 rfl rfl
      obtain ⟨nn, rfl⟩ := hC
      exact good_of (v := .int .i8 c) rfl (by simp [execOp, e1, go_sem, c0]) ⟨nn, rfl⟩ trivial rfl
    refine steps_cons (step_go rfl fun ev w1 hC kn => ?_) ?_
    · have e1 : ev (.tmp 4) = .pointer (some ⟨x, 0, none⟩) := kn.inn 4 rfl rfl
      exact good_of (v := .pointer (some ⟨x, 0, none⟩)) rfl (by simp [execOp, e1, kn.con, go_sem]) hC trivial rfl
    refine steps_cons (step_go rfl fun ev w1 hC kn => ?_) ?_
    · have e1 : ev (.tmp 7) = .pointer (some ⟨x, 0, none⟩) := kn.inn 7 rfl rfl
      exact good_of (v := .pointer (some ⟨x, 130, none⟩)) rfl (by simp only [execOp, e1]; rfl) hC trivial rfl
    refine steps_cons (step_go rfl fun ev w1 hC kn => ?_) ?_
    · have e1 : ev (.tmp 8) = .pointer (some ⟨x, 130, none⟩) := kn.inn 8 rfl rfl
      have e2 : ev (.tmp 6) = .int .i8 c := kn.inn 6 rfl rfl
      exact good_of (v := .pointer (some ⟨x, 130 + c, none⟩)) rfl (by simp [execOp, e1, e2, kn.con, go_sem, bl, bk]) hC trivial rfl
    refine steps_cons (step_go rfl fun ev w1 hC kn => ?_) ?_
    · have e1 : ev (.tmp 9) = .pointer (some ⟨x, 130 + c, none⟩) := kn.inn 9 rfl rfl
      obtain ⟨nn, rfl⟩ := hC
      exact good_of (v := .float .f32 (G.hea c)) rfl (by simp [execOp, e1, go_sem, c2]) ⟨nn, rfl⟩ trivial rfl
    refine steps_cons (step_go rfl fun ev w1 hC kn => ?_) ?_
    · have e1 : ev (.tmp 2) = .pointer (some ⟨y, 0, none⟩) := kn.out 2 rfl rfl rfl
      exact good_of (v := .pointer (some ⟨y, 1, none⟩)) rfl (by simp only [execOp, e1]; rfl) hC trivial rfl
    refine steps_cons (step_go rfl fun ev w1 hC kn => ?_) ?_
    · have e1 : ev (.tmp 11) = .pointer (some ⟨y, 1, none⟩) := kn.inn 11 rfl rfl
      obtain ⟨nn, rfl⟩ := hC
      exact good_of (v := .float .f32 l) rfl (by simp [execOp, e1, go_sem, c1]) ⟨nn, rfl⟩ trivial rfl
    refine steps_cons (step_go rfl fun ev w1 hC kn => ?_) ?_
    · have e1 : ev (.tmp 10) = .float .f32 (G.hea c) := kn.inn 10 rfl rfl
      have e2 : ev (.tmp 12) = .float .f32 l := kn.inn 12 rfl rfl
      exact good_of (v := .bool (flt (G.hea c) l)) rfl (by simp [execOp, e1, e2, kn.con, go_sem, flt_eq]) hC trivial rfl
    refine steps_cons (step_go rfl fun ev w1 hC kn => ?_) ?_
    · have e1 : ev (.tmp 13) = .bool (flt (G.hea c) l) := kn.inn 13 rfl rfl
      exact good_of (v := .bool (flt (G.hea c) l)) rfl (by simp [execOp, e1, kn.con, go_sem]) hC trivial rfl
    exact steps_nil
  rintro xv w1 hxv hC
  have y3 : xv 3 = .bool (flt (G.hea c) l) := hxv 3 (by decide)
  obtain ⟨n, rfl⟩ := hC
  simp only [fill, dstsOf, List.filterMap_cons, List.filterMap_nil, List.foldl_cons, List.foldl_nil, List.set_cons_succ, List.set_cons_zero, y3]
  clear hxv y3
  go_wp2_with fail
  go_ret
  exact ⟨rfl, by rw [hy]; exact below_drewN hbel _⟩
theorem callBelow : Callable Tryz.prog 113 := ⟨_, Tryz.func113, by kernel_rfl, by kernel_rfl⟩

set_option maxRecDepth 100000 in
set_option maxHeartbeats 400000 in
theorem below_any (G : Gr) (b x : Nat) (v : Value) (n : Nat) (P : Nat → Wt) (hP : watchIn n P) (w : World) (lb : b < w.heap.size) (hcS : w.cell? ⟨b, 195, none⟩ = some v) (hv : WSl w v n P) (hG : GAt w x G) :
    Calls Tryz.prog 55 #[.pointer (some ⟨b, 0, none⟩), .pointer (some ⟨x, 0, none⟩)] w fun e w' => e = .returned (.int .i64 (firstI (lowW G) P n)) ∧ Below w.heap.size w w' := by
  obtain ⟨a, c, rfl, hform⟩ := id hv
  clear hform
  obtain ⟨R, hR⟩ : ∃ R, R = firstI (lowW G) P n := ⟨_, rfl⟩
  rw [← hR]
  have HR : Hid (∀ r, firstTo (lowW G) P n r → r = R) := Lib.hid fun r h => (firstTo_eq h).trans hR.symm
  clear hR
  have lx := hG.lt
  go_enter Tryz.func55, Tryz.ntmps55
  go_upto_region 1 with fail
  have hK := Blk.new w #[.pointer (some ⟨x, 0, none⟩)] 105
  have hG := hG.alloc (.cells #[.pointer (some ⟨x, 0, none⟩)] 105)
  have hbel := below1 w (.cells #[.pointer (some ⟨x, 0, none⟩)] 105)
  have hv := hv.below hbel
  have cS := (hbel.cell (p := ⟨b, 195, none⟩) lb).trans hcS
  generalize w.alloc (.cells #[.pointer (some ⟨x, 0, none⟩)] 105) = W at *
  have lK := hK.lt
  have lx := hG.lt
  have hix := indexWt_any (lowW G) 113 #[.pointer (some ⟨w.heap.size, 0, none⟩)] n P _ W hv callBelow (fun i w' hi hb => by
    obtain ⟨c1, hc1, hc2⟩ := hP i hi
    have := belowW_any G x w.heap.size c1 (P i).lim hc2 w' (hG.below hb lx) ((hb.cell (p := ⟨w.heap.size, 0, none⟩) lK).trans (hK.cell 0)) (Nat.lt_of_lt_of_le lK hb.size)
    rw [(P i).cells_eq]
    unfold lowW
    rw [hc1]
    exact this)
  go_wp2_with (go_at_call 112; refine hix.mono ?_; rintro e w1 ⟨r, rfl, hr, hb1⟩)
  go_ret
  obtain rfl := HR.out r hr
  exact ⟨rfl, hbel.trans (hb1.mono hbel.size)⟩

set_option maxRecDepth 100000 in
set_option maxHeartbeats 400000 in
theorem l07Below_any (G : Gr) (b x : Nat) (v : Value) (N : Nat) (P : Nat → Wt) (hP : watchIn N P) (w : World) (lb : b < w.heap.size) (hcS : w.cell? ⟨b, 195, none⟩ = some v) (hv : WSl w v N P) (hG : GAt w x G) :
    Calls Tryz.prog 56 #[.pointer (some ⟨b, 0, none⟩), .pointer (some ⟨x, 0, none⟩)] w fun e w' => e = .returned (.int .i64 (firstI (lowW G) P N)) ∧ ∃ q, w' = w.drewN q := by
  obtain ⟨a, c', rfl, hc1, hc2, hcell⟩ := hv
  unfold maxLen at hc2
  have HC := Lib.hid hcell
  clear hcell
  obtain ⟨R, hR⟩ : ∃ R, R = firstI (lowW G) P N := ⟨_, rfl⟩
  rw [← hR]
  have HR : Hid (∀ r, firstTo (lowW G) P N r → r = R) := Lib.hid fun r h => (firstTo_eq h).trans hR.symm
  clear hR
  have HP := Lib.hid hP
  clear hP
  have bn : (N : Int) ≤ 9223372036854775807 := by omega
  go_enter Tryz.func56, Tryz.ntmps56
  go_upto_region 2 with fail
  go_loopw [5] (fun i wr => ∃ k q : Nat, k ≤ N ∧ i = .int .i64 k ∧ Hid (∀ j, j < k → lowW G (P j) = false) ∧ wr = w.drewN q) (fun i _ => N - (intOf i).toNat)
  case atStart => exact ⟨0, 0, by omega, rfl, Lib.hid fun j hj => by omega, rfl⟩
  case round =>
    obtain ⟨k, q, hk, rfl, hq, rfl⟩ := hrel
    have cS : (w.drewN q).cell? ⟨b, 195, none⟩ = some (.slice a N c') := hcS
    by_cases hlt : k < N
    · obtain ⟨b', o, rfl, hb', hcell⟩ := HC.out.resolve_left (by omega)
      obtain ⟨c, hc, hc64⟩ := HP.out k hlt
      have mm0 : (w.drewN q).cell? ⟨b', o + k * 2, none⟩ = some (.int .i8 c) := (hcell k 0 hlt (by omega)).trans ((P k).get0.trans (by rw [hc]))
      have mm1 : (w.drewN q).cell? ⟨b', o + k * 2 + 1, none⟩ = some (.float .f32 (P k).lim) := (hcell k 1 hlt (by omega)).trans (P k).get1
      have mm2 : (w.drewN q).cell? ⟨x, 130 + c, none⟩ = some (.float .f32 (G.hea c)) := (hG.drewN q).getH c hc64
      clear hcell
      have HW : Hid (lowW G (P k) = flt (G.hea c) (P k).lim) := Lib.hid (by unfold lowW; rw [hc]; rfl)
      have bj : (0 : Int) ≤ k := by omega
      have bm : (k : Int) < N := by omega
      have bk : (0 : Int) ≤ c := by omega
      have bl : (c : Int) < 64 := by omega
      go_upto_region 4 with fail
      generalize hl : (P k).lim = l at *
      generalize hW1 : w.drewN q = W1 at *
      refine wp_loose (C := fun w' => ∃ n, w' = W1.drewN n) (R := fun _ _ => True) (F := fun _ dd vv => match dd, vv with
        | 15, vv => vv = .pointer (some ⟨x, 0, none⟩)
        | 16, vv => vv = .pointer (some ⟨b, 0, none⟩)
        | 17, vv => vv = .pointer (some ⟨b, 0, none⟩)
        | 18, vv => vv = .pointer (some ⟨b, 195, none⟩)
        | 19, vv => vv = .slice (some ⟨b', o, none⟩) N c'
        | 20, vv => vv = .int .i64 k
        | 21, vv => vv = .pointer (some ⟨b', o + k * 2, none⟩)
        | 22, vv => vv = .pointer (some ⟨b', o + k * 2, none⟩)
        | 23, vv => vv = .int .i8 c
        | 24, vv => vv = .pointer (some ⟨x, 0, none⟩)
        | 25, vv => vv = .pointer (some ⟨x, 130, none⟩)
        | 26, vv => vv = .pointer (some ⟨x, 130 + c, none⟩)
        | 27, vv => vv = .float .f32 (G.hea c)
        | 28, vv => vv = .pointer (some ⟨b, 0, none⟩)
        | 29, vv => vv = .pointer (some ⟨b, 0, none⟩)
        | 30, vv => vv = .pointer (some ⟨b, 195, none⟩)
        | 31, vv => vv = .slice (some ⟨b', o, none⟩) N c'
        | 32, vv => vv = .int .i64 k
        | 33, vv => vv = .pointer (some ⟨b', o + k * 2, none⟩)
        | 34, vv => vv = .pointer (some ⟨b', o + k * 2 + 1, none⟩)
        | 35, vv => vv = .float .f32 l
        | 36, vv => vv = .bool (flt (G.hea c) l)
        | _, _ => True) (fun _ _ _ _ _ h => h) (by kernel_rfl) (by kernel_rfl) (by kernel_rfl) ⟨1, rfl⟩ ?_ ?_
      · refine steps_cons (step_go rfl fun ev w1 hC kn => ?_) ?_
        · have e1 : ev (.tmp 1) = .pointer (some ⟨x, 0, none⟩) := kn.out 1 rfl rfl rfl
          exact good_of (v := .pointer (some ⟨x, 0, none⟩)) rfl (by simp [execOp, e1, kn.con, go_sem]) hC trivial rfl
        refine steps_cons (step_go rfl fun ev w1 hC kn => ?_) ?_
        · have e1 : ev (.tmp 0) = .pointer (some ⟨b, 0, none⟩) := kn.out 0 rfl rfl rfl
          exact good_of (v := .pointer (some ⟨b, 0, none⟩)) rfl (by simp [execOp, e1, kn.con, go_sem]) hC trivial rfl
        refine steps_cons (step_go rfl fun ev w1 hC kn => ?_) ?_
        · have e1 : ev (.tmp 16) = .pointer (some ⟨b, 0, none⟩) := kn.inn 16 rfl rfl
          exact good_of (v := .pointer (some ⟨b, 0, none⟩)) rfl (by simp [execOp, e1, kn.con, go_sem]) hC trivial rfl
        refine steps_cons (step_go rfl fun ev w1 hC kn => ?_) ?_
        · have e1 : ev (.tmp 17) = .pointer (some ⟨b, 0, none⟩) := kn.inn 17 rfl rfl
          exact good_of (v := .pointer (some ⟨b, 195, none⟩)) rfl (by simp only [execOp, e1]; rfl) hC trivial rfl
        refine steps_cons (step_go rfl fun ev w1 hC kn => ?_) ?_
        · have e1 : ev (.tmp 18) = .pointer (some ⟨b, 195, none⟩) := kn.inn 18 rfl rfl
          obtain ⟨nn, rfl⟩ := hC
          exact good_of (v := .slice (some ⟨b', o, none⟩) N c') rfl (by simp [execOp, e1, go_sem, cS]) ⟨nn, rfl⟩ trivial rfl
        refine steps_cons (step_go rfl fun ev w1 hC kn => ?_) ?_
        · have e1 : ev (.tmp 5) = .int .i64 k := kn.out 5 rfl rfl rfl
          exact good_of (v := .int .i64 k) rfl (by simp [execOp, e1, kn.con, go_sem]) hC trivial rfl
        refine steps_cons (step_go rfl fun ev w1 hC kn => ?_) ?_
        · have e1 : ev (.tmp 19) = .slice (some ⟨b', o, none⟩) N c' := kn.inn 19 rfl rfl
          have e2 : ev (.tmp 20) = .int .i64 k := kn.inn 20 rfl rfl
          exact good_of (v := .pointer (some ⟨b', o + k * 2, none⟩)) rfl (by simp [execOp, e1, e2, kn.con, go_sem, bl, bk, bj, bm]) hC trivial rfl
        refine steps_cons (step_go rfl fun ev w1 hC kn => ?_) ?_
        · have e1 : ev (.tmp 21) = .pointer (some ⟨b', o + k * 2, none⟩) := kn.inn 21 rfl rfl
          exact good_of (v := .pointer (some ⟨b', o + k * 2, none⟩)) rfl (by simp only [execOp, e1]; rfl) hC trivial rfl
        refine steps_cons (step_go rfl fun ev w1 hC kn => ?_) ?_
        · have e1 : ev (.tmp 22) = .pointer (some ⟨b', o + k * 2, none⟩) := kn.inn 22 rfl rfl
          obtain ⟨nn, rfl⟩ := hC
          exact good_of (v := .int .i8 c) rfl (by simp [execOp, e1, go_sem, mm0]) ⟨nn, rfl⟩ trivial rfl
        refine steps_cons (step_go rfl fun ev w1 hC kn => ?_) ?_
        · have e1 : ev (.tmp 15) = .pointer (some ⟨x, 0, none⟩) := kn.inn 15 rfl rfl
          exact good_of (v := .pointer (some ⟨x, 0, none⟩)) rfl (by simp [execOp, e1, kn.con, go_sem]) hC trivial rfl
        refine steps_cons (step_go rfl fun ev w1 hC kn => ?_) ?_
        · have e1 : ev (.tmp 24) = .pointer (some ⟨x, 0, none⟩) := kn.inn 24 rfl rfl
          exact good_of (v := .pointer (some ⟨x, 130, none⟩)) rfl (by simp only [execOp, e1]; rfl) hC trivial rfl
        refine steps_cons (step_go rfl fun ev w1 hC kn => ?_) ?_
        · have e1 : ev (.tmp 25) = .pointer (some ⟨x, 130, none⟩) := kn.inn 25 rfl rfl
          have e2 : ev (.tmp 23) = .int .i8 c := kn.inn 23 rfl rfl
          exact good_of (v := .pointer (some ⟨x, 130 + c, none⟩)) rfl (by simp [execOp, e1, e2, kn.con, go_sem, bl, bk, bj, bm]) hC trivial rfl
        refine steps_cons (step_go rfl fun ev w1 hC kn => ?_) ?_
        · have e1 : ev (.tmp 26) = .pointer (some ⟨x, 130 + c, none⟩) := kn.inn 26 rfl rfl
          obtain ⟨nn, rfl⟩ := hC
          exact good_of (v := .float .f32 (G.hea c)) rfl (by simp [execOp, e1, go_sem, mm2]) ⟨nn, rfl⟩ trivial rfl
        refine steps_cons (step_go rfl fun ev w1 hC kn => ?_) ?_
        · have e1 : ev (.tmp 0) = .pointer (some ⟨b, 0, none⟩) := kn.out 0 rfl rfl rfl
          exact good_of (v := .pointer (some ⟨b, 0, none⟩)) rfl (by simp [execOp, e1, kn.con, go_sem]) hC trivial rfl
        refine steps_cons (step_go rfl fun ev w1 hC kn => ?_) ?_
        · have e1 : ev (.tmp 28) = .pointer (some ⟨b, 0, none⟩) := kn.inn 28 rfl rfl
          exact good_of (v := .pointer (some ⟨b, 0, none⟩)) rfl (by simp [execOp, e1, kn.con, go_sem]) hC trivial rfl
        refine steps_cons (step_go rfl fun ev w1 hC kn => ?_) ?_
        · have e1 : ev (.tmp 29) = .pointer (some ⟨b, 0, none⟩) := kn.inn 29 rfl rfl
          exact good_of (v := .pointer (some ⟨b, 195, none⟩)) rfl (by simp only [execOp, e1]; rfl) hC trivial rfl
        refine steps_cons (step_go rfl fun ev w1 hC kn => ?_) ?_
        · have e1 : ev (.tmp 30) = .pointer (some ⟨b, 195, none⟩) := kn.inn 30 rfl rfl
          obtain ⟨nn, rfl⟩ := hC
          exact good_of (v := .slice (some ⟨b', o, none⟩) N c') rfl (by simp [execOp, e1, go_sem, cS]) ⟨nn, rfl⟩ trivial rfl
        refine steps_cons (step_go rfl fun ev w1 hC kn => ?_) ?_
        · have e1 : ev (.tmp 5) = .int .i64 k := kn.out 5 rfl rfl rfl
          exact good_of (v := .int .i64 k) rfl (by simp [execOp, e1, kn.con, go_sem]) hC trivial rfl
        refine steps_cons (step_go rfl fun ev w1 hC kn => ?_) ?_
        · have e1 : ev (.tmp 31) = .slice (some ⟨b', o, none⟩) N c' := kn.inn 31 rfl rfl
          have e2 : ev (.tmp 32) = .int .i64 k := kn.inn 32 rfl rfl
          exact good_of (v := .pointer (some ⟨b', o + k * 2, none⟩)) rfl (by simp [execOp, e1, e2, kn.con, go_sem, bl, bk, bj, bm]) hC trivial rfl
        refine steps_cons (step_go rfl fun ev w1 hC kn => ?_) ?_
        · have e1 : ev (.tmp 33) = .pointer (some ⟨b', o + k * 2, none⟩) := kn.inn 33 rfl rfl
          exact good_of (v := .pointer (some ⟨b', o + k * 2 + 1, none⟩)) rfl (by simp only [execOp, e1]; rfl) hC trivial rfl
        refine steps_cons (step_go rfl fun ev w1 hC kn => ?_) ?_
        · have e1 : ev (.tmp 34) = .pointer (some ⟨b', o + k * 2 + 1, none⟩) := kn.inn 34 rfl rfl
          obtain ⟨nn, rfl⟩ := hC
          exact good_of (v := .float .f32 l) rfl (by simp [execOp, e1, go_sem, mm1]) ⟨nn, rfl⟩ trivial rfl
        refine steps_cons (step_go rfl fun ev w1 hC kn => ?_) ?_
        · have e1 : ev (.tmp 27) = .float .f32 (G.hea c) := kn.inn 27 rfl rfl
          have e2 : ev (.tmp 35) = .float .f32 l := kn.inn 35 rfl rfl
          exact good_of (v := .bool (flt (G.hea c) l)) rfl (by simp [execOp, e1, e2, kn.con, go_sem, flt_eq]) hC trivial rfl
        exact steps_nil
      rintro xv w1 hxv hC
      have y36 : xv 36 = .bool (flt (G.hea c) l) := hxv 36 (by decide)
      obtain ⟨n, rfl⟩ := hC
      simp only [fill, dstsOf, List.filterMap_cons, List.filterMap_nil, List.foldl_cons, List.foldl_nil, List.set_cons_succ, List.set_cons_zero, y36]
      clear hxv y36
      cases hf : flt (G.hea c) l
      · have HF := Lib.hid (HW.out.trans hf)
        clear hf
        go_wp2_with fail
        go_roundw
        case rel => exact ⟨k + 1, q + n, by omega, by go_num, Lib.hid (all_step hq.out HF.out), by rw [← hW1]; simp⟩
        case measure => simp [intOf]; omega
      · have HF := Lib.hid (HW.out.trans hf)
        clear hf
        go_wp2_with fail
        go_ret
        obtain rfl := HR.out k (.inr ⟨k, rfl, hlt, HF.out, hq.out⟩)
        exact ⟨rfl, q + n, by rw [← hW1]; simp⟩
    · obtain rfl : k = N := by omega
      go_wp2_with fail
      go_ret
      obtain rfl := HR.out (-1) (.inl ⟨rfl, hq.out⟩)
      exact ⟨rfl, q, rfl⟩
end Go.Proofs.YtdnnjahdcabdmaaGreatDoor
