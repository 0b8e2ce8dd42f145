/- GreatestPercent, in the program and in the reference. -/
import Derived.Test.YtnfoemgiebplmaaKept
import Derived.Test.YtnfoemgiebplmaaScaled
namespace Go.Proofs.Ytnfoemgiebplmaa
open Go.ChangeShapes Go.WideShapes Go.ChangeAt Go.RowKit
set_option linter.unusedVariables false
set_option linter.unusedSimpArgs false
attribute [local irreducible] Calls

/-- The greatest percent below k with which permits are kept. -/
def downT (K : Int → Bool) : Nat → Int × Int
  | 0 => (0, 6)
  | k + 1 => if K k then (k, 0) else downT K k
def gpT (g : Gr) (n : Nat) (P : Nat → Wt) (m : Nat) (Q : Nat → Pm) : Int × Int := if validP g n P m Q then downT (fun pc => keptB g n P m fun i => scl pc (Q i)) 101 else (0, 1)
theorem validP_rates {g : Gr} {n m : Nat} {P : Nat → Wt} {Q : Nat → Pm} (h : validP g n P m Q = true) : ∀ i, i < m → 0 ≤ (Q i).rat ∧ (Q i).rat ≤ 400 := fun i hi => by
  have h1 := (validP_use h).2.2.2.2 i hi
  unfold badPG at h1
  simp only [Bool.or_eq_false_iff] at h1
  have h2 := rate_bad (Q i)
  rw [h1.2.1] at h2
  simpa using h2
theorem cellsIn_scl {g : Gr} {m : Nat} {Q : Nat → Pm} (h : cellsIn g m Q) (pc : Int) : cellsIn g m (fun i => scl pc (Q i)) := fun i hi => h i hi

set_option maxRecDepth 100000 in
set_option maxHeartbeats 400000 in
theorem greatestPercent_any (g : Gr) (v : Value) (r n m : Nat) (P : Nat → Wt) (Q : Nat → Pm) (hg : g.ok) (hP : ∀ i, i < n → (P i).ok) (hQ : ∀ i, i < m → (Q i).ok) (w : World) (hv : WSl w v n P) (hu : Own w r 117 3 (.slice (some ⟨r, 0, none⟩) m m) m (pls m Q)) :
    Calls Try.prog 47 #[.agg (ofc g v), .slice (some ⟨r, 0, none⟩) m m] w fun e w' => e = .returned (.tuple #[.int .i64 (gpT g n P m Q).1, .int .i64 (gpT g n P m Q).2]) ∧ Below w.heap.size w w' := by
  obtain ⟨T, hT⟩ : ∃ T, T = gpT g n P m Q := ⟨_, rfl⟩
  rw [← hT]
  unfold gpT at hT
  obtain ⟨R, V⟩ := T
  have lr := hu.lt
  go_enter Try.func47, Try.ntmps47
  go_upto_region 1 with (refine wpList_box_as rfl rfl rfl ?_)
  have hA := Blk.new w (ofc g v) 56
  have hbel := below1 w (.cells (ofc g v) 56)
  have hv := hv.below hbel
  have hu := hu.below hbel lr
  generalize w.alloc (.cells (ofc g v) 56) = W at *
  have lA := hA.lt
  have lr := hu.lt
  have hvp := validPermits_any g v _ n m P Q hg hP hQ W hv hu.psl
  cases hvd : validP g n P m Q <;> rw [hvd] at hvp hT
  · have HF : Hid (R = 0 ∧ V = 1) := Lib.hid (by
      simp only [if_false, Bool.false_eq_true] at hT
      injection hT with e1 e2
      exact ⟨e1, e2⟩)
    clear hT hvd
    go_wp2_with (first | (refine wpList_load_blk rfl rfl rfl row76 hA (ofc_size _ _) ?_) | (go_at_call 85; refine hvp.mono ?_; rintro e w2 ⟨rfl, hb2⟩))
    go_ret2
    exact ⟨by rw [HF.out.1, HF.out.2]; rfl, hbel.trans (hb2.mono hbel.size)⟩
  · obtain ⟨hvg, hvo, hci, hm6, _⟩ := validP_use hvd
    have HRT := Lib.hid (validP_rates hvd)
    have hke := fun pc u' w' (h1 : Blk w' w.heap.size (ofc g v) 56) h2 h3 => kept_any g w.heap.size v u' n m P (fun i => scl pc (Q i)) hg hvg (cellsIn_scl hci pc) (validO_watch hvo) w' h1.ogat ((h1.cell _).trans (ofc_last _ _)) h2 h3
    have HF : Hid (downT (fun pc => keptB g n P m fun i => scl pc (Q i)) 101 = (R, V)) := Lib.hid (by simpa using hT.symm)
    clear hT hvd
    go_upto_region 4 with (first | (refine wpList_load_blk rfl rfl rfl row76 hA (ofc_size _ _) ?_) | (go_at_call 85; refine hvp.mono ?_; rintro e w2 ⟨rfl, hb2⟩))
    have hA := hA.below hb2 lA
    have hv := hv.below hb2
    have hu := hu.below hb2 lr
    have hbel := hbel.trans (hb2.mono hbel.size)
    clear hb2 hvp
    go_loopw [6] (fun i wr => ∃ k : Nat, k ≤ 101 ∧ i = .int .i64 ((k : Int) - 1) ∧ Hid (downT (fun pc => keptB g n P m fun i => scl pc (Q i)) k = (R, V)) ∧ Blk wr w.heap.size (ofc g v) 56 ∧ WSl wr v n P ∧ Own wr r 117 3 (.slice (some ⟨r, 0, none⟩) m m) m (pls m Q) ∧ Below w.heap.size w wr) (fun i _ => (intOf i + 1).toNat)
    case atStart => exact ⟨101, by omega, rfl, HF, hA, hv, hu, hbel⟩
    case round =>
      clear hA hv hu hbel HF
      obtain ⟨k, hk, rfl, hun, hA, hv, hu, hbel⟩ := hrel
      cases k with
      | succ k =>
        have e0 : ((k + 1 : Nat) : Int) - 1 = k := by omega
        rw [e0]
        have lA := hA.lt
        have lr := hu.lt
        have bk : (0 : Int) ≤ k := by omega
        have bl : (k : Int) ≤ 100 := by omega
        have hsc := scaled_any m r Q k ⟨bk, bl⟩ HRT.out hm6 wr hu
        have hke := hke (k : Int)
        have hun' := hun.out
        unfold downT at hun'
        generalize hK : keptB g n P m (fun i => scl (k : Int) (Q i)) = K at *
        cases K
        · have HUN : Hid (downT (fun pc => keptB g n P m fun i => scl pc (Q i)) k = (R, V)) := Lib.hid (by simpa [hK] using hun')
          clear hun' hK hun
          go_wp2_with (first | (go_at_call 95; refine hsc.mono ?_; rintro e w2 ⟨vs, rs, rfl, hrs, hres, hb2⟩; have hA2 := hA.below hb2 lA; have hv2 := hv.below hb2; have hu2 := hu.below hb2 lr) | (go_at_call 93; refine (hke _ _ hA2 hv2 hres.psl).mono ?_; rintro e w3 ⟨rfl, hb3⟩))
          have hbel2 := hbel.trans (hb2.mono hbel.size)
          have lA2 := hA2.lt
          have lr2 := hu2.lt
          go_roundw
          case rel => exact ⟨k, by omega, by go_num, HUN, hA2.below hb3 lA2, hv2.below hb3, hu2.below hb3 lr2, hbel2.trans (hb3.mono hbel2.size)⟩
          case measure => (simp [intOf]; try omega)
        · have HF : Hid (R = k ∧ V = 0) := Lib.hid (by
            simp only [hK, if_true] at hun'
            injection hun' with e1 e2
            exact ⟨e1.symm, e2.symm⟩)
          clear hun' hK hun
          go_wp2_with (first | (go_at_call 95; refine hsc.mono ?_; rintro e w2 ⟨vs, rs, rfl, hrs, hres, hb2⟩; have hA2 := hA.below hb2 lA; have hv2 := hv.below hb2; have hu2 := hu.below hb2 lr) | (go_at_call 93; refine (hke _ _ hA2 hv2 hres.psl).mono ?_; rintro e w3 ⟨rfl, hb3⟩))
          have hbel2 := hbel.trans (hb2.mono hbel.size)
          go_ret2
          exact ⟨by rw [HF.out.1, HF.out.2]; rfl, hbel2.trans (hb3.mono hbel2.size)⟩
      | zero =>
        have HF : Hid (R = 0 ∧ V = 6) := Lib.hid (by
          have := hun.out
          unfold downT at this
          injection this with e1 e2
          exact ⟨e1.symm, e2.symm⟩)
        clear hun
        go_wp2_with fail
        go_ret2
        exact ⟨by rw [HF.out.1, HF.out.2]; rfl, hbel⟩

set_option maxRecDepth 100000 in
set_option maxHeartbeats 400000 in
theorem specGreatestPercent_any (g : Gr) (v : Value) (r n m : Nat) (P : Nat → Wt) (Q : Nat → Pm) (hg : g.ok) (hP : ∀ i, i < n → (P i).ok) (hQ : ∀ i, i < m → (Q i).ok) (w : World) (hv : WSl w v n P) (hu : Own w r 117 3 (.slice (some ⟨r, 0, none⟩) m m) m (pls m Q)) :
    Calls Try.prog 46 #[.agg (ofc g v), .slice (some ⟨r, 0, none⟩) m m] w fun e w' => e = .returned (.tuple #[.int .i64 (gpT g n P m Q).1, .int .i64 (gpT g n P m Q).2]) ∧ Below w.heap.size w w' := by
  obtain ⟨T, hT⟩ : ∃ T, T = gpT g n P m Q := ⟨_, rfl⟩
  rw [← hT]
  unfold gpT at hT
  obtain ⟨R, V⟩ := T
  have lr := hu.lt
  go_enter Try.func46, Try.ntmps46
  go_upto_region 1 with (refine wpList_box_as rfl rfl rfl ?_)
  have hA := Blk.new w (ofc g v) 56
  have hbel := below1 w (.cells (ofc g v) 56)
  have hv := hv.below hbel
  have hu := hu.below hbel lr
  generalize w.alloc (.cells (ofc g v) 56) = W at *
  have lA := hA.lt
  have lr := hu.lt
  have hvp := l07Fits_any g v _ n m P Q w.heap.size _ hg hP hQ W hA hv hu.psl
  cases hvd : validP g n P m Q <;> rw [hvd] at hvp hT
  · have HF : Hid (R = 0 ∧ V = 1) := Lib.hid (by
      simp only [if_false, Bool.false_eq_true] at hT
      injection hT with e1 e2
      exact ⟨e1, e2⟩)
    clear hT hvd
    go_wp2_with (go_at_call 81; refine hvp.mono ?_; rintro e w2 ⟨rfl, hb2⟩)
    go_ret2
    exact ⟨by rw [HF.out.1, HF.out.2]; rfl, hbel.trans (hb2.mono hbel.size)⟩
  · obtain ⟨hvg, hvo, hci, hm6, _⟩ := validP_use hvd
    have HRT := Lib.hid (validP_rates hvd)
    have hke := fun pc u' w' (h1 : Blk w' w.heap.size (ofc g v) 56) h2 h3 => l07Kept_any g w.heap.size v u' n m P (fun i => scl pc (Q i)) hg hvg (cellsIn_scl hci pc) (validO_watch hvo) w' h1.ogat ((h1.cell _).trans (ofc_last _ _)) h2 h3
    have HF : Hid (downT (fun pc => keptB g n P m fun i => scl pc (Q i)) 101 = (R, V)) := Lib.hid (by simpa using hT.symm)
    clear hT hvd
    go_upto_region 4 with (go_at_call 81; refine hvp.mono ?_; rintro e w2 ⟨rfl, hb2⟩)
    have hA := hA.below hb2 lA
    have hv := hv.below hb2
    have hu := hu.below hb2 lr
    have hbel := hbel.trans (hb2.mono hbel.size)
    clear hb2 hvp
    go_loopw [6] (fun i wr => ∃ k : Nat, k ≤ 101 ∧ i = .int .i64 ((k : Int) - 1) ∧ Hid (downT (fun pc => keptB g n P m fun i => scl pc (Q i)) k = (R, V)) ∧ Blk wr w.heap.size (ofc g v) 56 ∧ WSl wr v n P ∧ Own wr r 117 3 (.slice (some ⟨r, 0, none⟩) m m) m (pls m Q) ∧ Below w.heap.size w wr) (fun i _ => (intOf i + 1).toNat)
    case atStart => exact ⟨101, by omega, rfl, HF, hA, hv, hu, hbel⟩
    case round =>
      clear hA hv hu hbel HF
      obtain ⟨k, hk, rfl, hun, hA, hv, hu, hbel⟩ := hrel
      cases k with
      | succ k =>
        have e0 : ((k + 1 : Nat) : Int) - 1 = k := by omega
        rw [e0]
        have lA := hA.lt
        have lr := hu.lt
        have bk : (0 : Int) ≤ k := by omega
        have bl : (k : Int) ≤ 100 := by omega
        have hsc := specScaled_any m r Q k ⟨bk, bl⟩ HRT.out hm6 wr hu
        have hke := hke (k : Int)
        have hun' := hun.out
        unfold downT at hun'
        generalize hK : keptB g n P m (fun i => scl (k : Int) (Q i)) = K at *
        cases K
        · have HUN : Hid (downT (fun pc => keptB g n P m fun i => scl pc (Q i)) k = (R, V)) := Lib.hid (by simpa [hK] using hun')
          clear hun' hK hun
          go_wp2_with (first | (go_at_call 94; refine hsc.mono ?_; rintro e w2 ⟨vs, rs, rfl, hrs, hres, hb2⟩; have hA2 := hA.below hb2 lA; have hv2 := hv.below hb2; have hu2 := hu.below hb2 lr) | (go_at_call 92; refine (hke _ _ hA2 hv2 hres.psl).mono ?_; rintro e w3 ⟨rfl, hb3⟩))
          have hbel2 := hbel.trans (hb2.mono hbel.size)
          have lA2 := hA2.lt
          have lr2 := hu2.lt
          go_roundw
          case rel => exact ⟨k, by omega, by go_num, HUN, hA2.below hb3 lA2, hv2.below hb3, hu2.below hb3 lr2, hbel2.trans (hb3.mono hbel2.size)⟩
          case measure => (simp [intOf]; try omega)
        · have HF : Hid (R = k ∧ V = 0) := Lib.hid (by
            simp only [hK, if_true] at hun'
            injection hun' with e1 e2
            exact ⟨e1.symm, e2.symm⟩)
          clear hun' hK hun
          go_wp2_with (first | (go_at_call 94; refine hsc.mono ?_; rintro e w2 ⟨vs, rs, rfl, hrs, hres, hb2⟩; have hA2 := hA.below hb2 lA; have hv2 := hv.below hb2; have hu2 := hu.below hb2 lr) | (go_at_call 92; refine (hke _ _ hA2 hv2 hres.psl).mono ?_; rintro e w3 ⟨rfl, hb3⟩))
          have hbel2 := hbel.trans (hb2.mono hbel.size)
          go_ret2
          exact ⟨by rw [HF.out.1, HF.out.2]; rfl, hbel2.trans (hb3.mono hbel2.size)⟩
      | zero =>
        have HF : Hid (R = 0 ∧ V = 6) := Lib.hid (by
          have := hun.out
          unfold downT at this
          injection this with e1 e2
          exact ⟨e1.symm, e2.symm⟩)
        clear hun
        go_wp2_with fail
        go_ret2
        exact ⟨by rw [HF.out.1, HF.out.2]; rfl, hbel⟩
end Go.Proofs.Ytnfoemgiebplmaa
