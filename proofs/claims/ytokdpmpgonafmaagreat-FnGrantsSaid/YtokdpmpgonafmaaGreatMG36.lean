import Derived.Test.YtokdpmpgonafmaaGreatMG21
import Derived.Test.YtokdpmpgonafmaaGreatMG22
/- GreatestPercent, in the program and in the reference. -/
namespace Go.Proofs.YtokdpmpgonafmaaGreat
open Go.ChangeShapes Go.WideShapes Go.ChangeAt Go.RowKit
set_option linter.unusedVariables false
set_option linter.unusedSimpArgs false
attribute [local irreducible] Calls

/-- The greatest percent below k with which permits are kept. -/
def downT (K : Int → Bool) : Nat → Int × Int
  | 0 => (0, 6)
  | k + 1 => if K k then (k, 0) else downT K k
def gpT (g : Gr) (n : Nat) (P : Nat → Wt) (m : Nat) (Q : Nat → Pm) : Int × Int := if validP g n P m Q then downT (fun pc => keptB g n P m fun i => scl pc (Q i)) 101 else (0, 1)
theorem validP_rates {g : Gr} {n m : Nat} {P : Nat → Wt} {Q : Nat → Pm} (h : validP g n P m Q = true) : ∀ i, i < m → 0 ≤ (Q i).rat ∧ (Q i).rat ≤ 400 := fun i hi => by
  have h1 := (validP_use h).2.2.2.2 i hi
  unfold badPG at h1
  simp only [Bool.or_eq_false_iff] at h1
  have h2 := rate_bad (Q i)
  rw [h1.2.1] at h2
  simpa using h2
theorem cellsIn_scl {g : Gr} {m : Nat} {Q : Nat → Pm} (h : cellsIn g m Q) (pc : Int) : cellsIn g m (fun i => scl pc (Q i)) := fun i hi => h i hi

set_option maxRecDepth 100000 in
set_option maxHeartbeats 400000 in
theorem greatestPercent_any (g : Gr) (v : Value) (r n m : Nat) (P : Nat → Wt) (Q : Nat → Pm) (hg : g.ok) (hP : ∀ i, i < n → (P i).ok) (hQ : ∀ i, i < m → (Q i).ok) (w : World) (hv : WSl w v n P) (hu : Own w r 64 3 (.slice (some ⟨r, 0, none⟩) m m) m (pls m Q)) :
    Calls Tryz.prog 29 #[.agg (ofc g v), .slice (some ⟨r, 0, none⟩) m m] w fun e w' => e = .returned (.tuple #[.int .i64 (gpT g n P m Q).1, .int .i64 (gpT g n P m Q).2]) ∧ Below w.heap.size w w' := by
  obtain ⟨T, hT⟩ : ∃ T, T = gpT g n P m Q := ⟨_, rfl⟩
  rw [← hT]
  unfold gpT at hT
  obtain ⟨R, V⟩ := T
  have lr := hu.lt
  go_enter Tryz.func29, Tryz.ntmps29
  go_upto_region 1 with (refine wpList_box_as rfl rfl rfl ?_)
  have hA := Blk.new w (ofc g v) 42
  have hbel := below1 w (.cells (ofc g v) 42)
  have hv := hv.below hbel
  have hu := hu.below hbel lr
  generalize w.alloc (.cells (ofc g v) 42) = W at *
  have lA := hA.lt
  have lr := hu.lt
  have hvp := validPermits_any g v _ n m P Q hg hP hQ W hv hu.psl
  cases hvd : validP g n P m Q <;> rw [hvd] at hvp hT
  · have HF : Hid (R = 0 ∧ V = 1) := Lib.hid (by
      simp only [if_false, Bool.false_eq_true] at hT
      injection hT with e1 e2
      exact ⟨e1, e2⟩)
    clear hT hvd
    go_wp2_with (first | (refine wpList_load_blk rfl rfl rfl row76 hA (ofc_size _ _) ?_) | (go_at_call 50; refine hvp.mono ?_; rintro e w2 ⟨rfl, hb2⟩))
    go_ret2
    exact ⟨by rw [HF.out.1, HF.out.2]; rfl, hbel.trans (hb2.mono hbel.size)⟩
  · obtain ⟨hvg, hvo, hci, hm6, _⟩ := validP_use hvd
    have HRT := Lib.hid (validP_rates hvd)
    have hke := fun pc u' w' (h1 : Blk w' w.heap.size (ofc g v) 42) h2 h3 => kept_any g w.heap.size v u' n m P (fun i => scl pc (Q i)) hg hvg (cellsIn_scl hci pc) (validO_watch hvo) w' h1.ogat ((h1.cell _).trans (ofc_last _ _)) h2 h3
    have HF : Hid (downT (fun pc => keptB g n P m fun i => scl pc (Q i)) 101 = (R, V)) := Lib.hid (by simpa using hT.symm)
    clear hT hvd
    go_upto_region 4 with (first | (refine wpList_load_blk rfl rfl rfl row76 hA (ofc_size _ _) ?_) | (go_at_call 50; refine hvp.mono ?_; rintro e w2 ⟨rfl, hb2⟩))
    have hA := hA.below hb2 lA
    have hv := hv.below hb2
    have hu := hu.below hb2 lr
    have hbel := hbel.trans (hb2.mono hbel.size)
    clear hb2 hvp
    go_loopw [6] (fun i wr => ∃ k : Nat, k ≤ 101 ∧ i = .int .i64 ((k : Int) - 1) ∧ Hid (downT (fun pc => keptB g n P m fun i => scl pc (Q i)) k = (R, V)) ∧ Blk wr w.heap.size (ofc g v) 42 ∧ WSl wr v n P ∧ Own wr r 64 3 (.slice (some ⟨r, 0, none⟩) m m) m (pls m Q) ∧ Below w.heap.size w wr) (fun i _ => (intOf i + 1).toNat)
    case atStart => exact ⟨101, by omega, rfl, HF, hA, hv, hu, hbel⟩
    case round =>
      clear hA hv hu hbel HF
      obtain ⟨k, hk, rfl, hun, hA, hv, hu, hbel⟩ := hrel
      cases k with
      | succ k =>
        have e0 : ((k + 1 : Nat) : Int) - 1 = k := by omega
        rw [e0]
        have lA := hA.lt
        have lr := hu.lt
        have bk : (0 : Int) ≤ k := by omega
        have bl : (k : Int) ≤ 100 := by omega
        have hsc := scaled_any m r Q k ⟨bk, bl⟩ HRT.out hm6 wr hu
        have hke := hke (k : Int)
        have hun' := hun.out
        unfold downT at hun'
        generalize hK : keptB g n P m (fun i => scl (k : Int) (Q i)) = K at *
        cases K
        · have HUN : Hid (downT (fun pc => keptB g n P m fun i => scl pc (Q i)) k = (R, V)) := Lib.hid (by simpa [hK] using hun')
          clear hun' hK hun
          go_wp2_with (first | (go_at_call 56; refine hsc.mono ?_; rintro e w2 ⟨vs, rs, rfl, hrs, hres, hb2⟩; have hA2 := hA.below hb2 lA; have hv2 := hv.below hb2; have hu2 := hu.below hb2 lr) | (go_at_call 54; refine (hke _ _ hA2 hv2 hres.psl).mono ?_; rintro e w3 ⟨rfl, hb3⟩))
          have hbel2 := hbel.trans (hb2.mono hbel.size)
          have lA2 := hA2.lt
          have lr2 := hu2.lt
          go_roundw
          case rel => exact ⟨k, by omega, by go_num, HUN, hA2.below hb3 lA2, hv2.below hb3, hu2.below hb3 lr2, hbel2.trans (hb3.mono hbel2.size)⟩
          case measure => (simp [intOf]; try omega)
        · have HF : Hid (R = k ∧ V = 0) := Lib.hid (by
            simp only [hK, if_true] at hun'
            injection hun' with e1 e2
            exact ⟨e1.symm, e2.symm⟩)
          clear hun' hK hun
          go_wp2_with (first | (go_at_call 56; refine hsc.mono ?_; rintro e w2 ⟨vs, rs, rfl, hrs, hres, hb2⟩; have hA2 := hA.below hb2 lA; have hv2 := hv.below hb2; have hu2 := hu.below hb2 lr) | (go_at_call 54; refine (hke _ _ hA2 hv2 hres.psl).mono ?_; rintro e w3 ⟨rfl, hb3⟩))
          have hbel2 := hbel.trans (hb2.mono hbel.size)
          go_ret2
          exact ⟨by rw [HF.out.1, HF.out.2]; rfl, hbel2.trans (hb3.mono hbel2.size)⟩
      | zero =>
        have HF : Hid (R = 0 ∧ V = 6) := Lib.hid (by
          have := hun.out
          unfold downT at this
          injection this with e1 e2
          exact ⟨e1.symm, e2.symm⟩)
        clear hun
        go_wp2_with fail
        go_ret2
        exact ⟨by rw [HF.out.1, HF.out.2]; rfl, hbel⟩

set_option maxRecDepth 100000 in
set_option maxHeartbeats 400000 in
theorem specGreatestPercent_any (g : Gr) (v : Value) (r n m : Nat) (P : Nat → Wt) (Q : Nat → Pm) (hg : g.ok) (hP : ∀ i, i < n → (P i).ok) (hQ : ∀ i, i < m → (Q i).ok) (w : World) (hv : WSl w v n P) (hu : Own w r 64 3 (.slice (some ⟨r, 0, none⟩) m m) m (pls m Q)) :
    Calls Tryz.prog 30 #[.agg (ofc g v), .slice (some ⟨r, 0, none⟩) m m] w fun e w' => e = .returned (.tuple #[.int .i64 (gpT g n P m Q).1, .int .i64 (gpT g n P m Q).2]) ∧ Below w.heap.size w w' := by
  obtain ⟨T, hT⟩ : ∃ T, T = gpT g n P m Q := ⟨_, rfl⟩
  rw [← hT]
  unfold gpT at hT
  obtain ⟨R, V⟩ := T
  have lr := hu.lt
  go_enter Tryz.func30, Tryz.ntmps30
  go_upto_region 1 with (refine wpList_box_as rfl rfl rfl ?_)
  have hA := Blk.new w (ofc g v) 42
  have hbel := below1 w (.cells (ofc g v) 42)
  have hv := hv.below hbel
  have hu := hu.below hbel lr
  generalize w.alloc (.cells (ofc g v) 42) = W at *
  have lA := hA.lt
  have lr := hu.lt
  have hvp := l07Fits_any g v _ n m P Q w.heap.size _ hg hP hQ W hA hv hu.psl
  cases hvd : validP g n P m Q <;> rw [hvd] at hvp hT
  · have HF : Hid (R = 0 ∧ V = 1) := Lib.hid (by
      simp only [if_false, Bool.false_eq_true] at hT
      injection hT with e1 e2
      exact ⟨e1, e2⟩)
    clear hT hvd
    go_wp2_with (go_at_call 33; refine hvp.mono ?_; rintro e w2 ⟨rfl, hb2⟩)
    go_ret2
    exact ⟨by rw [HF.out.1, HF.out.2]; rfl, hbel.trans (hb2.mono hbel.size)⟩
  · obtain ⟨hvg, hvo, hci, hm6, _⟩ := validP_use hvd
    have HRT := Lib.hid (validP_rates hvd)
    have hke := fun pc u' w' (h1 : Blk w' w.heap.size (ofc g v) 42) h2 h3 => l07Kept_any g w.heap.size v u' n m P (fun i => scl pc (Q i)) hg hvg (cellsIn_scl hci pc) (validO_watch hvo) w' h1.ogat ((h1.cell _).trans (ofc_last _ _)) h2 h3
    have HF : Hid (downT (fun pc => keptB g n P m fun i => scl pc (Q i)) 101 = (R, V)) := Lib.hid (by simpa using hT.symm)
    clear hT hvd
    go_upto_region 4 with (go_at_call 33; refine hvp.mono ?_; rintro e w2 ⟨rfl, hb2⟩)
    have hA := hA.below hb2 lA
    have hv := hv.below hb2
    have hu := hu.below hb2 lr
    have hbel := hbel.trans (hb2.mono hbel.size)
    clear hb2 hvp
    go_loopw [6] (fun i wr => ∃ k : Nat, k ≤ 101 ∧ i = .int .i64 ((k : Int) - 1) ∧ Hid (downT (fun pc => keptB g n P m fun i => scl pc (Q i)) k = (R, V)) ∧ Blk wr w.heap.size (ofc g v) 42 ∧ WSl wr v n P ∧ Own wr r 64 3 (.slice (some ⟨r, 0, none⟩) m m) m (pls m Q) ∧ Below w.heap.size w wr) (fun i _ => (intOf i + 1).toNat)
    case atStart => exact ⟨101, by omega, rfl, HF, hA, hv, hu, hbel⟩
    case round =>
      clear hA hv hu hbel HF
      obtain ⟨k, hk, rfl, hun, hA, hv, hu, hbel⟩ := hrel
      cases k with
      | succ k =>
        have e0 : ((k + 1 : Nat) : Int) - 1 = k := by omega
        rw [e0]
        have lA := hA.lt
        have lr := hu.lt
        have bk : (0 : Int) ≤ k := by omega
        have bl : (k : Int) ≤ 100 := by omega
        have hsc := specScaled_any m r Q k ⟨bk, bl⟩ HRT.out hm6 wr hu
        have hke := hke (k : Int)
        have hun' := hun.out
        unfold downT at hun'
        generalize hK : keptB g n P m (fun i => scl (k : Int) (Q i)) = K at *
        cases K
        · have HUN : Hid (downT (fun pc => keptB g n P m fun i => scl pc (Q i)) k = (R, V)) := Lib.hid (by simpa [hK] using hun')
          clear hun' hK hun
          go_wp2_with (first | (go_at_call 58; refine hsc.mono ?_; rintro e w2 ⟨vs, rs, rfl, hrs, hres, hb2⟩; have hA2 := hA.below hb2 lA; have hv2 := hv.below hb2; have hu2 := hu.below hb2 lr) | (go_at_call 57; refine (hke _ _ hA2 hv2 hres.psl).mono ?_; rintro e w3 ⟨rfl, hb3⟩))
          have hbel2 := hbel.trans (hb2.mono hbel.size)
          have lA2 := hA2.lt
          have lr2 := hu2.lt
          go_roundw
          case rel => exact ⟨k, by omega, by go_num, HUN, hA2.below hb3 lA2, hv2.below hb3, hu2.below hb3 lr2, hbel2.trans (hb3.mono hbel2.size)⟩
          case measure => (simp [intOf]; try omega)
        · have HF : Hid (R = k ∧ V = 0) := Lib.hid (by
            simp only [hK, if_true] at hun'
            injection hun' with e1 e2
            exact ⟨e1.symm, e2.symm⟩)
          clear hun' hK hun
          go_wp2_with (first | (go_at_call 58; refine hsc.mono ?_; rintro e w2 ⟨vs, rs, rfl, hrs, hres, hb2⟩; have hA2 := hA.below hb2 lA; have hv2 := hv.below hb2; have hu2 := hu.below hb2 lr) | (go_at_call 57; refine (hke _ _ hA2 hv2 hres.psl).mono ?_; rintro e w3 ⟨rfl, hb3⟩))
          have hbel2 := hbel.trans (hb2.mono hbel.size)
          go_ret2
          exact ⟨by rw [HF.out.1, HF.out.2]; rfl, hbel2.trans (hb3.mono hbel2.size)⟩
      | zero =>
        have HF : Hid (R = 0 ∧ V = 6) := Lib.hid (by
          have := hun.out
          unfold downT at this
          injection this with e1 e2
          exact ⟨e1.symm, e2.symm⟩)
        clear hun
        go_wp2_with fail
        go_ret2
        exact ⟨by rw [HF.out.1, HF.out.2]; rfl, hbel⟩
end Go.Proofs.YtokdpmpgonafmaaGreat
/- Permits scaled, at slices of any capacity. -/
namespace Go.Proofs.YtokdpmpgonafmaaGreat
open Go.ChangeShapes Go.WideShapes Go.ChangeAt Go.RowKit
set_option linter.unusedVariables false
set_option linter.unusedSimpArgs false
/-- 'append(s, x..)', x's cells being the first of a block. -/
theorem wpList_appO {P : Program} {w : World} {ops : Array Oper} {rest : List Oper} {o : Oper} {a : Act} {Q : Exit → Act → World → Prop} {t e e' : TypeId} {s bytes : Nat} {sl x : Operand} {v : Value} {g n b m c : Nat} {xs news : List Value} (hE : ElemTy P t e s bytes) (hgd : o.guard = none) (ho : o.op = .call { callee := .builtin .append, args := #[sl, x], argTypes := #[t, t] }) (hv : a.eval sl = v) (hx : a.eval x = .slice (some ⟨b, 0, none⟩) m c)
    (hs : 0 < s) (hown : Own w g e s v n xs) (hb : Own w b e' s (.slice (some ⟨b, 0, none⟩) m c) m news) (h1 : ∀ u ∈ news, u.oneCell' = true) (h63 : n + m ≤ maxLen) (hbytes : (n + m) * bytes ≤ 140737488355328)
    (h : ∀ v' w' g', Own w' g' e s v' (n + m) (xs ++ news) → w.grownBy w' (some g) → (g' = g ∨ g' = w.heap.size) → wpList P ops Q rest (a.put o.dst v') w') : wpList P ops Q (o :: rest) a w :=
  wpList_plain hgd fun K hK => by
    obtain ⟨v', w', g', hr, h2, h3, h4⟩ := run_app (P := P) (ty := o.type) hE hs hown (ad := ⟨b, 0, none⟩) (m := m) (c := c) (news := news) hb.1 (fun j u hu => by
      have hadd : (⟨b, 0, none⟩ : Addr).add j = ⟨b, j, none⟩ := by unfold Addr.add; split <;> simp_all
      have hj : j < m * s := by
        rcases Nat.lt_or_ge j (m * s) with h' | h'
        · exact h'
        · rw [List.getElem?_eq_none (by rw [hb.1]; exact h')] at hu; cases hu
      rw [hadd, hb.cell j hj, hu]) h1 h63 hbytes
    unfold Oper.wp execOp
    simp only [ho, resolve, invoke, builtin, Sem.run_bind, Sem.run_pure, Result.andThen_ok, List.map_toArray, List.map_cons, List.map_nil, hv, hx, hr]
    exact hK _ _ (h v' w' g' h2 h3 h4)
attribute [local irreducible] Calls

set_option maxRecDepth 100000 in
set_option maxHeartbeats 400000 in
theorem specScaled_anyC (n g c0 : Nat) (P : Nat → Pm) (pc : Int) (hpc : 0 ≤ pc ∧ pc ≤ 100) (hP : ∀ i, i < n → 0 ≤ (P i).rat ∧ (P i).rat ≤ 400) (hn : n ≤ 6) (w : World) (hv : Own w g 64 3 (.slice (some ⟨g, 0, none⟩) n c0) n (pls n P)) :
    Calls Tryz.prog 58 #[.slice (some ⟨g, 0, none⟩) n c0, .int .i64 pc] w fun e w' => ∃ v r, e = .returned v ∧ w.heap.size ≤ r ∧ Res w' r v n (fun i => scl pc (P i)) ∧ Below w.heap.size w w' := by
  have HP := Lib.hid hP
  clear hP
  go_enter Tryz.func58, Tryz.ntmps58
  have hF := hv.alloc (.cells #[] 64)
  have hE : Own (w.alloc (.cells #[] 64)) w.heap.size 64 3 (.slice (some ⟨w.heap.size, 0, none⟩) 0 0) 0 [] := own_blk (Blk.new _ _ _) rfl (by decide) rfl
  have hbel := below1 w (.cells #[] 64)
  go_wp2_with (at_builtin; refine wpList_appO elPm rfl rfl rfl rfl (by decide) hE hF ?_ ?_ ?_ ?_; (· exact pls_one n P); (· unfold maxLen; omega); (· omega); intro v1 w1 g1 hown hgr hg1)
  simp only [Nat.zero_add, List.nil_append] at hown
  have hb1 : Below w.heap.size w w1 := hbel.grown hgr (by simp) (fun k hk => by injection hk with hk; omega)
  have hg1' : w.heap.size ≤ g1 := by simp at hg1; omega
  clear hF hE hbel hgr hg1 hv
  obtain ⟨cap, rfl, hc1, hc2⟩ := hown.form
  unfold maxLen at hc2
  go_loopw [6] (fun i wr => ∃ k : Nat, k ≤ n ∧ i = .int .i64 k ∧ Own wr g1 64 3 (.slice (some ⟨g1, 0, none⟩) n cap) n (pls n (scaledTo pc P k)) ∧ Below w.heap.size w wr) (fun i _ => n - (intOf i).toNat)
  case atStart => exact ⟨0, by omega, rfl, by rw [show scaledTo pc P 0 = P from funext fun i => by simp [scaledTo]]; exact hown, hb1⟩
  case round =>
    clear hown hb1
    obtain ⟨k, hk, rfl, hown, hbel⟩ := hrel
    by_cases hlt : k < n
    · have bk : (0 : Int) ≤ k := by omega
      have bl : (k : Int) < n := by omega
      have hmk : scaledTo pc P k k = P k := by simp [scaledTo]
      have e2 : wr.cell? ⟨g1, k * 3 + 2, none⟩ = some (.int .i16 (P k).rat) := by rw [hown.cell _ (by omega), pls_get n _ k 2 hlt (by omega), hmk, Pm.get2]
      have f2 := hown.free (k * 3 + 2)
      have ⟨r1, r2⟩ := HP.out k hlt
      have m1 : 0 ≤ (P k).rat * pc := Int.mul_nonneg r1 hpc.1
      have m2 : (P k).rat * pc ≤ 400 * 100 := Int.mul_le_mul r2 hpc.2 hpc.1 (by decide)
      go_wp2_with fail
      go_roundw
      case rel =>
        refine ⟨k + 1, by omega, by go_num, ?_, hbel.setCell (p := ⟨g1, k * 3 + 2, none⟩) hg1' _⟩
        have hset := hown.setCell (k * 3 + 2) (.int .i16 ((P k).rat * pc / 100))
        rw [pls_set n _ k 2 _ (scl pc (P k)) hlt (by omega) (by rw [hmk, Pm.cells_eq, Pm.cells_eq]; rfl)] at hset
        rw [pls_congr (P' := scaledTo pc P (k + 1)) (fun i hi => by
          by_cases hik : i = k
          · subst hik; rw [updP_same]; simp [scaledTo]
          · rw [updP_other _ _ _ _ hik]; simp only [scaledTo, show i < k + 1 ↔ i < k by omega])] at hset
        exact hset
      case measure => simp [intOf]; omega
    · obtain rfl : k = n := by omega
      go_wp2_with fail
      go_ret
      exact ⟨_, g1, rfl, hg1', .inr (by rw [pls_congr (P' := scaledTo pc P k) (fun i hi => by simp [scaledTo, hi])]; exact hown), hbel⟩

set_option maxRecDepth 100000 in
set_option maxHeartbeats 400000 in
theorem clone_anyC (n g c0 : Nat) (P : Nat → Pm) (hn : n ≤ 1048576) (w : World) (hv : Own w g 64 3 (.slice (some ⟨g, 0, none⟩) n c0) n (pls n P)) :
    Calls Tryz.prog 80 #[.slice (some ⟨g, 0, none⟩) n c0] w fun e w' => ∃ cap r, e = .returned (.slice (some ⟨r, 0, none⟩) n cap) ∧ w.heap.size ≤ r ∧ Own w' r 64 3 (.slice (some ⟨r, 0, none⟩) n cap) n (pls n P) ∧ Below w.heap.size w w' := by
  have he : ∀ w : World, (binOp .eql 44 (.slice (some ⟨g, 0, none⟩) n c0) (.slice none 0 0)).run Tryz.prog w = .ok (.bool false) w := fun _ => rfl
  go_enter Tryz.func80, Tryz.ntmps80
  have hF := hv.alloc (.cells #[] 64)
  have hE : Own (w.alloc (.cells #[] 64)) w.heap.size 64 3 (.slice (some ⟨w.heap.size, 0, none⟩) 0 0) 0 [] := own_blk (Blk.new _ _ _) rfl (by decide) rfl
  have hbel := below1 w (.cells #[] 64)
  go_wp2_with (at_builtin; refine wpList_appO elPm rfl rfl rfl rfl (by decide) hE hF ?_ ?_ ?_ ?_; (· exact pls_one n P); (· unfold maxLen; omega); (· omega); intro v1 w1 g1 hown hgr hg1)
  simp only [Nat.zero_add, List.nil_append] at hown
  obtain ⟨cap, rfl, hc1, hc2⟩ := hown.form
  go_ret
  exact ⟨cap, g1, rfl, by simp at hg1; omega, hown, hbel.grown hgr (by simp) (fun k hk => by injection hk with hk; omega)⟩

set_option maxRecDepth 100000 in
set_option maxHeartbeats 400000 in
theorem scaled_anyC (n g c0 : Nat) (P : Nat → Pm) (pc : Int) (hpc : 0 ≤ pc ∧ pc ≤ 100) (hP : ∀ i, i < n → 0 ≤ (P i).rat ∧ (P i).rat ≤ 400) (hn : n ≤ 6) (w : World) (hv : Own w g 64 3 (.slice (some ⟨g, 0, none⟩) n c0) n (pls n P)) :
    Calls Tryz.prog 56 #[.slice (some ⟨g, 0, none⟩) n c0, .int .i64 pc] w fun e w' => ∃ v r, e = .returned v ∧ w.heap.size ≤ r ∧ Res w' r v n (fun i => scl pc (P i)) ∧ Below w.heap.size w w' := by
  have HP := Lib.hid hP
  clear hP
  have hcl := clone_anyC n g c0 P (by omega) w hv
  go_enter Tryz.func56, Tryz.ntmps56
  go_wp2_with (go_at_call 80; refine hcl.mono ?_; rintro e w1 ⟨cap, g1, rfl, hg1', hown, hb1⟩)
  clear hcl hv
  obtain ⟨cap', hcap, hc1, hc2⟩ := hown.form
  have hcc : cap = cap' := by injection hcap
  subst hcc
  unfold maxLen at hc2
  go_loopw [11] (fun i wr => ∃ k : Nat, k ≤ n ∧ i = .int .i64 k ∧ Own wr g1 64 3 (.slice (some ⟨g1, 0, none⟩) n cap) n (pls n (scaledTo pc P k)) ∧ Below w.heap.size w wr) (fun i _ => n - (intOf i).toNat)
  case atStart => exact ⟨0, by omega, rfl, by rw [show scaledTo pc P 0 = P from funext fun i => by simp [scaledTo]]; exact hown, hb1⟩
  case round =>
    clear hown hb1
    obtain ⟨k, hk, rfl, hown, hbel⟩ := hrel
    by_cases hlt : k < n
    · have bk : (0 : Int) ≤ k := by omega
      have bl : (k : Int) < n := by omega
      have hmk : scaledTo pc P k k = P k := by simp [scaledTo]
      have e2 : wr.cell? ⟨g1, k * 3 + 2, none⟩ = some (.int .i16 (P k).rat) := by rw [hown.cell _ (by omega), pls_get n _ k 2 hlt (by omega), hmk, Pm.get2]
      have f2 := hown.free (k * 3 + 2)
      have ⟨r1, r2⟩ := HP.out k hlt
      have m1 : 0 ≤ (P k).rat * pc := Int.mul_nonneg r1 hpc.1
      have m2 : (P k).rat * pc ≤ 400 * 100 := Int.mul_le_mul r2 hpc.2 hpc.1 (by decide)
      go_wp2_with fail
      go_roundw
      case rel =>
        refine ⟨k + 1, by omega, by go_num, ?_, hbel.setCell (p := ⟨g1, k * 3 + 2, none⟩) hg1' _⟩
        have hset := hown.setCell (k * 3 + 2) (.int .i16 ((P k).rat * pc / 100))
        rw [pls_set n _ k 2 _ (scl pc (P k)) hlt (by omega) (by rw [hmk, Pm.cells_eq, Pm.cells_eq]; rfl)] at hset
        rw [pls_congr (P' := scaledTo pc P (k + 1)) (fun i hi => by
          by_cases hik : i = k
          · subst hik; rw [updP_same]; simp [scaledTo]
          · rw [updP_other _ _ _ _ hik]; simp only [scaledTo, show i < k + 1 ↔ i < k by omega])] at hset
        exact hset
      case measure => simp [intOf]; omega
    · obtain rfl : k = n := by omega
      go_wp2_with fail
      go_ret
      exact ⟨_, g1, rfl, hg1', .inr (by rw [pls_congr (P' := scaledTo pc P k) (fun i hi => by simp [scaledTo, hi])]; exact hown), hbel⟩

set_option maxRecDepth 100000 in
set_option maxHeartbeats 400000 in
theorem scaledPermits_anyC (n g c0 : Nat) (P : Nat → Pm) (hP : ∀ i, i < n → (P i).ok) (pc : Int) (w : World) (hv : Own w g 64 3 (.slice (some ⟨g, 0, none⟩) n c0) n (pls n P)) :
    Calls Tryz.prog 31 #[.slice (some ⟨g, 0, none⟩) n c0, .int .i64 pc] w fun e w' => ∃ v, e = .returned (.tuple #[v, .int .i64 (scC n P pc)]) ∧ ∃ r, w.heap.size ≤ r ∧ Res w' r v (scN n P pc) (fun i => scl pc (P i)) ∧ Below w.heap.size w w' := by
  have hr := ratesOk_any n P hP _ w hv.psl
  have hlt := hv.lt
  unfold scN scC
  cases hR : ratesAre n P
  · rw [hR] at hr
    go_enter Tryz.func31, Tryz.ntmps31
    go_wp2_with (go_at_call 59; refine hr.mono ?_; rintro e w1 ⟨rfl, hb1⟩)
    go_ret2
    exact ⟨_, rfl, w.heap.size, Nat.le_refl _, .inl ⟨rfl, _, _, rfl, by decide⟩, hb1⟩
  · rw [hR] at hr
    obtain ⟨hn, hbd⟩ := rates_bd hR
    cases hq : (decide (0 ≤ pc) && decide (pc ≤ 100))
    · go_enter Tryz.func31, Tryz.ntmps31
      go_wp2_with (first | (go_at_call 59; refine hr.mono ?_; rintro e w1 ⟨rfl, hb1⟩) | (go_at_call 60; refine (in_any _ _ _ _).mono ?_; rw [hq]; rintro e w2 ⟨rfl, hw⟩; rw [hw]; clear hw w2))
      go_ret2
      exact ⟨_, rfl, w.heap.size, Nat.le_refl _, .inl ⟨rfl, _, _, rfl, by decide⟩, hb1⟩
    · have hsc := fun w' hb => scaled_anyC n g c0 P pc (by simp at hq; exact hq) hbd hn w' (hv.below (B := w.heap.size) hb hlt)
      go_enter Tryz.func31, Tryz.ntmps31
      go_wp2_with (first | (go_at_call 59; refine hr.mono ?_; rintro e w1 ⟨rfl, hb1⟩) | (go_at_call 60; refine (in_any _ _ _ _).mono ?_; rw [hq]; rintro e w2 ⟨rfl, hw⟩; rw [hw]; clear hw w2) | (go_at_call 56; refine (hsc _ hb1).mono ?_; rintro e w3 ⟨v1, r1, rfl, h1, h2, h3⟩))
      go_ret2
      exact ⟨_, rfl, r1, Nat.le_trans hb1.size h1, by simpa using h2, hb1.trans (h3.mono hb1.size)⟩
end Go.Proofs.YtokdpmpgonafmaaGreat
