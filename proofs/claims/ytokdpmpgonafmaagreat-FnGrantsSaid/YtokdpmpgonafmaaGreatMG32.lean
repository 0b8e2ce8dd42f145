import Derived.Test.YtokdpmpgonafmaaGreatMG31
/- FewestRefused and MostWater, in the reference. -/
namespace Go.Proofs.YtokdpmpgonafmaaGreat
open Go.ChangeShapes Go.WideShapes Go.ChangeAt Go.RowKit
set_option linter.unusedVariables false
set_option linter.unusedSimpArgs false
attribute [local irreducible] Calls
theorem cellsV_get (m : Nat) (Q : Nat → Pm) : ∀ (E : List RecV) (i : Nat) (r : RecV), E[i]? = some r → (cellsV m Q E)[i * 2]? = some r.1 ∧ (cellsV m Q E)[i * 2 + 1]? = some (.int .i64 (sumOf Q (picks r.2 m)))
  | [], i, r, h => by simp at h
  | x :: E, 0, r, h => by
    simp at h; subst h
    exact ⟨rfl, rfl⟩
  | x :: E, i + 1, r, h => by
    simp at h
    obtain ⟨h1, h2⟩ := cellsV_get m Q E i r h
    have e : cellsV m Q (x :: E) = x.1 :: .int .i64 (sumOf Q (picks x.2 m)) :: cellsV m Q E := rfl
    rw [e, show (i + 1) * 2 = i * 2 + 1 + 1 by omega, List.getElem?_cons_succ, List.getElem?_cons_succ, List.getElem?_cons_succ, List.getElem?_cons_succ]
    exact ⟨h1, h2⟩
theorem over_few {m x y : Nat} : over (fewGt m) m x y = (decide ((picks y m).length < (picks x m).length) || (decide ((picks x m).length = (picks y m).length) && decide (cmpL (picks x m) (picks y m) < 0))) := by
  unfold over fewGt
  by_cases h1 : (picks y m).length < (picks x m).length
  · simp [h1]
  · by_cases h2 : (picks x m).length < (picks y m).length
    · have h3 : ¬ (picks x m).length = (picks y m).length := by omega
      simp [h1, h2, h3]
    · have h3 : (picks x m).length = (picks y m).length := by omega
      simp [h3]
theorem best_one (gt : Nat → Nat → Bool) (l : List Nat) : bestTo gt l 1 = l.getD 0 0 := by unfold bestTo; unfold bestTo; split <;> rfl
theorem best_stepV {gt : Nat → Nat → Bool} {E : List RecV} {k s : Nat} {x : RecV} (hx : E[k]? = some x) (hr : s = bestTo gt (E.map Prod.snd) k) : (if gt x.2 s then x.2 else s) = bestTo gt (E.map Prod.snd) (k + 1) := by
  conv => rhs; unfold bestTo
  have e : (E.map Prod.snd).getD k 0 = x.2 := by simp [List.getD_eq_getElem?_getD, hx]
  rw [e, ← hr]
set_option maxRecDepth 100000 in
set_option maxHeartbeats 1000000 in
theorem specFewestRefused_any (g : Gr) (v u : Value) (n m : Nat) (P : Nat → Wt) (Q : Nat → Pm) (hg : g.ok) (hP : ∀ i, i < n → (P i).ok) (hQ : ∀ i, i < m → (Q i).ok) (w : World) (hv : WSl w v n P) (hu : PSl w u m Q) :
    Calls Tryz.prog 8 #[.agg (ofc g v), u] w fun e w' => ∃ x r, e = .returned (.tuple #[x, .int .i64 (bsT (fewGt m) g n P m Q).2.2]) ∧ w.heap.size ≤ r ∧ Rs 2 w' r x (bsT (fewGt m) g n P m Q).1.length (ils (bsT (fewGt m) g n P m Q).1) ∧ Below w.heap.size w w' := by
  obtain ⟨T1, hT1⟩ : ∃ T1, T1 = (bsT (fewGt m) g n P m Q).1 := ⟨_, rfl⟩
  obtain ⟨T3, hT3⟩ : ∃ T3, T3 = (bsT (fewGt m) g n P m Q).2.2 := ⟨_, rfl⟩
  rw [← hT1, ← hT3]
  unfold bsT at hT1 hT3
  obtain ⟨a, c, rfl, hform⟩ := id hu
  clear hform
  go_enter Tryz.func8, Tryz.ntmps8
  go_upto_region 1 with (refine wpList_box_as rfl rfl rfl ?_)
  have hA := Blk.new w (ofc g v) 42
  have hbel := below1 w (.cells (ofc g v) 42)
  generalize w.alloc (.cells (ofc g v) 42) = W at *
  have lA := hA.lt
  have hu := hu.below hbel
  have hv := hv.below hbel
  have hvp := l07Fits_any g v _ n m P Q w.heap.size _ hg hP hQ W hA hv hu
  cases hvd : validP g n P m Q <;> rw [hvd] at hvp hT1 hT3
  · have HF := Lib.hid (And.intro hT1 hT3)
    clear hT1 hT3 hvd
    go_wp2_with (go_at_call 33; refine hvp.mono ?_; rintro e w2 ⟨rfl, hb2⟩)
    go_ret2
    obtain ⟨z1, z3⟩ := HF.out
    subst z1; subst z3
    have hbel2 := hbel.trans (hb2.mono hbel.size)
    exact ⟨_, w.heap.size, rfl, Nat.le_refl _, .inl ⟨rfl, _, _, rfl, by decide⟩, hbel2.alloc hbel2.size _⟩
  · obtain ⟨hvg, hvo, hci, hm6, _⟩ := validP_use hvd
    have hch := fun w' h1 h2 h3 => l07Choices_any g w.heap.size v (.slice a m c) n m P Q hg hvg hci hQ (validO_watch hvo) hm6 w' h1 h2 h3
    have HF := Lib.hid (And.intro hT1 hT3)
    clear hT1 hT3 hvd
    go_upto_region 4 with (first | (go_at_call 33; refine hvp.mono ?_; rintro e w2 ⟨rfl, hb2⟩) | (go_at_call 34; refine (hch w2 (hA.below hb2 lA) (hv.below hb2) (hu.below hb2)).mono ?_; rintro e w5 ⟨go, cap, E, rfl, hgw, hE64, hown, hlies, hmap, hb5⟩))
    have hs2 := hb2.size
    have hbel5 := (hbel.trans (hb2.mono hbel.size)).trans (hb5.mono (hbel.trans (hb2.mono hbel.size)).size)
    have hlen : E.length = (keptTo (grK g n P Q) m (2 ^ m)).length := by rw [← hmap]; simp
    clear hch hvp hu hv hb5 hb2 hA
    by_cases h0 : E.length = 0
    · obtain ⟨z1, z3⟩ := HF.out
      rw [if_pos trivial, if_pos (by omega)] at z1 z3
      clear HF hlen hlies hown hmap
      have b0 : (E.length : Int) = 0 := by omega
      go_wp2_with fail
      go_ret2
      subst z1; subst z3
      exact ⟨_, rfl, w.heap.size, Nat.le_refl _, .inl ⟨rfl, _, _, rfl, by decide⟩, hbel5.alloc hbel5.size _⟩
    · obtain ⟨z1, z3⟩ := HF.out
      rw [if_pos trivial, if_neg (by omega), ← hlen, ← hmap] at z1 z3
      have HZ := Lib.hid (And.intro z1 z3)
      have HCL : Hid (∀ (i : Nat) (r : RecV), E[i]? = some r → w5.cell? ⟨go, i * 2, none⟩ = some r.1) := Lib.hid fun i r hr => by
        have hlt : i < E.length := by
          rcases Nat.lt_or_ge i E.length with h | h
          · exact h
          · rw [List.getElem?_eq_none h] at hr; cases hr
        rw [hown.cell (i * 2) (by omega)]; exact (cellsV_get m Q E i r hr).1
      have HL : Hid (∀ r, r ∈ E → VLc w5 w.heap.size r.1 (picks r.2 m)) := Lib.hid fun r hr => VLc.mono (hlies r hr) (by have := hbel.size; omega)
      clear HF hlen hlies hown hmap z1 z3
      obtain ⟨x0, hx0⟩ : ∃ x, E[0]? = some x := ⟨_, List.getElem?_eq_getElem (by omega)⟩
      have HX0 := Lib.hid hx0
      have e0 := HCL.out 0 x0 hx0
      have hm0 := List.mem_of_getElem? hx0
      obtain ⟨ax0, cx0, hx0f⟩ := (HL.out x0 hm0).form
      rw [hx0f] at e0
      clear hx0
      have hpos : (0 : Int) < E.length := by omega
      have hne0 : ((E.length : Int) == 0) = false := by rw [beq_eq_false_iff_ne]; omega
      simp only [Nat.zero_mul, Nat.zero_add] at e0
      go_upto_region 8 with fail
      go_loopw [7, 8] (fun y i wr => ∃ (k q : Nat) (r : RecV), 1 ≤ k ∧ k ≤ E.length ∧ i = .int .i64 k ∧ r ∈ E ∧ y = r.1 ∧ Hid (r.2 = bestTo (over (fewGt m) m) (E.map Prod.snd) k) ∧ wr = w5.drewN q) (fun _ i _ => E.length - (intOf i).toNat)
      case atStart => exact ⟨1, 0, x0, by omega, by omega, rfl, hm0, hx0f.symm, Lib.hid (by rw [best_one]; simp [List.getD_eq_getElem?_getD, HX0.out]), rfl⟩
      case round =>
        obtain ⟨k, q, r, hk1, hk, rfl, hr, rfl, hbk, rfl⟩ := hrel
        have hrv := HL.out r hr
        by_cases hlt : k < E.length
        · obtain ⟨x, hx⟩ : ∃ x, E[k]? = some x := ⟨_, List.getElem?_eq_getElem hlt⟩
          have e0 := HCL.out k x hx
          have hmx := List.mem_of_getElem? hx
          have hxv := HL.out x hmx
          have HST := Lib.hid (best_stepV hx hbk.out)
          clear hx
          obtain ⟨ax, cx, hxf⟩ := hxv.form
          obtain ⟨ar, cr, hrf⟩ := hrv.form
          have hfi := fun w' h1 h2 h3 => l07First_any (picks x.2 m) (picks r.2 m) x.1 r.1 h3 (by have := picks_length x.2 m; omega) w' h1 h2
          have HO := Lib.hid (@over_few m x.2 r.2)
          have hpk : (0 : Int) ≤ k := by omega
          rw [hxf] at e0
          rw [hxf, hrf] at hfi
          rw [hrf]
          have HXF := Lib.hid (And.intro hxf hrf)
          clear hxf hrf
          by_cases h1 : (picks r.2 m).length < (picks x.2 m).length
          · have HB : Hid (x.2 = bestTo (over (fewGt m) m) (E.map Prod.snd) (k + 1)) := Lib.hid (by rw [← HST.out, HO.out]; simp [h1])
            clear HST HO hfi
            have i1 : ((picks r.2 m).length : Int) < (picks x.2 m).length := by omega
            go_wp2_with fail
            go_roundw
            case rel => exact ⟨k + 1, _, x, by omega, by omega, by go_num, hmx, HXF.out.1.symm, HB, rfl⟩
            case measure => simp [intOf]; omega
          · by_cases h2 : (picks x.2 m).length = (picks r.2 m).length
            · have hfi2 := fun w' h1 h2' => hfi w' h1 h2' h2
              clear hfi
              obtain ⟨L, hL⟩ : ∃ L, L = (picks x.2 m).length := ⟨_, rfl⟩
              rw [← h2, ← hL] at hfi2 ⊢
              rw [← hL] at e0
              have HB : Hid ((if cmpL (picks x.2 m) (picks r.2 m) < 0 then x.2 else r.2) = bestTo (over (fewGt m) m) (E.map Prod.snd) (k + 1)) := Lib.hid (by rw [← HST.out, HO.out]; simp [h2])
              have HL2 := Lib.hid (And.intro hL (hL.trans h2))
              clear HST HO hL h1 h2
              by_cases hc : cmpL (picks x.2 m) (picks r.2 m) < 0
              · rw [if_pos hc] at HB
                rw [decide_eq_true hc] at hfi2
                clear hc
                go_wp2_with (go_at_call 35; refine (hfi2 (w5.drewN q) (by rw [HL2.out.1, ← HXF.out.1]; exact VLB.vl (VLB.drewN hxv q)) (by rw [HL2.out.2, ← HXF.out.2]; exact VLB.vl (VLB.drewN hrv q))).mono ?_; rintro e w' ⟨rfl, q2, rfl⟩)
                go_roundw
                case rel => exact ⟨k + 1, _, x, by omega, by omega, by go_num, hmx, (by rw [HXF.out.1, HL2.out.1]), HB, rfl⟩
                case measure => simp [intOf]; omega
              · rw [if_neg hc] at HB
                rw [decide_eq_false hc] at hfi2
                clear hc
                go_wp2_with (go_at_call 35; refine (hfi2 (w5.drewN q) (by rw [HL2.out.1, ← HXF.out.1]; exact VLB.vl (VLB.drewN hxv q)) (by rw [HL2.out.2, ← HXF.out.2]; exact VLB.vl (VLB.drewN hrv q))).mono ?_; rintro e w' ⟨rfl, q2, rfl⟩)
                go_roundw
                case rel => exact ⟨k + 1, _, r, by omega, by omega, by go_num, hr, (by rw [HXF.out.2, HL2.out.2]), HB, rfl⟩
                case measure => simp [intOf]; omega
            · have HB : Hid (r.2 = bestTo (over (fewGt m) m) (E.map Prod.snd) (k + 1)) := Lib.hid (by rw [← HST.out, HO.out]; simp [h1, h2])
              clear HST HO hfi
              have i1 : ((picks x.2 m).length : Int) < (picks r.2 m).length := by omega
              have i2 : (((picks x.2 m).length : Int) == (picks r.2 m).length) = false := by rw [beq_eq_false_iff_ne]; omega
              go_wp2_with fail
              go_roundw
              case rel => exact ⟨k + 1, _, r, by omega, by omega, by go_num, hr, HXF.out.2.symm, HB, rfl⟩
              case measure => simp [intOf]; omega
        · obtain rfl : k = E.length := by omega
          go_wp2_with fail
          go_ret2
          obtain ⟨z1, z3⟩ := HZ.out
          rw [← hbk.out] at z1
          subst z1; subst z3
          obtain ⟨r', h1, h2⟩ := hrv.rs
          exact ⟨_, r', rfl, h1, h2.below (below_drewN (Below.refl _ _) q), below_drewN hbel5 q⟩
end Go.Proofs.YtokdpmpgonafmaaGreat
