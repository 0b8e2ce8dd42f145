import Derived.Test.YtokdpmpgonafmaaGreatMG30
import Derived.Test.YtokdpmpgonafmaaGreatMG28
/- The best of all choices that are kept, in the program (best). -/
namespace Go.Proofs.YtokdpmpgonafmaaGreat
open Go.ChangeShapes Go.WideShapes Go.ChangeAt Go.RowKit
set_option linter.unusedVariables false
set_option linter.unusedSimpArgs false
attribute [local irreducible] Calls
/-- More permits. -/
def fewGt (m : Nat) (x y : Nat) : Bool := decide ((picks y m).length < (picks x m).length)
/-- More water, or as much of fewer permits. -/
def watGt (m : Nat) (Q : Nat → Pm) (x y : Nat) : Bool := decide (sumOf Q (picks y m) < sumOf Q (picks x m)) || (decide (sumOf Q (picks x m) = sumOf Q (picks y m)) && decide ((picks x m).length < (picks y m).length))
theorem few_weak (m : Nat) : Weak (fewGt m) where
  irr := fun x => by unfold fewGt; simp
  tr := fun x y z h1 h2 => by unfold fewGt at *; simp at *; omega
  ntr := fun x y z h1 h2 => by unfold fewGt at *; simp at *; omega
theorem wat_weak (m : Nat) (Q : Nat → Pm) : Weak (watGt m Q) where
  irr := fun x => by unfold watGt; simp
  tr := fun x y z h1 h2 => by unfold watGt at *; simp at *; omega
  ntr := fun x y z h1 h2 => by unfold watGt at *; simp at *; omega
set_option maxRecDepth 100000 in
set_option maxHeartbeats 400000 in
theorem fewC_any (a1 a2 : Option Addr) (p1 p2 c1 c2 : Nat) (s1 s2 : Int) (w : World) :
    Calls Tryz.prog 40 #[.agg #[.slice a1 p1 c1, .int .i64 s1], .agg #[.slice a2 p2 c2, .int .i64 s2]] w fun e w' => e = .returned (.bool (decide (p2 < p1))) ∧ Below w.heap.size w w' := by
  go_enter Tryz.func40, Tryz.ntmps40
  go_wp2_with fail
  go_ret
  exact ⟨rfl, below2 _ _ _⟩
set_option maxRecDepth 100000 in
set_option maxHeartbeats 400000 in
theorem watC_any (a1 a2 : Option Addr) (p1 p2 c1 c2 : Nat) (s1 s2 : Int) (w : World) :
    Calls Tryz.prog 45 #[.agg #[.slice a1 p1 c1, .int .i64 s1], .agg #[.slice a2 p2 c2, .int .i64 s2]] w fun e w' => e = .returned (.bool (decide (s2 < s1) || (decide (s1 = s2) && decide (p1 < p2)))) ∧ Below w.heap.size w w' := by
  obtain ⟨V, hV⟩ : ∃ V, V = (decide (s2 < s1) || (decide (s1 = s2) && decide (p1 < p2))) := ⟨_, rfl⟩
  rw [← hV]
  by_cases h1 : s2 < s1
  · have HV : Hid (V = true) := Lib.hid (by rw [hV]; simp [h1])
    clear hV
    have e1 : decide (s2 < s1) = true := by simpa using h1
    go_enter Tryz.func45, Tryz.ntmps45
    go_wp2_with fail
    go_ret
    exact ⟨by rw [HV.out]; rfl, below2 _ _ _⟩
  · have e1 : decide (s2 < s1) = false := by simpa using h1
    by_cases h2 : s1 = s2
    · subst h2
      have HV : Hid (V = decide (p1 < p2)) := Lib.hid (by rw [hV]; simp)
      clear hV
      go_enter Tryz.func45, Tryz.ntmps45
      go_wp2_with fail
      go_ret
      exact ⟨by rw [HV.out]; rfl, below2 _ _ _⟩
    · have HV : Hid (V = false) := Lib.hid (by rw [hV]; simp [h2]; omega)
      have e2 : (s1 == s2) = false := by simpa using h2
      clear hV
      go_enter Tryz.func45, Tryz.ntmps45
      go_wp2_with fail
      go_ret
      exact ⟨by rw [HV.out]; rfl, below2 _ _ _⟩

theorem callFew : Callable Tryz.prog 40 := ⟨_, Tryz.func40, by kernel_rfl, by kernel_rfl⟩
theorem callWat : Callable Tryz.prog 45 := ⟨_, Tryz.func45, by kernel_rfl, by kernel_rfl⟩
/-- The slice v holds the numbers L in blocks from B on; or nil where there are none. -/
def VLc (w : World) (B : Nat) (v : Value) (L : List Nat) : Prop := (L = [] ∧ v = .slice none 0 0) ∨ ∃ g c, v = .slice (some ⟨g, 0, none⟩) L.length c ∧ Own w g 2 1 (.slice (some ⟨g, 0, none⟩) L.length c) L.length (ils L) ∧ B ≤ g
/-- What is taken: which permits, their sum, the code. -/
def bsT (gt : Nat → Nat → Bool) (g : Gr) (n : Nat) (P : Nat → Wt) (m : Nat) (Q : Nat → Pm) : List Nat × Int × Int :=
  if validP g n P m Q then
    if (keptTo (grK g n P Q) m (2 ^ m)).length = 0 then ([], 0, 6)
    else (picks (bestTo (over gt m) (keptTo (grK g n P Q) m (2 ^ m)) (keptTo (grK g n P Q) m (2 ^ m)).length) m, sumOf Q (picks (bestTo (over gt m) (keptTo (grK g n P Q) m (2 ^ m)) (keptTo (grK g n P Q) m (2 ^ m)).length) m), 0)
  else ([], 0, 1)
theorem kept_lt {K : List Nat → Bool} {m k s : Nat} (h : s ∈ keptTo K m k) : s < k := by unfold keptTo at h; exact List.mem_range.1 (List.mem_filter.1 h).1
theorem kept_nodup (K : List Nat → Bool) (m k : Nat) : (keptTo K m k).Nodup := by unfold keptTo; exact List.nodup_range.filter _
theorem best_sorted_same {gt : Nat → Nat → Bool} (hg : Weak gt) {K : List Nat → Bool} {m : Nat} {D : List Rec} (hp : (D.map Rec.s).Perm (keptTo K m (2 ^ m))) (hs : ∀ (i j : Nat) (r s : Rec), i < j → D[i]? = some r → D[j]? = some s → ¬ cmpL (picks s.s m) (picks r.s m) < 0) (h0 : 0 < D.length) :
    bestTo gt (D.map Rec.s) D.length = bestTo (over gt m) (keptTo K m (2 ^ m)) (keptTo K m (2 ^ m)).length := by
  have hlen : (D.map Rec.s).length = (keptTo K m (2 ^ m)).length := hp.length_eq
  have hlD : (D.map Rec.s).length = D.length := by simp
  rw [← hlD]
  refine best_same hg (fun x y hx hy h => picks_inj (kept_lt hx) (kept_lt hy) h) (by omega) (fun x => hp.mem_iff) (by omega) fun i j hij hj => ?_
  have hi' : i < D.length := by omega
  have hj' : j < D.length := by omega
  have e1 : (D.map Rec.s).getD i 0 = D[i].s := by simp [List.getD_eq_getElem?_getD, hi']
  have e2 : (D.map Rec.s).getD j 0 = D[j].s := by simp [List.getD_eq_getElem?_getD, hj']
  have h1 := hs i j D[i] D[j] hij (by simp [hi']) (by simp [hj'])
  rw [e1, e2]
  have hnd : (D.map Rec.s).Nodup := hp.nodup_iff.2 (kept_nodup K m _)
  have hne : D[i].s ≠ D[j].s := fun e => by
    have := (List.getElem_inj (i := i) (j := j) (h₀ := by omega) (h₁ := by omega) hnd).1 (by simpa using e)
    omega
  have m1 : D[i].s ∈ keptTo K m (2 ^ m) := hp.mem_iff.1 (List.mem_map_of_mem (List.getElem_mem hi'))
  have m2 : D[j].s ∈ keptTo K m (2 ^ m) := hp.mem_iff.1 (List.mem_map_of_mem (List.getElem_mem hj'))
  rw [cmpL_lt] at h1 ⊢
  rcases Decidable.em (picks D[i].s m < picks D[j].s m) with h3 | h3
  · exact h3
  · exact absurd (picks_inj (kept_lt m1) (kept_lt m2) (List.le_antisymm (show picks D[i].s m ≤ picks D[j].s m from h1) (show picks D[j].s m ≤ picks D[i].s m from h3))) hne
theorem best_step {gt : Nat → Nat → Bool} {D : List Rec} {k : Nat} {x r : Rec} (hx : D[k]? = some x) (hr : r.s = bestTo gt (D.map Rec.s) k) : (if gt x.s r.s then x.s else r.s) = bestTo gt (D.map Rec.s) (k + 1) := by
  conv => rhs; unfold bestTo
  have e : (D.map Rec.s).getD k 0 = x.s := by simp [List.getD_eq_getElem?_getD, hx]
  rw [e, ← hr]
theorem row_grown (w : World) (b : Nat) (C : Array Value) : w.grownBy (w.setRow b C) (some b) := ⟨rfl, rfl, rfl, by simp, fun j hj hne => setRow_other w b j _ (fun e => hne (by rw [e]))⟩
set_option maxRecDepth 100000 in
set_option maxHeartbeats 1000000 in
theorem best_any (gt : Nat → Nat → Bool) (hgt : Weak gt) (fid : Nat) (hf : Callable Tryz.prog fid) (g : Gr) (b : Nat) (v u : Value) (n m : Nat) (P : Nat → Wt) (Q : Nat → Pm) (hg : g.ok) (hP : ∀ i, i < n → (P i).ok) (hQ : ∀ i, i < m → (Q i).ok)
    (hcall : ∀ (x y : Rec) (w' : World), Calls Tryz.prog fid #[.agg #[x.val m, .int .i64 (sumOf Q (picks x.s m))], .agg #[y.val m, .int .i64 (sumOf Q (picks y.s m))]] w' fun e w'' => e = .returned (.bool (gt x.s y.s)) ∧ Below w'.heap.size w' w'')
    (w : World) (hb : Blk w b (ofc g v) 42) (hv : WSl w v n P) (hu : PSl w u m Q) :
    Calls Tryz.prog 39 #[.pointer (some ⟨b, 0, none⟩), u, .func (.func fid) #[] #[]] w fun e w' => ∃ x, e = .returned (.tuple #[.agg #[x, .int .i64 (bsT gt g n P m Q).2.1], .int .i64 (bsT gt g n P m Q).2.2]) ∧ VLc w' w.heap.size x (bsT gt g n P m Q).1 ∧ Below w.heap.size w w' := by
  obtain ⟨T1, hT1⟩ : ∃ T1, T1 = (bsT gt g n P m Q).1 := ⟨_, rfl⟩
  obtain ⟨T2, hT2⟩ : ∃ T2, T2 = (bsT gt g n P m Q).2.1 := ⟨_, rfl⟩
  obtain ⟨T3, hT3⟩ : ∃ T3, T3 = (bsT gt g n P m Q).2.2 := ⟨_, rfl⟩
  rw [← hT1, ← hT2, ← hT3]
  unfold bsT at hT1 hT2 hT3
  obtain ⟨a, c, rfl, hform⟩ := id hu
  clear hform
  have lb := hb.lt
  go_enter Tryz.func39, Tryz.ntmps39
  go_upto_region 1 with fail
  have hR : Blk (w.alloc (.cells #[.slice none 0 0, .int .i64 0] 81)) w.heap.size #[.slice none 0 0, .int .i64 0] 81 := Blk.new _ _ _
  have hbel := below1 w (.cells #[.slice none 0 0, .int .i64 0] 81)
  generalize w.alloc (.cells #[.slice none 0 0, .int .i64 0] 81) = W at *
  have hb := hb.below hbel lb
  have hu := hu.below hbel
  have hv := hv.below hbel
  have lA := hb.lt
  have lR := hR.lt
  have hvp := validPermits_any g v _ n m P Q hg hP hQ W hv hu
  cases hvd : validP g n P m Q <;> rw [hvd] at hvp hT1 hT2 hT3
  · have HF := Lib.hid (And.intro hT1 (And.intro hT2 hT3))
    clear hT1 hT2 hT3 hvd
    go_wp2_with (first | (refine wpList_load_blk rfl rfl rfl row76 hb (ofc_size _ _) ?_) | (go_at_call 50; refine hvp.mono ?_; rintro e w2 ⟨rfl, hb2⟩; have hR2 := hR.below hb2 lR) | (refine wpList_store_blk (C' := #[.slice none 0 0, .int .i64 0]) rfl rfl rfl rfl rowCh hR2 rfl rfl (by decide) ?_))
    refine bodyPost_row2 rfl rfl rowCh (hR2.setRow _) rfl rfl ?_
    obtain ⟨z1, z2, z3⟩ := HF.out
    subst z1; subst z2; subst z3
    exact ⟨_, rfl, .inl ⟨rfl, rfl⟩, (hbel.trans (hb2.mono hbel.size)).grown (row_grown _ _ _) (hbel.trans (hb2.mono hbel.size)).size (fun k e => by injection e; omega)⟩
  · obtain ⟨hvg, hvo, hci, hm6, _⟩ := validP_use hvd
    have hch := fun w' h1 h2 h3 => choices_any g b v (.slice a m c) n m P Q hg hvg hci hQ (validO_watch hvo) hm6 w' h1 h2 h3
    have HF := Lib.hid (And.intro hT1 (And.intro hT2 hT3))
    clear hT1 hT2 hT3 hvd
    go_upto_region 4 with (first | (refine wpList_load_blk rfl rfl rfl row76 hb (ofc_size _ _) ?_) | (go_at_call 50; refine hvp.mono ?_; rintro e w2 ⟨rfl, hb2⟩; have hR2 := hR.below hb2 lR) | (go_at_call 66; refine (hch w2 (hb.below hb2 lA) (hv.below hb2) (hu.below hb2)).mono ?_; rintro e w5 ⟨go, cap, D, rfl, hgo, hgw, hD64, hrec, hlies, hperm, hsort, hb5⟩))
    have hR5 := hR2.below hb5 hR2.lt
    have hs2 := hb2.size
    have hbel5 := (hbel.trans (hb2.mono hbel.size)).trans (hb5.mono (hbel.trans (hb2.mono hbel.size)).size)
    have hlen : D.length = (keptTo (grK g n P Q) m (2 ^ m)).length := by have := hperm.length_eq; simpa using this
    clear hch hvp hu hv hb hb5 hb2 hR2 hR
    by_cases h0 : D.length = 0
    · obtain ⟨z1, z2, z3⟩ := HF.out
      rw [if_pos trivial, if_pos (by omega)] at z1 z2 z3
      clear HF hlen hperm hsort hlies hrec
      have b0 : (D.length : Int) = 0 := by omega
      go_wp2_with (refine wpList_store_blk (C' := #[.slice none 0 0, .int .i64 0]) rfl rfl rfl rfl rowCh hR5 rfl rfl (by decide) ?_)
      refine bodyPost_row2 rfl rfl rowCh (hR5.setRow _) rfl rfl ?_
      subst z1; subst z2; subst z3
      exact ⟨_, rfl, .inl ⟨rfl, rfl⟩, hbel5.grown (row_grown _ _ _) hbel5.size (fun k e => by injection e; omega)⟩
    · have hbs := best_sorted_same hgt hperm (fun i j r s a b c => by have := hsort i j r s a b c; omega) (by omega)
      obtain ⟨z1, z2, z3⟩ := HF.out
      rw [if_pos trivial, if_neg (by omega), ← hbs] at z1 z2 z3
      have HZ := Lib.hid (And.intro z1 (And.intro z2 z3))
      have HRC := Lib.hid hrec
      have HL : Hid (∀ r, r ∈ D → Own w5 r.g 2 1 (r.val m) (picks r.s m).length (ils (picks r.s m)) ∧ w.heap.size ≤ r.g) := Lib.hid fun r hr => ⟨(hlies r hr).1, by have := (hlies r hr).2; have := hbel.size; show w.heap.size ≤ r.g; omega⟩
      clear HF hlen hperm hsort hlies hrec hbs z1 z2 z3
      obtain ⟨x0, hx0⟩ : ∃ x, D[0]? = some x := ⟨_, List.getElem?_eq_getElem (by omega)⟩
      have HX0 := Lib.hid hx0
      obtain ⟨e0, e1⟩ := HRC.out 0 x0 hx0
      clear hx0
      have hpos : (0 : Int) < D.length := by omega
      have hne0 : ((D.length : Int) == 0) = false := by rw [beq_eq_false_iff_ne]; omega
      simp only [Nat.zero_mul, Nat.zero_add, Rec.val] at e0 e1
      go_upto_region 7 with fail
      have hbz := below1 w5 (.cells #[.slice (some ⟨x0.g, 0, none⟩) (picks x0.s m).length x0.cap, .int .i64 (sumOf Q (picks x0.s m))] 81)
      have hO := Blk.new w5 #[.slice (some ⟨x0.g, 0, none⟩) (picks x0.s m).length x0.cap, .int .i64 (sumOf Q (picks x0.s m))] 81
      generalize w5.alloc (.cells #[.slice (some ⟨x0.g, 0, none⟩) (picks x0.s m).length x0.cap, .int .i64 (sumOf Q (picks x0.s m))] 81) = W6 at *
      have lR5 := hR5.lt
      have lz := hbel5.size
      have lO := hO.lt
      obtain ⟨z, hz⟩ : ∃ z, z = w5.heap.size := ⟨_, rfl⟩
      rw [← hz] at hO hbz lR5 lz hgo lO ⊢
      have hz1 : z ≤ w5.heap.size := by omega
      have hz2 : w5.heap.size ≤ z := by omega
      clear hz
      go_upto_region 8 with fail
      go_loopw [31] (fun i wr => ∃ (k : Nat) (r : Rec), k ≤ D.length ∧ i = .int .i64 k ∧ r ∈ D ∧ Hid (r.s = bestTo gt (D.map Rec.s) k) ∧ Blk wr z #[r.val m, .int .i64 (sumOf Q (picks r.s m))] 81 ∧ Below z w5 wr) (fun i _ => D.length - (intOf i).toNat)
      case atStart => exact ⟨0, x0, by omega, rfl, List.mem_of_getElem? HX0.out, Lib.hid (by unfold bestTo; simp [List.getD_eq_getElem?_getD, HX0.out]), hO, hbz⟩
      case round =>
        clear hbz hO
        obtain ⟨k, r, hk, rfl, hr, hbk, hO, hbz⟩ := hrel
        by_cases hlt : k < D.length
        · obtain ⟨x, hx⟩ : ∃ x, D[k]? = some x := ⟨_, List.getElem?_eq_getElem hlt⟩
          obtain ⟨e0, e1⟩ := HRC.out k x hx
          have e0 : wr.cell? ⟨go, k * 2, none⟩ = some (x.val m) := (hbz.cell (p := ⟨go, _, none⟩) hgo).trans e0
          have e1 : wr.cell? ⟨go, k * 2 + 1, none⟩ = some (.int .i64 (sumOf Q (picks x.s m))) := (hbz.cell (p := ⟨go, _, none⟩) hgo).trans e1
          have HX := Lib.hid hx
          clear hx
          have hpk : (0 : Int) ≤ k := by omega
          simp only [Rec.val] at e0 e1 hO
          go_upto_region 10 with fail
          have hzr : w5.heap.size ≤ wr.heap.size := hbz.size
          have hO := hO.alloc (.cells #[.slice (some ⟨x.g, 0, none⟩) (picks x.s m).length x.cap, .int .i64 (sumOf Q (picks x.s m))] 81)
          have hN := Blk.new wr #[.slice (some ⟨x.g, 0, none⟩) (picks x.s m).length x.cap, .int .i64 (sumOf Q (picks x.s m))] 81
          have hbz := hbz.alloc (by omega) (.cells #[.slice (some ⟨x.g, 0, none⟩) (picks x.s m).length x.cap, .int .i64 (sumOf Q (picks x.s m))] 81)
          generalize wr.alloc (.cells #[.slice (some ⟨x.g, 0, none⟩) (picks x.s m).length x.cap, .int .i64 (sumOf Q (picks x.s m))] 81) = W7 at *
          have lO := hO.lt
          have lN := hN.lt
          have hcl := hcall x r W7
          simp only [Rec.val] at hcl
          have hst := best_step HX.out hbk.out
          cases hgv : gt x.s r.s <;> rw [hgv] at hcl hst
          · have HST := Lib.hid hst
            clear hst hgv
            go_wp2_with (first | (refine wpList_load_blk rfl rfl rfl rowCh hO rfl ?_) | (refine wpList_load_blk rfl rfl rfl rowCh hN rfl ?_) | (refine wpList_callv (cap := #[]) (l := [.agg #[.slice (some ⟨x.g, 0, none⟩) (picks x.s m).length x.cap, .int .i64 (sumOf Q (picks x.s m))], .agg #[.slice (some ⟨r.g, 0, none⟩) (picks r.s m).length r.cap, .int .i64 (sumOf Q (picks r.s m))]]) rfl rfl rfl rfl hf ?_; refine hcl.mono ?_; rintro e w8 ⟨rfl, hb8⟩; refine ⟨_, rfl, ?_⟩))
            go_roundw
            case rel => exact ⟨k + 1, r, by omega, by go_num, hr, Lib.hid (by rw [← HST.out]; rfl), hO.below hb8 lO, hbz.trans (hb8.mono (Nat.le_trans hz1 hbz.size))⟩
            case measure => simp [intOf]; omega
          · have HST := Lib.hid hst
            clear hst hgv
            go_wp2_with (first | (refine wpList_load_blk rfl rfl rfl rowCh hO rfl ?_) | (refine wpList_load_blk rfl rfl rfl rowCh hN rfl ?_) | (refine wpList_callv (cap := #[]) (l := [.agg #[.slice (some ⟨x.g, 0, none⟩) (picks x.s m).length x.cap, .int .i64 (sumOf Q (picks x.s m))], .agg #[.slice (some ⟨r.g, 0, none⟩) (picks r.s m).length r.cap, .int .i64 (sumOf Q (picks r.s m))]]) rfl rfl rfl rfl hf ?_; refine hcl.mono ?_; rintro e w8 ⟨rfl, hb8⟩; refine ⟨_, rfl, ?_⟩; have hO8 := hO.below hb8 lO; have hN8 := hN.below hb8 lN) | (refine wpList_load_blk rfl rfl rfl rowCh hN8 rfl ?_) | (refine wpList_store_blk (C' := #[.slice (some ⟨x.g, 0, none⟩) (picks x.s m).length x.cap, .int .i64 (sumOf Q (picks x.s m))]) rfl rfl rfl rfl rowCh hO8 rfl rfl (by intro q hq; simp at hq; rcases hq with rfl | rfl <;> rfl) ?_))
            go_roundw
            case rel => exact ⟨k + 1, x, by omega, by go_num, List.mem_of_getElem? HX.out, Lib.hid (by rw [← HST.out]; rfl), hO8.setRow _, (hbz.trans (hb8.mono (Nat.le_trans hz1 hbz.size))).grown (row_grown _ _ _) (by have := hb8.size; have := hbz.size; omega) (fun k e => by injection e; omega)⟩
            case measure => simp [intOf]; omega
        · obtain rfl : k = D.length := by omega
          have hR9 := hR5.below hbz (by omega)
          have hlx := HL.out r hr
          have hown := hlx.1.below hbz (by have := hlx.1.lt; omega)
          simp only [Rec.val] at hO hown
          go_wp2_with (first | (refine wpList_load_blk rfl rfl rfl rowCh hO rfl ?_) | (refine wpList_store_blk (C' := #[.slice (some ⟨r.g, 0, none⟩) (picks r.s m).length r.cap, .int .i64 (sumOf Q (picks r.s m))]) rfl rfl rfl rfl rowCh hR9 rfl rfl (by intro q hq; simp at hq; rcases hq with rfl | rfl <;> rfl) ?_))
          refine bodyPost_row2 rfl rfl rowCh (hR9.setRow _) rfl rfl ?_
          obtain ⟨z1, z2, z3⟩ := HZ.out
          rw [← hbk.out] at z1 z2
          subst z1; subst z2; subst z3
          have hbe := hbel5.trans (hbz.mono lz)
          refine ⟨_, rfl, .inr ⟨r.g, r.cap, rfl, hown.grown (row_grown _ _ _) (fun e => by injection e with e; exact own_ne hR9 hown (by decide) e), hlx.2⟩, hbe.grown (row_grown _ _ _) hbe.size (fun k e => by injection e; omega)⟩
end Go.Proofs.YtokdpmpgonafmaaGreat
/- FewestRefused and MostWater, in the program. -/
namespace Go.Proofs.YtokdpmpgonafmaaGreat
open Go.ChangeShapes Go.WideShapes Go.ChangeAt Go.RowKit
set_option linter.unusedVariables false
set_option linter.unusedSimpArgs false
attribute [local irreducible] Calls
theorem VLc.rs {w : World} {B : Nat} {v : Value} {L : List Nat} (h : VLc w B v L) : ∃ r, B ≤ r ∧ Rs 2 w r v L.length (ils L) := by
  rcases h with ⟨rfl, rfl⟩ | ⟨g, c, rfl, h2, h3⟩
  · exact ⟨B, Nat.le_refl _, .inl ⟨rfl, _, _, rfl, by decide⟩⟩
  · exact ⟨g, h3, .inr h2⟩
theorem VLc.below {w w' : World} {B B' : Nat} {v : Value} {L : List Nat} (h : VLc w B v L) (hb : Below B' w w') (hB : w.heap.size ≤ B') : VLc w' B v L := by
  rcases h with h | ⟨g, c, h1, h2, h3⟩
  · exact .inl h
  · exact .inr ⟨g, c, h1, h2.below hb (by have := h2.lt; omega), h3⟩
theorem VLc.form {w : World} {B : Nat} {v : Value} {L : List Nat} (h : VLc w B v L) : ∃ a c, v = .slice a L.length c := by
  rcases h with ⟨rfl, rfl⟩ | ⟨g, c, rfl, _⟩
  · exact ⟨_, _, rfl⟩
  · exact ⟨_, _, rfl⟩
theorem VLc.mono {w : World} {B B' : Nat} {v : Value} {L : List Nat} (h : VLc w B v L) (hB : B' ≤ B) : VLc w B' v L := by
  rcases h with h | ⟨g, c, h1, h2, h3⟩
  · exact .inl h
  · exact .inr ⟨g, c, h1, h2, Nat.le_trans hB h3⟩
set_option maxRecDepth 100000 in
set_option maxHeartbeats 400000 in
theorem fewestRefused_any (g : Gr) (v u : Value) (n m : Nat) (P : Nat → Wt) (Q : Nat → Pm) (hg : g.ok) (hP : ∀ i, i < n → (P i).ok) (hQ : ∀ i, i < m → (Q i).ok) (w : World) (hv : WSl w v n P) (hu : PSl w u m Q) :
    Calls Tryz.prog 11 #[.agg (ofc g v), u] w fun e w' => ∃ x r, e = .returned (.tuple #[x, .int .i64 (bsT (fewGt m) g n P m Q).2.2]) ∧ w.heap.size ≤ r ∧ Rs 2 w' r x (bsT (fewGt m) g n P m Q).1.length (ils (bsT (fewGt m) g n P m Q).1) ∧ Below w.heap.size w w' := by
  obtain ⟨a, c, rfl, hform⟩ := id hu
  clear hform
  generalize hT : bsT (fewGt m) g n P m Q = T
  go_enter Tryz.func11, Tryz.ntmps11
  go_upto_region 1 with (refine wpList_box_as rfl rfl rfl ?_)
  have hA := Blk.new w (ofc g v) 42
  have hbel := below1 w (.cells (ofc g v) 42)
  generalize w.alloc (.cells (ofc g v) 42) = W at *
  have lA := hA.lt
  have hbt := best_any (fewGt m) (few_weak m) _ callFew g w.heap.size v (.slice a m c) n m P Q hg hP hQ (fun x y w' => fewC_any _ _ _ _ _ _ _ _ w') W hA (hv.below hbel) (hu.below hbel)
  rw [hT] at hbt
  clear hT
  clear hu hv
  go_wp2_with (go_at_call 39; refine hbt.mono ?_; rintro e w2 ⟨x, rfl, hx, hb2⟩; obtain ⟨ax, cx, rfl⟩ := hx.form)
  go_ret2
  obtain ⟨r, h1, h2⟩ := (hx.below (below1 w2 _) (Nat.le_refl _)).rs
  exact ⟨_, r, rfl, Nat.le_trans hbel.size h1, h2, (hbel.trans (hb2.mono hbel.size)).alloc (hbel.trans (hb2.mono hbel.size)).size _⟩
set_option maxRecDepth 100000 in
set_option maxHeartbeats 400000 in
theorem mostWater_any (g : Gr) (v u : Value) (n m : Nat) (P : Nat → Wt) (Q : Nat → Pm) (hg : g.ok) (hP : ∀ i, i < n → (P i).ok) (hQ : ∀ i, i < m → (Q i).ok) (w : World) (hv : WSl w v n P) (hu : PSl w u m Q) :
    Calls Tryz.prog 20 #[.agg (ofc g v), u] w fun e w' => ∃ x r, e = .returned (.tuple #[x, .int .i64 (bsT (watGt m Q) g n P m Q).2.1, .int .i64 (bsT (watGt m Q) g n P m Q).2.2]) ∧ w.heap.size ≤ r ∧ Rs 2 w' r x (bsT (watGt m Q) g n P m Q).1.length (ils (bsT (watGt m Q) g n P m Q).1) ∧ Below w.heap.size w w' := by
  obtain ⟨a, c, rfl, hform⟩ := id hu
  clear hform
  generalize hT : bsT (watGt m Q) g n P m Q = T
  go_enter Tryz.func20, Tryz.ntmps20
  go_upto_region 1 with (refine wpList_box_as rfl rfl rfl ?_)
  have hA := Blk.new w (ofc g v) 42
  have hbel := below1 w (.cells (ofc g v) 42)
  generalize w.alloc (.cells (ofc g v) 42) = W at *
  have lA := hA.lt
  have hbt := best_any (watGt m Q) (wat_weak m Q) _ callWat g w.heap.size v (.slice a m c) n m P Q hg hP hQ (fun x y w' => watC_any _ _ _ _ _ _ _ _ w') W hA (hv.below hbel) (hu.below hbel)
  rw [hT] at hbt
  clear hT
  clear hu hv
  go_upto_region 2 with (go_at_call 39; refine hbt.mono ?_; rintro e w2 ⟨x, rfl, hx, hb2⟩; obtain ⟨ax, cx, rfl⟩ := hx.form)
  have hx := hx.below (below1 w2 (.cells #[.slice ax T.1.length cx, .int .i64 T.2.1] 81)) (Nat.le_refl _)
  have hB := Blk.new w2 #[.slice ax T.1.length cx, .int .i64 T.2.1] 81
  have hbel2 := hbel.trans (hb2.mono hbel.size)
  have hbel3 := hbel2.alloc hbel2.size (.cells #[.slice ax T.1.length cx, .int .i64 T.2.1] 81)
  generalize w2.alloc (.cells #[.slice ax T.1.length cx, .int .i64 T.2.1] 81) = W3 at *
  have e0 : W3.cell? ⟨w2.heap.size, 0, none⟩ = some (.slice ax T.1.length cx) := hB.cell 0
  have e1 : W3.cell? ⟨w2.heap.size, 1, none⟩ = some (.int .i64 T.2.1) := hB.cell 1
  go_quiet (fail)
  go_wp2_with fail
  go_ret3
  have hbq := below_drewN (Below.refl W3.heap.size W3) nq
  obtain ⟨r, h1, h2⟩ := (hx.below hbq (Nat.le_refl _)).rs
  exact ⟨_, r, rfl, Nat.le_trans hbel.size h1, h2, below_drewN hbel3 _⟩
end Go.Proofs.YtokdpmpgonafmaaGreat
/- Lists of numbers of one length compared, in the reference (l07First). -/
namespace Go.Proofs.YtokdpmpgonafmaaGreat
open Go.ChangeShapes Go.WideShapes Go.ChangeAt Go.RowKit
set_option linter.unusedVariables false
set_option linter.unusedSimpArgs false
attribute [local irreducible] Calls
theorem drewN_two (w : World) (a b : Nat) : (w.drewN a).drewN b = w.drewN (a + b) := by simp [World.drewN]; omega
theorem VL.cells {w : World} {v : Value} {L : List Nat} (h : VL w v L) : ∃ a c, v = .slice a L.length c ∧ (L = [] ∨ ∃ g, a = some ⟨g, 0, none⟩ ∧ NumsAt w g L) := by
  rcases h with ⟨rfl, rfl⟩ | ⟨g, c, rfl, ho⟩
  · exact ⟨_, _, rfl, .inl rfl⟩
  · exact ⟨_, _, rfl, .inr ⟨g, rfl, fun j k hj => by
      have hlt : j < L.length := by
        rcases Nat.lt_or_ge j L.length with h | h
        · exact h
        · rw [List.getElem?_eq_none h] at hj; cases hj
      rw [ho.cell j (by omega), ils_get L j k hj]⟩⟩
set_option maxRecDepth 100000 in
set_option maxHeartbeats 400000 in
theorem l07First_any (L M : List Nat) (v u : Value) (hl : L.length = M.length) (h64 : L.length ≤ 64) (w : World) (hv : VL w v L) (hu : VL w u M) :
    Calls Tryz.prog 35 #[v, u] w fun e w' => e = .returned (.bool (decide (cmpL L M < 0))) ∧ ∃ q, w' = w.drewN q := by
  obtain ⟨a1, c1, rfl, h1⟩ := hv.cells
  obtain ⟨a2, c2, rfl, h2⟩ := hu.cells
  obtain ⟨V, hV⟩ : ∃ V, V = decide (cmpL L M < 0) := ⟨_, rfl⟩
  rw [← hV]
  have HV := Lib.hid hV
  have H1 := Lib.hid h1
  have H2 := Lib.hid h2
  have HL := Lib.hid hl
  clear hV h1 h2 hv hu
  obtain ⟨N, hN⟩ : ∃ N, N = L.length := ⟨_, rfl⟩
  rw [← hl, ← hN]
  rw [← hN] at h64
  have HN := Lib.hid hN
  clear hN hl
  go_enter Tryz.func35, Tryz.ntmps35
  go_upto_region 2 with fail
  go_loopw [5] (fun i wr => ∃ j q : Nat, j ≤ N ∧ i = .int .i64 j ∧ Hid (cmpL L M = cmpL (L.drop j) (M.drop j)) ∧ wr = w.drewN q) (fun i _ => N - (intOf i).toNat)
  case atStart => exact ⟨0, 0, by omega, rfl, Lib.hid rfl, rfl⟩
  case round =>
    obtain ⟨j, q, hj, rfl, hq, rfl⟩ := hrel
    by_cases hlt : j < N
    · obtain ⟨x, hx⟩ : ∃ x, L[j]? = some x := ⟨_, List.getElem?_eq_getElem (by have := HN.out; omega)⟩
      obtain ⟨y, hy⟩ : ∃ y, M[j]? = some y := ⟨_, List.getElem?_eq_getElem (by have := HN.out; have := HL.out; omega)⟩
      have hLne : L ≠ [] := by intro e; rw [e] at hx; simp at hx
      have hMne : M ≠ [] := by intro e; rw [e] at hy; simp at hy
      obtain ⟨g1, rfl, n1⟩ := H1.out.resolve_left hLne
      obtain ⟨g2, rfl, n2⟩ := H2.out.resolve_left hMne
      obtain ⟨wo, hwo⟩ : ∃ wo, wo = w.drewN q := ⟨_, rfl⟩
      have e1 : wo.cell? ⟨g1, j, none⟩ = some (.int .i64 x) := by rw [hwo]; exact n1 j x hx
      have e2 : wo.cell? ⟨g2, j, none⟩ = some (.int .i64 y) := by rw [hwo]; exact n2 j y hy
      rw [← hwo]
      have HW := Lib.hid hwo
      clear hwo
      have HC := Lib.hid (cmpL_drop hx hy)
      have bj : (0 : Int) ≤ j := by omega
      have bl : (j : Int) < N := by omega
      clear hx hy hLne hMne n1 n2
      go_upto_region 4 with fail
      go_quiet (fail)
      by_cases hxy : x = y
      · subst hxy
        have hne : (((x : Int)) != (x : Int)) = false := by simp
        go_wp2_with fail
        go_roundw
        case rel => exact ⟨j + 1, _, by omega, by go_num, Lib.hid (by rw [hq.out, HC.out, if_neg (Nat.lt_irrefl _), if_neg (Nat.lt_irrefl _)]), by rw [HW.out, drewN_two]⟩
        case measure => simp [intOf]; omega
      · have hne : (((x : Int)) != (y : Int)) = true := by simp; omega
        have HV2 : Hid (V = decide (x < y)) := Lib.hid (by
          rw [HV.out, hq.out, HC.out]
          by_cases h : x < y
          · simp [h]
          · rw [if_neg h, if_pos (by omega)]; simp [h])
        clear HC HV
        go_wp2_with fail
        go_quiet (fail)
        go_wp2_with fail
        go_ret
        exact ⟨by rw [HV2.out]; rfl, _, by rw [HW.out, drewN_two, drewN_two]⟩
    · obtain rfl : j = N := by omega
      go_wp2_with fail
      go_ret
      refine ⟨?_, _, rfl⟩
      have e : cmpL (L.drop j) (M.drop j) = 0 := by rw [List.drop_eq_nil_of_le (by have := HN.out; omega), List.drop_eq_nil_of_le (by have := HN.out; have := HL.out; omega)]; rfl
      rw [HV.out, hq.out, e]
      rfl
end Go.Proofs.YtokdpmpgonafmaaGreat
