import Derived.Test.YtglimhkpndfjgaaMT27
import Derived.Test.YtglimhkpndfjgaaMT28
/- Fits: the program's best guess, fits within a bound, their span, the rounds of a fit. -/
namespace Go.Proofs.Ytglimhkpndfjgaa
open Go.ChangeShapes Go.WideShapes Go.ChangeAt Go.RowKit
set_option linter.unusedVariables false
set_option linter.unusedSimpArgs false
attribute [local irreducible] Calls
theorem mfL_fin {n : Nat} {P : Nat → Aqf} (hP : ∀ i, i < n → AqD (P i).T (P i).S) {s : Si} (hs : SiD s) {m : Nat} {R : Nat → Rg} (hR : RdD m R) : ∀ i, i < n → mfL s R m P i < 2139095040 := fun i hi => (mfX_in (hP i hi).aq hs hR.each hR.le).1
set_option maxRecDepth 100000 in
set_option maxHeartbeats 8000000 in
theorem bestGuess_any (n : Nat) (hn : 1 ≤ n ∧ n ≤ 20) (P : Nat → Aqf) (hP : ∀ i, i < n → AqD (P i).T (P i).S) (s : Si) (hs : SiD s) (m : Nat) (R : Nat → Rg) (hR : RdD m R) (u v : Value) (w : World) (hu : QSl w u n P) (hv : RSl w v m R) :
    Calls Try.prog 16 #[u, .agg s.cells, v] w fun e w' => e = .returned (.tuple #[.int .i64 (lsTo (mfL s R m P) n : Nat), .float .f32 (mfL s R m P (lsTo (mfL s R m P) n)), .int .i64 0]) ∧ Below w.heap.size w w' := by
  have q1 := fun w' (hu : QSl w' u n P) (hv : RSl w' v m R) => misfits_any n hn P hP s hs m R hR u v w' hu hv
  have hfin := mfL_fin hP hs hR
  rw [s.cells_eq] at q1 ⊢
  have hb := below1 w (.cells #[.int .i8 s.px, .int .i8 s.py, .float .f32 s.rt, .int .i8 s.x, .int .i8 s.y] 32)
  have hu := hu.below hb
  have hv := hv.below hb
  have hB := Blk.new w #[.int .i8 s.px, .int .i8 s.py, .float .f32 s.rt, .int .i8 s.x, .int .i8 s.y] 32
  generalize mfL s R m P = E at *
  have q2 := fun g v w' hO => slmin_any n hn E hfin g v w' hO
  have q3 := fun g v w' hO => slIndex_any n hn.2 E hfin (lsTo E n) (lsTo_lt E n (by omega)) (lsTo_first E n) g v w' hO
  rw [mnTo_is E n (by omega)] at q2
  have hlt := lsTo_lt E n (by omega)
  clear hs hR hP hfin
  generalize lsTo E n = j at *
  have bb : (0 : Int) ≤ j := by omega
  have bbl : (j : Int) < n := by omega
  go_enter Try.func16, Try.ntmps16
  go_upto_region 1 with fail
  generalize w.alloc (.cells #[.int .i8 s.px, .int .i8 s.py, .float .f32 s.rt, .int .i8 s.x, .int .i8 s.y] 32) = W at *
  go_upto_region 4 with (first | (refine wpList_load_blk rfl rfl rfl rowSi hB rfl ?_) | (go_at_call 44; refine (q1 _ hu hv).mono ?_; rintro e w1 ⟨v9, g, rfl, hg, hO, hb1⟩))
  have hb2 := hb.trans (hb1.mono hb.size)
  have q2 := q2 g _ w1 hO
  have q3 := q3 g _ w1 hO
  obtain ⟨c, rfl, hc1, hc2⟩ := hO.form
  have e0 : w1.cell? ⟨g, j, none⟩ = some (.float .f32 (E j)) := (hO.cell j (by omega)).trans (fls_get n E j hlt)
  clear q1 hu hv hB hb hb1 hO
  go_upto_region 5 with (first | (go_at_call 46; refine q2.mono ?_; rintro e w' ⟨rfl, hw⟩; rw [hw]; clear hw w') | (go_at_call 45; refine q3.mono ?_; rintro e w' ⟨rfl, hw⟩; rw [hw]; clear hw w'))
  clear q2 q3
  go_quiet (fail)
  go_wp2_with fail
  go_ret3
  exact ⟨rfl, below_drewN hb2 _⟩
set_option maxRecDepth 100000 in
set_option maxHeartbeats 8000000 in
theorem fitsWithin_any (n : Nat) (hn : 1 ≤ n ∧ n ≤ 20) (P : Nat → Aqf) (hP : ∀ i, i < n → AqD (P i).T (P i).S) (s : Si) (hs : SiD s) (m : Nat) (R : Nat → Rg) (hR : RdD m R) (bd : Nat) (u v : Value) (w : World) (hu : QSl w u n P) (hv : RSl w v m R) :
    Calls Try.prog 19 #[u, .agg s.cells, v, .float .f32 bd] w (GaveWt w (mfL s R m P) bd n) := by
  have q1 := fun w' (hu : QSl w' u n P) (hv : RSl w' v m R) => misfits_any n hn P hP s hs m R hR u v w' hu hv
  rw [s.cells_eq] at q1 ⊢
  have hb := below1 w (.cells #[.int .i8 s.px, .int .i8 s.py, .float .f32 s.rt, .int .i8 s.x, .int .i8 s.y] 32)
  have hu := hu.below hb
  have hv := hv.below hb
  have hB := Blk.new w #[.int .i8 s.px, .int .i8 s.py, .float .f32 s.rt, .int .i8 s.x, .int .i8 s.y] 32
  generalize mfL s R m P = E at *
  obtain ⟨n1, n2⟩ := hn
  clear hs hR hP
  go_enter Try.func19, Try.ntmps19
  go_upto_region 1 with fail
  generalize w.alloc (.cells #[.int .i8 s.px, .int .i8 s.py, .float .f32 s.rt, .int .i8 s.x, .int .i8 s.y] 32) = W at *
  go_upto_region 4 with (first | (refine wpList_load_blk rfl rfl rfl rowSi hB rfl ?_) | (go_at_call 44; refine (q1 _ hu hv).mono ?_; rintro e w1 ⟨v9, g, rfl, hg, hO, hb1⟩))
  have hb2 := hb.trans (hb1.mono hb.size)
  obtain ⟨c, rfl, hc1, hc2⟩ := hO.form
  unfold maxLen at hc2
  have sw := hb2.size
  have lg : w.heap.size ≤ g := by have := hb.size; omega
  clear q1 hu hv hB hb hb1
  go_upto_region 5 with fail
  have hG : Own (w1.alloc (.cells #[] 2)) w1.heap.size 2 1 (.slice (some ⟨w1.heap.size, 0, none⟩) 0 0) (wtTo E bd 0).length (mts (wtTo E bd 0).length (wtI E bd 0)) := own_blk (Blk.new _ _ _) rfl (by decide) (by show _ = mts 0 _; rw [mts_zero])
  have hO1 := hO.alloc (.cells #[] 2)
  have hb3 := hb2.alloc sw (.cells #[] 2)
  have lO := hO.lt
  generalize w1.alloc (.cells #[] 2) = W2 at *
  obtain ⟨g0, hg0⟩ : ∃ g, w1.heap.size = g := ⟨_, rfl⟩
  rw [hg0] at hG lO ⊢
  clear hO hb2
  go_wp2_with fail
  go_loopw [12, 13, 14, 28] (fun y _ _ i wr => ∃ (k gb : Nat), k ≤ n ∧ i = .int .i64 k ∧ Own wr gb 2 1 y (wtTo E bd k).length (mts (wtTo E bd k).length (wtI E bd k)) ∧ g0 ≤ gb ∧ Own wr g 24 1 (.slice (some ⟨g, 0, none⟩) n c) n (fls n E) ∧ Below w.heap.size w wr) (fun _ _ _ i _ => n - (intOf i).toNat)
  case atStart => exact ⟨0, g0, by omega, rfl, hG, Nat.le_refl _, hO1, hb3⟩
  case round =>
    clear hG hO1 hb3
    obtain ⟨k, gb, hk, rfl, hG, hgb, hO, hbs⟩ := hrel
    have bk : (0 : Int) ≤ k := by omega
    by_cases hlt : k < n
    · have bl : (k : Int) < n := by omega
      have z1 : wr.cell? ⟨g, k, none⟩ = some (.float .f32 (E k)) := (hO.cell k (by omega)).trans (fls_get n E k hlt)
      have sr := hbs.size
      have lG := hG.lt
      have hlen := wtTo_len E bd k
      obtain ⟨s1, s2⟩ := wt_mts E bd k
      obtain ⟨cap, rfl, hcap, hcapm⟩ := hG.form
      unfold maxLen at hcapm
      have ht := fle_eq (E k) bd
      cases hq : fle (E k) bd
      · have HST := Lib.hid (s2 hq)
        rw [hq] at ht
        clear s1 s2 hq
        go_wp2_with fail
        go_roundw
        case rel => exact ⟨k + 1, gb, by omega, by go_num, by rw [HST.out.1, HST.out.2]; exact hG, hgb, hO, hbs⟩
        case measure => simp [intOf]; omega
      · have HST := Lib.hid (s1 hq)
        rw [hq] at ht
        clear s1 s2 hq
        go_wp2_with (at_builtin; refine wpList_app elI64T rfl rfl rfl rfl (by decide) (hG.alloc _) (Blk.new _ _ _) rfl ?_ ?_ ?_ ?_; (· intro u hu; simp at hu; subst hu; rfl); (· unfold maxLen; omega); (· omega); intro v1 w7 g2 hown1 hgr1 hg1)
        go_roundw
        case rel =>
          refine ⟨k + 1, g2, by omega, by go_num, ?_, ?_, ?_, ?_⟩
          · rw [HST.out.1, HST.out.2]; exact hown1
          · rcases hg1 with h | h
            · omega
            · rw [h]; simp; omega
          · exact (hO.alloc _).grown hgr1 (fun e => by injection e; omega)
          · exact (hbs.alloc (by omega) _).grown hgr1 (by simp; omega) (fun k e => by injection e; omega)
        case measure => simp [intOf]; omega
    · obtain rfl : k = n := by omega
      go_wp2_with fail
      go_ret2
      exact ⟨_, gb, rfl, by omega, hG, hbs⟩
/-- The Transmit of each of those within a bound. -/
def wtT (F : Nat → Nat) (bd n : Nat) (P : Nat → Aqf) (i : Nat) : Nat := (P ((wtTo F bd n).getD i 0)).T
theorem wt_lt (F : Nat → Nat) (bd : Nat) : ∀ n, ∀ i ∈ wtTo F bd n, i < n
  | 0, i, h => by cases h
  | n + 1, i, h => by
    unfold wtTo at h
    split at h
    · rcases List.mem_append.1 h with h | h
      · have := wt_lt F bd n i h; omega
      · have : i = n := by simpa using h
        omega
    · have := wt_lt F bd n i h; omega
theorem wt_get (F : Nat → Nat) (bd n i : Nat) (h : i < (wtTo F bd n).length) : (wtTo F bd n).getD i 0 < n := by
  have : (wtTo F bd n).getD i 0 ∈ wtTo F bd n := by
    simp only [List.getD, List.getElem?_eq_getElem h, Option.getD_some]
    exact List.getElem_mem h
  exact wt_lt F bd n _ this
/-- What TransmitSpan gives. -/
def spanR (F : Nat → Nat) (bd n : Nat) (P : Nat → Aqf) : Value := if (wtTo F bd n).length = 0 then .tuple #[.float .f32 0, .float .f32 0, .int .i64 6] else .tuple #[.float .f32 (mnTo (wtT F bd n P) (wtTo F bd n).length), .float .f32 (mxTo (wtT F bd n P) (wtTo F bd n).length), .int .i64 0]
set_option maxRecDepth 100000 in
set_option maxHeartbeats 8000000 in
theorem transmitSpan_any (n : Nat) (hn : 1 ≤ n ∧ n ≤ 20) (P : Nat → Aqf) (hP : ∀ i, i < n → AqD (P i).T (P i).S) (s : Si) (hs : SiD s) (m : Nat) (R : Nat → Rg) (hR : RdD m R) (bd : Nat) (u v : Value) (w : World) (hu : QSl w u n P) (hv : RSl w v m R) :
    Calls Try.prog 21 #[u, .agg s.cells, v, .float .f32 bd] w fun e w' => e = .returned (spanR (mfL s R m P) bd n P) ∧ Below w.heap.size w w' := by
  have q1 := fun w' (hu : QSl w' u n P) (hv : RSl w' v m R) => fitsWithin_any n hn P hP s hs m R hR bd u v w' hu hv
  rw [s.cells_eq] at q1 ⊢
  have hb := below1 w (.cells #[.int .i8 s.px, .int .i8 s.py, .float .f32 s.rt, .int .i8 s.x, .int .i8 s.y] 32)
  have hu := hu.below hb
  have hv := hv.below hb
  have hB := Blk.new w #[.int .i8 s.px, .int .i8 s.py, .float .f32 s.rt, .int .i8 s.x, .int .i8 s.y] 32
  generalize mfL s R m P = E at *
  have hTf : ∀ i, i < n → (P i).T < 2139095040 := fun i hi => (hP i hi).aq.t.hi (by omega)
  obtain ⟨n1, n2⟩ := hn
  clear hs hR hP
  have hlen := wtTo_len E bd n
  have hget := wt_get E bd n
  have hmn := fun (h : 1 ≤ (wtTo E bd n).length) g v w' hO => slmin_any (wtTo E bd n).length ⟨h, by omega⟩ (wtT E bd n P) (fun i hi => hTf _ (hget i hi)) g v w' hO
  have hmx := fun (h : 1 ≤ (wtTo E bd n).length) g v w' hO => slmax_any (wtTo E bd n).length ⟨h, by omega⟩ (wtT E bd n P) (fun i hi => hTf _ (hget i hi)) g v w' hO
  have hwI : ∀ i, wtI E bd n i = (((wtTo E bd n).getD i 0 : Nat) : Int) := fun i => rfl
  have hwT : ∀ i, wtT E bd n P i = (P ((wtTo E bd n).getD i 0)).T := fun i => rfl
  unfold spanR
  unfold GaveWt at q1
  generalize wtT E bd n P = D at *
  generalize wtI E bd n = I at *
  generalize (wtTo E bd n).length = l at *
  generalize mnTo D l = LO at *
  generalize mxTo D l = HI2 at *
  obtain ⟨V, hV⟩ : ∃ V, (if l = 0 then Value.tuple #[.float .f32 0, .float .f32 0, .int .i64 6] else .tuple #[.float .f32 LO, .float .f32 HI2, .int .i64 0]) = V := ⟨_, rfl⟩
  rw [hV]
  have HV := Lib.hid hV.symm
  clear hV
  have HG := Lib.hid hget
  have HI := Lib.hid hwI
  have HT := Lib.hid hwT
  have HMN := Lib.hid hmn
  have HMX := Lib.hid hmx
  clear hget hwI hwT hmn hmx hTf
  go_enter Try.func21, Try.ntmps21
  go_upto_region 1 with fail
  generalize w.alloc (.cells #[.int .i8 s.px, .int .i8 s.py, .float .f32 s.rt, .int .i8 s.x, .int .i8 s.y] 32) = W at *
  go_upto_region 2 with (first | (refine wpList_load_blk rfl rfl rfl rowSi hB rfl ?_) | (go_at_call 19; refine (q1 _ hu hv).mono ?_; rintro e w1 ⟨v11, g, rfl, hg, hO, hb1⟩))
  have hb2 := hb.trans (hb1.mono hb.size)
  have hu2 := hu.below hb1
  obtain ⟨c, rfl, hc1, hc2⟩ := hO.form
  unfold maxLen at hc2
  have sw := hb2.size
  have lg : w.heap.size ≤ g := by have := hb.size; omega
  clear q1 hu hv hB hb hb1
  by_cases h0 : l = 0
  · have HR := Lib.hid (HV.out.trans (if_pos h0))
    have hnb : ((l : Int) == 0) = true := by rw [h0]; rfl
    have H0 := Lib.hid h0
    clear h0
    go_wp2_with fail
    go_ret3
    exact ⟨by rw [HR.out]; rfl, hb2⟩
  · have HR := Lib.hid (HV.out.trans (if_neg h0))
    have hnb : ((l : Int) == 0) = false := by rw [beq_eq_false_iff_ne]; omega
    have hmn := HMN.out (by omega)
    have hmx := HMX.out (by omega)
    clear h0
    obtain ⟨a, c2, rfl, hd1, hd2, hcell⟩ := hu2
    unfold maxLen at hd2
    obtain ⟨b, o, rfl, hbl, hcell⟩ := hcell.resolve_left (by omega)
    have HC := Lib.hid hcell
    have HMN2 := Lib.hid hmn
    have HMX2 := Lib.hid hmx
    clear hcell hmn hmx HMN HMX
    go_upto_region 7 with fail
    have hG : Own (w1.alloc (.cells #[] 24)) w1.heap.size 24 1 (.slice (some ⟨w1.heap.size, 0, none⟩) 0 0) 0 (fls 0 D) := own_blk (Blk.new _ _ _) rfl (by decide) (by rw [fls_zero])
    have hO1 := hO.alloc (.cells #[] 24)
    have hb3 := hb2.alloc sw (.cells #[] 24)
    have hW2 := below1 w1 (.cells #[] 24)
    have lO := hO.lt
    generalize w1.alloc (.cells #[] 24) = W2 at *
    obtain ⟨g0, hg0⟩ : ∃ g, w1.heap.size = g := ⟨_, rfl⟩
    rw [hg0] at hG lO ⊢
    clear hO hb2
    go_wp2_with fail
    go_loopw [13, 15, 35] (fun y _ i wr => ∃ (k gb : Nat), k ≤ l ∧ i = .int .i64 k ∧ Own wr gb 24 1 y k (fls k D) ∧ g0 ≤ gb ∧ Own wr g 2 1 (.slice (some ⟨g, 0, none⟩) l c) l (mts l I) ∧ Below w.heap.size w wr ∧ Below w1.heap.size w1 wr) (fun _ _ i _ => l - (intOf i).toNat)
    case atStart => exact ⟨0, g0, by omega, rfl, hG, Nat.le_refl _, hO1, hb3, hW2⟩
    case round =>
      clear hG hO1 hb3 hW2
      obtain ⟨k, gb, hk, rfl, hG, hgb, hO, hbs, hbW⟩ := hrel
      have bk : (0 : Int) ≤ k := by omega
      by_cases hlt : k < l
      · have bl : (k : Int) < l := by omega
        have hgk := HG.out k hlt
        have z1 : wr.cell? ⟨g, k, none⟩ = some (.int .i64 ((wtTo E bd n).getD k 0 : Nat)) := by
          rw [hO.cell k (by omega), mts_get _ _ _ hlt, HI.out]
        have hDk := HT.out k
        generalize (wtTo E bd n).getD k 0 = q at *
        have bq : (0 : Int) ≤ q := by omega
        have bqn : (q : Int) < n := by omega
        have y0 : wr.cell? ⟨b, o + q * 2, none⟩ = some (.float .f32 (D k)) := by
          rw [hDk]; exact (hbW.cell (p := ⟨b, _, none⟩) hbl).trans ((HC.out q 0 hgk (by omega)).trans (P q).get0)
        have sr := hbs.size
        have sW := hbW.size
        have lG := hG.lt
        obtain ⟨cap, rfl, hcap, hcapm⟩ := hG.form
        unfold maxLen at hcapm
        clear hDk
        go_wp2_with (at_builtin; refine wpList_app elFW rfl rfl rfl rfl (by decide) (hG.alloc _) (Blk.new _ _ _) rfl ?_ ?_ ?_ ?_; (· intro u hu; simp at hu; subst hu; rfl); (· unfold maxLen; omega); (· omega); intro v1 w7 g2 hown1 hgr1 hg1)
        go_roundw
        case rel =>
          refine ⟨k + 1, g2, by omega, by go_num, ?_, ?_, ?_, ?_, ?_⟩
          · rw [fls_succ]; exact hown1
          · rcases hg1 with h | h
            · omega
            · rw [h]; simp; omega
          · exact (hO.alloc _).grown hgr1 (fun e => by injection e; omega)
          · exact (hbs.alloc (by omega) _).grown hgr1 (by simp; omega) (fun k e => by injection e; omega)
          · exact (hbW.alloc (by omega) _).grown hgr1 (by simp; omega) (fun k e => by injection e; omega)
        case measure => simp [intOf]; omega
      · obtain rfl : k = l := by omega
        have hmn := HMN2.out gb _ wr hG
        have hmx := HMX2.out gb _ wr hG
        go_wp2_with (first | (go_at_call 46; refine hmn.mono ?_; rintro e w' ⟨rfl, hw⟩; rw [hw]; clear hw w') | (go_at_call 48; refine hmx.mono ?_; rintro e w' ⟨rfl, hw⟩; rw [hw]; clear hw w'))
        go_ret3
        exact ⟨by rw [HR.out]; rfl, hbs⟩
/-- What better holds of the first k that are tried. -/
def btV (M : Nat → Nat → Nat) (T S k : Nat) : Nat × Nat × Nat × Bool := match btTo M T S k with
  | none => (0, 0, 0, false)
  | some b => (b.1, b.2.1, b.2.2, true)
theorem btV_step (M : Nat → Nat → Nat) (T S k : Nat) : btV M T S (k + 1) = if aqOk (trT T k) (trS S k) = true then (if (btV M T S k).2.2.2 = false ∨ M (trT T k) (trS S k) < (btV M T S k).2.2.1 then (trT T k, trS S k, M (trT T k) (trS S k), true) else btV M T S k) else btV M T S k := by
  unfold btV
  by_cases h : aqOk (trT T k) (trS S k) = true
  · rw [if_pos h]
    have e : btTo M T S (k + 1) = match btTo M T S k with
      | none => some (trT T k, trS S k, M (trT T k) (trS S k))
      | some b => if M (trT T k) (trS S k) < b.2.2 then some (trT T k, trS S k, M (trT T k) (trS S k)) else some b := by
      show (if aqOk (trT T k) (trS S k) = true then _ else _) = _
      rw [if_pos h]; rfl
    rw [e]
    cases btTo M T S k with
    | none => simp
    | some b =>
      by_cases h2 : M (trT T k) (trS S k) < b.2.2
      · simp [h2]
      · simp [h2]
  · rw [if_neg h]
    have e : btTo M T S (k + 1) = btTo M T S k := by
      show (if aqOk (trT T k) (trS S k) = true then _ else _) = _
      rw [if_neg h]
    rw [e]
theorem zeroAqL : ZeroTy Try.prog 26 #[.float .f32 0, .float .f32 0] := by unfold ZeroTy; kernel_rfl
set_option maxRecDepth 100000 in
set_option maxHeartbeats 400000 in
theorem validAquifer_gen (T S : Nat) (w : World) :
    Calls Try.prog 15 #[.agg #[.float .f32 T, .float .f32 S]] w fun e w' => e = .returned (.bool (aqOk T S)) ∧ Below w.heap.size w w' := by
  have t1 := fge_eq T 981467136
  have t2 := fle_eq T 1233125376
  have t3 := fge_eq S 897581056
  have t4 := fle_eq S 1065353216
  unfold aqOk
  generalize fge T 981467136 = a1 at *
  generalize fle T 1233125376 = a2 at *
  generalize fge S 897581056 = a3 at *
  generalize fle S 1065353216 = a4 at *
  cases a1 <;> cases a2 <;> cases a3 <;> cases a4
  all_goals (
    go_enter Try.func15, Try.ntmps15
    go_wp2_with fail
    go_ret
    exact ⟨rfl, below1 _ _⟩)
set_option maxRecDepth 100000 in
set_option maxHeartbeats 8000000 in
theorem better_any (T S : Nat) (hA : Aq T S) (s : Si) (hs : SiD s) (n : Nat) (R : Nat → Rg) (hR : RdD n R) (mf : Nat) (hmf : mf < 2139095040) (bs : Nat) (v : Value) (w : World) (hB : Blk w bs #[.int .i8 s.px, .int .i8 s.py, .float .f32 s.rt, .int .i8 s.x, .int .i8 s.y] 32) (hv : RSl w v n R) :
    Calls Try.prog 40 #[.pointer (some ⟨bs, 0, none⟩), .agg #[.float .f32 T, .float .f32 S], .float .f32 mf, v] w fun e w' => e = .returned (.tuple #[.agg #[.float .f32 (btV (mfX s R n) T S 4).1, .float .f32 (btV (mfX s R n) T S 4).2.1], .float .f32 (btV (mfX s R n) T S 4).2.2.1, .bool ((btV (mfX s R n) T S 4).2.2.2 && decide ((btV (mfX s R n) T S 4).2.2.1 < mf))]) ∧ Below w.heap.size w w' := by
  obtain ⟨⟨c0, r0⟩, ⟨c1, r1⟩, ⟨c2, r2⟩, c3, r3⟩ := tr_ops hA
  have hok := fun i w' => validAquifer_gen (trT T i) (trS S i) w'
  have hmi := fun i (h : aqOk (trT T i) (trS S i) = true) w' hB hv => misfit_any (trT T i) (trS S i) (tr_aq hA h).aq s hs n hR.le R hR.each bs v w' hB hv
  have hfin := fun i (h : aqOk (trT T i) (trS S i) = true) => (mfX_in (tr_aq hA h).aq hs hR.each hR.le).1
  have hfb : ∀ k, (btV (mfX s R n) T S k).2.2.1 < 2139095040 := fun k => by
    unfold btV
    cases hb : btTo (mfX s R n) T S k with
    | none => show 0 < _; omega
    | some b =>
      obtain ⟨h1, h2⟩ := bt_aq hA hb
      show b.2.2 < _
      rw [h2]; exact (mfX_in h1.aq hs hR.each hR.le).1
  have hst := btV_step (mfX s R n) T S
  have hv0 : btV (mfX s R n) T S 0 = (0, 0, 0, false) := rfl
  generalize btV (mfX s R n) T S = V at *
  obtain ⟨M, hM⟩ : ∃ M, mfX s R n = M := ⟨_, rfl⟩
  rw [hM] at hst hmi
  have hM2 : ∀ T S, mfX s R n T S = M T S := fun T S => by rw [hM]
  simp only [hM2] at hfin
  have hZ : lqs 4 (fun i => ⟨trT T i, trS S i⟩) = [.float .f32 (trT T 0), .float .f32 S, .float .f32 (trT T 1), .float .f32 S, .float .f32 T, .float .f32 (trS S 2), .float .f32 T, .float .f32 (trS S 3)] := by
    rw [lqs_succ, lqs_succ, lqs_succ, lqs_succ, lqs_zero, Aqf.cells_eq, Aqf.cells_eq, Aqf.cells_eq, Aqf.cells_eq]; rfl
  have HOK := Lib.hid hok
  have HMI := Lib.hid hmi
  have HFI := Lib.hid hfin
  have HFB := Lib.hid hfb
  have HST := Lib.hid hst
  have HV := Lib.hid hv
  clear hok hmi hfin hfb hst hM hM2 hA hs hR hv
  have hA0 : Blk ((w.alloc (.cells #[.float .f32 T, .float .f32 S] 26)).alloc (.cells #[.float .f32 0, .float .f32 0] 26)) w.heap.size #[.float .f32 T, .float .f32 S] 26 := (Blk.new _ _ _).alloc _
  have hC0 : Blk ((w.alloc (.cells #[.float .f32 T, .float .f32 S] 26)).alloc (.cells #[.float .f32 0, .float .f32 0] 26)) (w.heap.size + 1) #[.float .f32 0, .float .f32 0] 26 := Blk.new1 _ _ _ _
  have hB0 := (hB.alloc (.cells #[.float .f32 T, .float .f32 S] 26)).alloc (.cells #[.float .f32 0, .float .f32 0] 26)
  have hb := below2 w (.cells #[.float .f32 T, .float .f32 S] 26) (.cells #[.float .f32 0, .float .f32 0] 26)
  have lB := hB.lt
  clear hB
  go_enter Try.func40, Try.ntmps40
  go_upto_region 1 with (refine wpList_alloc_as rfl rfl zeroAqL ?_)
  generalize (w.alloc (.cells #[.float .f32 T, .float .f32 S] 26)).alloc (.cells #[.float .f32 0, .float .f32 0] 26) = W at *
  have sb := hb.size
  have lC := hC0.lt
  obtain ⟨p8, e8⟩ : ∃ b, w.heap.size + 1 = b := ⟨_, rfl⟩
  rw [e8] at hC0 lC ⊢
  obtain ⟨p5, e5⟩ : ∃ b, w.heap.size = b := ⟨_, rfl⟩
  rw [e5] at hA0 lB sb hb ⊢
  go_upto_region 2 with (first | (refine wpList_alloc_as rfl rfl zeroAqL ?_) | (refine wpList_store_last rfl rfl rfl rfl rfl (by kernel_rfl) rfl rfl ?_))
  have hD0 := Blk.new W #[.float .f32 0, .float .f32 0] 26
  have hA1 := hA0.alloc (.cells #[.float .f32 0, .float .f32 0] 26)
  have hC1 := hC0.alloc (.cells #[.float .f32 0, .float .f32 0] 26)
  have hB1 := hB0.alloc (.cells #[.float .f32 0, .float .f32 0] 26)
  have hb1 := hb.alloc sb (.cells #[.float .f32 0, .float .f32 0] 26)
  generalize W.alloc (.cells #[.float .f32 0, .float .f32 0] 26) = W1 at *
  have sb1 : p5 ≤ W1.heap.size := by have := hb1.size; omega
  obtain ⟨p11, e11⟩ : ∃ b, W.heap.size = b := ⟨_, rfl⟩
  rw [e11] at hD0 lC ⊢
  have lD := hD0.lt
  have z0 : W1.cell? ⟨p5, 0, none⟩ = some (.float .f32 T) := hA1.cell 0
  have z1 : W1.cell? ⟨p5, 1, none⟩ = some (.float .f32 S) := hA1.cell 1
  have l5 : p5 < p8 := by omega
  have lbs : bs < p11 := by omega
  clear hA0 hC0 hB0 hb
  go_upto_region 3 with fail
  rw [show W1.drewN 0 = W1 from rfl]
  have hO0 : Own (W1.alloc (.cells #[.float .f32 (trT T 0), .float .f32 S, .float .f32 (trT T 1), .float .f32 S, .float .f32 T, .float .f32 (trS S 2), .float .f32 T, .float .f32 (trS S 3)] 26)) W1.heap.size 26 2 (.slice (some ⟨W1.heap.size, 0, none⟩) 4 4) 4 (lqs 4 (fun i => ⟨trT T i, trS S i⟩)) := own_blk (Blk.new W1 #[.float .f32 (trT T 0), .float .f32 S, .float .f32 (trT T 1), .float .f32 S, .float .f32 T, .float .f32 (trS S 2), .float .f32 T, .float .f32 (trS S 3)] 26) rfl (by decide) hZ.symm
  have hC2 := hC1.alloc (.cells #[.float .f32 (trT T 0), .float .f32 S, .float .f32 (trT T 1), .float .f32 S, .float .f32 T, .float .f32 (trS S 2), .float .f32 T, .float .f32 (trS S 3)] 26)
  have hB2 := hB1.alloc (.cells #[.float .f32 (trT T 0), .float .f32 S, .float .f32 (trT T 1), .float .f32 S, .float .f32 T, .float .f32 (trS S 2), .float .f32 T, .float .f32 (trS S 3)] 26)
  have hD2 := hD0.alloc (.cells #[.float .f32 (trT T 0), .float .f32 S, .float .f32 (trT T 1), .float .f32 S, .float .f32 T, .float .f32 (trS S 2), .float .f32 T, .float .f32 (trS S 3)] 26)
  have hb2 := hb1.alloc sb1 (.cells #[.float .f32 (trT T 0), .float .f32 S, .float .f32 (trT T 1), .float .f32 S, .float .f32 T, .float .f32 (trS S 2), .float .f32 T, .float .f32 (trS S 3)] 26)
  generalize W1.alloc (.cells #[.float .f32 (trT T 0), .float .f32 S, .float .f32 (trT T 1), .float .f32 S, .float .f32 T, .float .f32 (trS S 2), .float .f32 T, .float .f32 (trS S 3)] 26) = W2 at *
  obtain ⟨p14, e14⟩ : ∃ b, W1.heap.size = b := ⟨_, rfl⟩
  rw [e14] at hO0 lD ⊢
  clear hA1 hC1 hB1 hD0 hb1 z0 z1 hZ c0 c1 c2 c3 r0 r1 r2 r3 e14 e11 e8 sb1
  go_wp2_with fail
  go_loopw [12, 13, 46] (fun x y i wr => ∃ (k : Nat) (bT bS bm : Nat) (bf : Bool), k ≤ 4 ∧ i = .int .i64 k ∧ V k = (bT, bS, bm, bf) ∧ x = .float .f32 bm ∧ y = .bool bf ∧ Blk wr p11 #[.float .f32 bT, .float .f32 bS] 26 ∧ Own wr p14 26 2 (.slice (some ⟨p14, 0, none⟩) 4 4) 4 (lqs 4 (fun i => ⟨trT T i, trS S i⟩)) ∧ Blk wr bs #[.int .i8 s.px, .int .i8 s.py, .float .f32 s.rt, .int .i8 s.x, .int .i8 s.y] 32 ∧ Blk wr p8 #[.float .f32 0, .float .f32 0] 26 ∧ Below p5 w wr) (fun _ _ i _ => 4 - (intOf i).toNat)
  case atStart => exact ⟨0, 0, 0, 0, false, by omega, rfl, hv0, rfl, rfl, hD2, hO0, hB2, hC2, hb2⟩
  case round =>
    clear hD2 hO0 hB2 hC2 hb2 hv0
    obtain ⟨k, bT, bS, bm, bf, hk, rfl, hVk, rfl, rfl, hD, hO, hB, hC, hbs⟩ := hrel
    have bk : (0 : Int) ≤ k := by omega
    have hbm : bm < 2139095040 := by have := HFB.out k; rw [hVk] at this; exact this
    by_cases hlt : k < 4
    · have bl : (k : Int) < 4 := by omega
      have y0 : wr.cell? ⟨p14, k * 2, none⟩ = some (.float .f32 (trT T k)) := by
        rw [hO.cell (k * 2) (by omega), show k * 2 = k * 2 + 0 by omega, lqs_get 4 _ k 0 hlt (by omega), Aqf.get0]
      have y1 : wr.cell? ⟨p14, k * 2 + 1, none⟩ = some (.float .f32 (trS S k)) := by
        rw [hO.cell (k * 2 + 1) (by omega), lqs_get 4 _ k 1 hlt (by omega), Aqf.get1]
      have hokk := HOK.out k
      have hst := HST.out k
      have hmk := HMI.out k
      have hfk := HFI.out k
      rw [hVk] at hst
      generalize trT T k = tk at *
      generalize trS S k = sk at *
      have sbs := hbs.size
      have lD1 := hD.lt
      have lO1 := hO.lt
      have lB1 := hB.lt
      have lC1 := hC.lt
      have HSK := Lib.hid hst
      have HMK := Lib.hid hmk
      have HFK := Lib.hid hfk
      clear hst hmk hfk hVk
      go_upto_region 6 with fail
      have hA9 := Blk.new wr #[.float .f32 tk, .float .f32 sk] 26
      have hD1 := hD.alloc (.cells #[.float .f32 tk, .float .f32 sk] 26)
      have hO1 := hO.alloc (.cells #[.float .f32 tk, .float .f32 sk] 26)
      have hB1 := hB.alloc (.cells #[.float .f32 tk, .float .f32 sk] 26)
      have hC1 := hC.alloc (.cells #[.float .f32 tk, .float .f32 sk] 26)
      have hb1 := hbs.alloc (by omega) (.cells #[.float .f32 tk, .float .f32 sk] 26)
      generalize wr.alloc (.cells #[.float .f32 tk, .float .f32 sk] 26) = W3 at *
      obtain ⟨p16, e16⟩ : ∃ b, wr.heap.size = b := ⟨_, rfl⟩
      rw [e16] at hA9 lD1 lO1 lB1 lC1 ⊢
      have s3 := hb1.size
      clear y0 y1 hD hO hB hC hbs
      cases hq : aqOk tk sk
      · rw [hq] at hokk
        have HN : Hid (V (k + 1) = (bT, bS, bm, bf)) := Lib.hid (by rw [HSK.out, hq]; rfl)
        clear hq
        go_wp2_with (first | (refine wpList_load_blk rfl rfl rfl rowAq hA9 rfl ?_) | (go_at_call 15; refine (hokk _).mono ?_; rintro e w5 ⟨rfl, hb5⟩))
        go_roundw
        case rel => exact ⟨k + 1, bT, bS, bm, bf, by omega, by go_num, HN.out, rfl, rfl, hD1.below hb5 hD1.lt, hO1.below hb5 hO1.lt, hB1.below hb5 hB1.lt, hC1.below hb5 hC1.lt, hb1.trans (hb5.mono (by omega))⟩
        case measure => simp [intOf]; omega
      · rw [hq] at hokk
        have hmk := HMK.out hq
        have hfk := HFK.out hq
        have hst := HSK.out
        rw [hq, if_pos rfl] at hst
        clear hq
        go_upto_region 7 with (first | (refine wpList_load_blk rfl rfl rfl rowAq hA9 rfl ?_) | (go_at_call 15; refine (hokk _).mono ?_; rintro e w5 ⟨rfl, hb5⟩))
        have hA5 := hA9.below hb5 hA9.lt
        have hD5 := hD1.below hb5 hD1.lt
        have hO5 := hO1.below hb5 hO1.lt
        have hB5 := hB1.below hb5 hB1.lt
        have hC5 := hC1.below hb5 hC1.lt
        have hbb5 := hb1.trans (hb5.mono (by omega))
        have hv5 := HV.out.below (by rw [e5]; exact hbb5)
        have s5 := hbb5.size
        have hmk := hmk w5 hB5 hv5
        change Calls _ _ _ _ (fun e w' => e = .returned (.float .f32 (M tk sk)) ∧ _) at hmk
        generalize M tk sk = mk at *
        clear hA9 hD1 hO1 hB1 hC1 hb1 hb5 hokk
        have HST2 := Lib.hid hst
        clear hst
        go_upto_region 8 with (first | (refine wpList_load_blk rfl rfl rfl rowAq hA5 rfl ?_) | (go_at_call 36; refine hmk.mono ?_; rintro e w6 ⟨rfl, hb6⟩))
        have hA6 := hA5.below hb6 hA5.lt
        have hD6 := hD5.below hb6 hD5.lt
        have hO6 := hO5.below hb6 hO5.lt
        have hB6 := hB5.below hb6 hB5.lt
        have hC6 := hC5.below hb6 hC5.lt
        have hbb6 := hbb5.trans (hb6.mono (by omega))
        have s6 := hbb6.size
        clear hA5 hD5 hO5 hB5 hC5 hbb5 hb6 hmk hv5
        have ht := flt_eq mk bm
        rw [flt_fin hfk hbm] at ht
        by_cases hcase : bf = false ∨ mk < bm
        · have HN : Hid (V (k + 1) = (tk, sk, mk, true)) := Lib.hid (by rw [HST2.out, if_pos hcase])
          have hfin2 : (bf = false) ∨ (bf = true ∧ mk < bm) := by
            rcases hcase with h | h
            · exact .inl h
            · cases bf
              · exact .inl rfl
              · exact .inr ⟨rfl, h⟩
          rcases hfin2 with rfl | ⟨rfl, hlt2⟩
          · clear ht hcase
            go_wp2_with (first | (refine wpList_load_blk rfl rfl rfl rowAq hA6 rfl ?_) | (refine wpList_store_blk rfl rfl rfl rfl rowAq hD6 rfl rfl (aqOne _ _) ?_))
            go_roundw
            case rel => exact ⟨k + 1, tk, sk, mk, true, by omega, by go_num, HN.out, rfl, rfl, hD6.setRow _, hO6.rowOther _ (by omega), hB6.rowOther _ (by omega), hC6.rowOther _ (by omega), below_setRow hbb6 (by omega) _⟩
            case measure => simp [intOf]; omega
          · rw [decide_eq_true hlt2] at ht
            clear hcase hlt2
            go_wp2_with (first | (refine wpList_load_blk rfl rfl rfl rowAq hA6 rfl ?_) | (refine wpList_store_blk rfl rfl rfl rfl rowAq hD6 rfl rfl (aqOne _ _) ?_))
            go_roundw
            case rel => exact ⟨k + 1, tk, sk, mk, true, by omega, by go_num, HN.out, rfl, rfl, hD6.setRow _, hO6.rowOther _ (by omega), hB6.rowOther _ (by omega), hC6.rowOther _ (by omega), below_setRow hbb6 (by omega) _⟩
            case measure => simp [intOf]; omega
        · have HN : Hid (V (k + 1) = (bT, bS, bm, bf)) := Lib.hid (by rw [HST2.out, if_neg hcase])
          have hbt : bf = true := by
            cases bf
            · exact (hcase (.inl rfl)).elim
            · rfl
          subst hbt
          rw [decide_eq_false (fun h => hcase (.inr h))] at ht
          clear hcase
          go_wp2_with fail
          go_roundw
          case rel => exact ⟨k + 1, bT, bS, bm, true, by omega, by go_num, HN.out, rfl, rfl, hD6, hO6, hB6, hC6, hbb6⟩
          case measure => simp [intOf]; omega
    · obtain rfl : k = 4 := by omega
      have HX := Lib.hid hVk
      have ht := flt_eq bm mf
      rw [flt_fin hbm hmf] at ht
      have lC1 := hC.lt
      clear hVk hbm
      by_cases hz : bm < mf
      · rw [decide_eq_true hz] at ht
        have HZ := Lib.hid (decide_eq_true hz)
        clear hz
        cases bf
        all_goals (
          go_wp2_with (first | (refine wpList_load_blk rfl rfl rfl rowAq hD rfl ?_) | (refine wpList_store_blk rfl rfl rfl rfl rowAq hC rfl rfl (aqOne _ _) ?_))
          refine bodyPost_row3 rfl rfl rowAq (hC.setRow _) rfl rfl ⟨by rw [HX.out]; simp only [HZ.out]; rfl, ?_⟩
          exact below_setRow (by rw [e5]; exact hbs) (by omega) _)
      · rw [decide_eq_false hz] at ht
        have HZ := Lib.hid (decide_eq_false hz)
        clear hz
        cases bf
        all_goals (
          go_wp2_with (first | (refine wpList_load_blk rfl rfl rfl rowAq hD rfl ?_) | (refine wpList_store_blk rfl rfl rfl rfl rowAq hC rfl rfl (aqOne _ _) ?_))
          refine bodyPost_row3 rfl rfl rowAq (hC.setRow _) rfl rfl ⟨by rw [HX.out]; simp only [HZ.out]; rfl, ?_⟩
          exact below_setRow (by rw [e5]; exact hbs) (by omega) _)
end Go.Proofs.Ytglimhkpndfjgaa
