import Derived.Test.YtmmfnklnmdhkiaaGreatMU15
/- Steps until a ground is still: StepsUntilStill in the program and in the reference. -/
namespace Go.Proofs.YtmmfnklnmdhkiaaGreat
open Go.ChangeShapes Go.WideShapes Go.ChangeAt Go.RowKit
set_option linter.unusedVariables false
set_option linter.unusedSimpArgs false
attribute [local irreducible] Calls

/-- A function of three results, the first a row in memory. -/
theorem bodyPost_row3 {P : Program} {fn : Func} {R : Ending → World → Prop} {a : Act} {w : World} {p u v : Tmp} {ty t : TypeId} {b n : Nat} {C : Array Value} (hf : fn.results = #[.cell p ty, .tmp u, .tmp v]) (hp : a.tmps.getD p undef = .pointer (some ⟨b, 0, none⟩)) (hr : RowTy P ty n) (hb : Blk w b C t) (hs : C.size = n) (hd : a.defers = [])
    (hR : R (.returned (.tuple #[.agg C, a.tmps.getD u undef, a.tmps.getD v undef])) w) : bodyPost P fn R .ret a w := by
  obtain ⟨d, hu, hd', hi⟩ := hr
  have hl := run_loadVar_row (P := P) w b t ty C (0, 0) d hb hu (by cases d <;> simp_all) (by rw [hi, hs])
  refine bodyPost_ret (v := .tuple #[.agg C, a.tmps.getD u undef, a.tmps.getD v undef]) ?_ hd hR
  have hp' : a.tmps[p]?.getD undef = .pointer (some ⟨b, 0, none⟩) := by simpa using hp
  simp [results, hf, hp', asAddr, hl]

/-- What comes of a ground that goes on until it is still, l steps being left. -/
def until_ (part small : Nat) : Nat → Int → Gr → Gr × Int × Int
  | 0, n, G => if balsOk G then (if stillG G small then (G, n, 0) else (zeroG, 0, 7)) else (zeroG, 0, 4)
  | l + 1, n, G => if balsOk G then (if stillG G small then (G, n, 0) else if stepIs G part then until_ part small l (n + 1) (stepG G part) else (zeroG, 0, 4)) else (zeroG, 0, 4)
theorem until_bad {part small : Nat} {G : Gr} (h : balsOk G = false) (l : Nat) (n : Int) : until_ part small l n G = (zeroG, 0, 4) := by cases l <;> simp [until_, h]
theorem until_still {part small : Nat} {G : Gr} (h : balsOk G = true) (h2 : stillG G small = true) (l : Nat) (n : Int) : until_ part small l n G = (G, n, 0) := by cases l <;> simp [until_, h, h2]
theorem until_end {part small : Nat} {G : Gr} (h : balsOk G = true) (h2 : stillG G small = false) (n : Int) : until_ part small 0 n G = (zeroG, 0, 7) := by simp [until_, h, h2]
theorem until_step {part small : Nat} {G : Gr} (h : balsOk G = true) (h2 : stillG G small = false) (h3 : stepIs G part = true) (l : Nat) (n : Int) : until_ part small (l + 1) n G = until_ part small l (n + 1) (stepG G part) := by simp [until_, h, h2, h3]
theorem until_fail {part small : Nat} {G : Gr} (h : balsOk G = true) (h2 : stillG G small = false) (h3 : stepIs G part = false) (l : Nat) (n : Int) : until_ part small (l + 1) n G = (zeroG, 0, 4) := by simp [until_, h, h2, h3]
def untilT (g : Gr) (part small : Nat) (n : Int) : Gr × Int × Int :=
  if validG g && plain part && plain small then (if isStp n then until_ part small n.toNat 0 g else (zeroG, 0, 2)) else (zeroG, 0, 1)

set_option maxRecDepth 100000 in
set_option maxHeartbeats 1000000 in
theorem stepsUntil_any (g : Gr) (part small : Nat) (n : Int) (hg : g.ok) (w : World) :
    Calls Tryz.prog 15 #[.agg g.cells, .float .f32 part, .float .f32 small, .int .i64 n] w fun e w' => e = .returned (.tuple #[.agg (untilT g part small n).1.cells, .int .i64 (untilT g part small n).2.1, .int .i64 (untilT g part small n).2.2]) ∧ Below w.heap.size w w' := by
  have hvg := fun w' => validGround_any g hg w'
  have hp1 := fun w' => isPlain_any part w'
  have hp2 := fun w' => isPlain_any small w'
  have his := fun w' => isSteps_any n w'
  obtain ⟨T, hT⟩ : ∃ T, T = untilT g part small n := ⟨_, rfl⟩
  obtain ⟨R, hR⟩ : ∃ R, R = T.1.cells := ⟨_, rfl⟩
  obtain ⟨U, hU⟩ : ∃ U, U = T.2.1 := ⟨_, rfl⟩
  obtain ⟨V, hV⟩ : ∃ V, V = T.2.2 := ⟨_, rfl⟩
  rw [← hT, ← hR, ← hU, ← hV]
  have FIN : Hid (∀ X : Gr × Int × Int, untilT g part small n = X → R = X.1.cells ∧ U = X.2.1 ∧ V = X.2.2) := Lib.hid fun X h => by rw [hR, hU, hV, hT, h]; exact ⟨rfl, rfl, rfl⟩
  clear hT hR hU hV
  go_enter Tryz.func15, Tryz.ntmps15
  go_upto_region 1 with (first | (refine wpList_box_as rfl rfl rfl ?_) | (refine wpList_alloc_as rfl rfl zero66z ?_))
  have hA : Blk ((w.alloc (.cells g.cells 30)).alloc (.cells zeroG.cells 30)) w.heap.size g.cells 30 := (Blk.new _ _ _).alloc _
  have hS : Blk ((w.alloc (.cells g.cells 30)).alloc (.cells zeroG.cells 30)) (w.heap.size + 1) zeroG.cells 30 := Blk.new1 _ _ _ _
  have hbel := below2 w (.cells g.cells 30) (.cells zeroG.cells 30)
  generalize ((w.alloc (.cells g.cells 30)).alloc (.cells zeroG.cells 30)) = W at *
  have lS := hS.lt
  have lA := hA.lt
  cases h1 : validG g
  · rw [h1] at hvg
    have HF := Lib.hid (FIN.out (zeroG, 0, 1) (by unfold untilT; rw [h1]; rfl))
    clear h1
    go_wp2_with (first | (refine wpList_load_blk rfl rfl rfl row66 hA g.size ?_) | (go_at_call 33; refine (hvg _).mono ?_; rintro e w4 ⟨rfl, hb4⟩; have hS4 := hS.below hb4 lS) | (refine wpList_zero rfl rfl built66 ?_) | (refine wpList_store_blk rfl rfl rfl rfl row66 hS4 zeroG.size zeroG.size zeroG.one ?_))
    refine bodyPost_row3 rfl rfl row66 (hS4.setRow _) zeroG.size rfl ⟨?_, below_setRow (hbel.trans (hb4.mono hbel.size)) (by omega) _⟩
    rw [HF.out.1, HF.out.2.1, HF.out.2.2]; rfl
  rw [h1] at hvg
  cases h2 : plain part
  · rw [h2] at hp1
    have HF := Lib.hid (FIN.out (zeroG, 0, 1) (by unfold untilT; rw [h1, h2]; rfl))
    clear h1 h2
    go_wp2_with (first | (refine wpList_load_blk rfl rfl rfl row66 hA g.size ?_) | (go_at_call 33; refine (hvg _).mono ?_; rintro e w4 ⟨rfl, hb4⟩; have hS4 := hS.below hb4 lS) | (go_at_call 34; refine (hp1 _).mono ?_; rintro e w' ⟨rfl, hw⟩; rw [hw]; clear hw w') | (refine wpList_zero rfl rfl built66 ?_) | (refine wpList_store_blk rfl rfl rfl rfl row66 hS4 zeroG.size zeroG.size zeroG.one ?_))
    refine bodyPost_row3 rfl rfl row66 (hS4.setRow _) zeroG.size rfl ⟨?_, below_setRow (hbel.trans (hb4.mono hbel.size)) (by omega) _⟩
    rw [HF.out.1, HF.out.2.1, HF.out.2.2]; rfl
  rw [h2] at hp1
  cases h2' : plain small
  · rw [h2'] at hp2
    have HF := Lib.hid (FIN.out (zeroG, 0, 1) (by unfold untilT; rw [h1, h2, h2']; rfl))
    clear h1 h2 h2'
    go_wp2_with (first | (refine wpList_load_blk rfl rfl rfl row66 hA g.size ?_) | (go_at_call 33; refine (hvg _).mono ?_; rintro e w4 ⟨rfl, hb4⟩; have hS4 := hS.below hb4 lS) | (go_at_call 34; refine (hp1 _).mono ?_; rintro e w' ⟨rfl, hw⟩; rw [hw]; clear hw w') | (go_at_call 34; refine (hp2 _).mono ?_; rintro e w' ⟨rfl, hw⟩; rw [hw]; clear hw w') | (refine wpList_zero rfl rfl built66 ?_) | (refine wpList_store_blk rfl rfl rfl rfl row66 hS4 zeroG.size zeroG.size zeroG.one ?_))
    refine bodyPost_row3 rfl rfl row66 (hS4.setRow _) zeroG.size rfl ⟨?_, below_setRow (hbel.trans (hb4.mono hbel.size)) (by omega) _⟩
    rw [HF.out.1, HF.out.2.1, HF.out.2.2]; rfl
  rw [h2'] at hp2
  cases h3 : isStp n
  · rw [h3] at his
    have HF := Lib.hid (FIN.out (zeroG, 0, 2) (by unfold untilT; rw [h1, h2, h2', h3]; rfl))
    clear h1 h2 h2' h3
    go_wp2_with (first | (refine wpList_load_blk rfl rfl rfl row66 hA g.size ?_) | (go_at_call 33; refine (hvg _).mono ?_; rintro e w4 ⟨rfl, hb4⟩; have hS4 := hS.below hb4 lS) | (go_at_call 34; refine (hp1 _).mono ?_; rintro e w' ⟨rfl, hw⟩; rw [hw]; clear hw w') | (go_at_call 34; refine (hp2 _).mono ?_; rintro e w' ⟨rfl, hw⟩; rw [hw]; clear hw w') | (go_at_call 42; refine (his _).mono ?_; rintro e w' ⟨rfl, hw⟩; rw [hw]; clear hw w') | (refine wpList_zero rfl rfl built66 ?_) | (refine wpList_store_blk rfl rfl rfl rfl row66 hS4 zeroG.size zeroG.size zeroG.one ?_))
    refine bodyPost_row3 rfl rfl row66 (hS4.setRow _) zeroG.size rfl ⟨?_, below_setRow (hbel.trans (hb4.mono hbel.size)) (by omega) _⟩
    rw [HF.out.1, HF.out.2.1, HF.out.2.2]; rfl
  rw [h3] at his
  have hsm := validG_small h1
  have hC : untilT g part small n = until_ part small n.toNat 0 g := by unfold untilT; rw [h1, h2, h2', h3]; rfl
  have hn : 0 ≤ n ∧ n ≤ 400 := by unfold isStp at h3; simpa using h3
  clear h1 h2 h2' h3
  obtain ⟨m, rfl⟩ : ∃ m : Nat, n = m := ⟨n.toNat, by omega⟩
  rw [Int.toNat_natCast] at hC
  have hm : (m : Int) ≤ 400 := hn.2
  have bm : (0 : Int) ≤ m := hn.1
  clear hn
  have FIN2 : Hid (∀ X : Gr × Int × Int, until_ part small m 0 g = X → R = X.1.cells ∧ U = X.2.1 ∧ V = X.2.2) := Lib.hid fun X h => FIN.out X (hC.trans h)
  clear hC FIN
  go_wp2_with (first | (refine wpList_load_blk rfl rfl rfl row66 hA g.size ?_) | (go_at_call 33; refine (hvg _).mono ?_; rintro e w4 ⟨rfl, hb4⟩; have hS4 := hS.below hb4 lS; have hA4 := hA.below hb4 lA) | (go_at_call 34; refine (hp1 _).mono ?_; rintro e w' ⟨rfl, hw⟩; rw [hw]; clear hw w') | (go_at_call 34; refine (hp2 _).mono ?_; rintro e w' ⟨rfl, hw⟩; rw [hw]; clear hw w') | (go_at_call 42; refine (his _).mono ?_; rintro e w' ⟨rfl, hw⟩; rw [hw]; clear hw w'))
  have hbel := hbel.trans (hb4.mono hbel.size)
  clear hvg hp1 hp2 his hb4 hS hA lS lA
  go_loopw [11] (fun i wr => ∃ (k : Nat) (G : Gr), k ≤ m ∧ i = .int .i64 k ∧ Hid (until_ part small m 0 g = until_ part small (m - k) k G) ∧ G.ok ∧ G.small ∧ Blk wr w.heap.size G.cells 30 ∧ Blk wr (w.heap.size + 1) zeroG.cells 30 ∧ Below w.heap.size w wr) (fun i _ => m - (intOf i).toNat)
  case atStart => exact ⟨0, g, by omega, rfl, Lib.hid rfl, hg, hsm, hA4, hS4, hbel⟩
  case round =>
    clear hA4 hS4 hbel hg hsm
    obtain ⟨k, G, hk, rfl, hun, hg, hsm, hA, hS, hbel⟩ := hrel
    have bk : (0 : Int) ≤ k := by omega
    have bkm : (k : Int) ≤ m := by omega
    have lS := hS.lt
    have lA := hA.lt
    have hbal := balances_any G w.heap.size hg hsm wr hA.gat
    go_upto_region 8 with (first | (go_at_call 44; refine hbal.mono ?_; rintro e w5 ⟨ff, rfl, hff, hb5⟩; have HFF := Lib.hid hff; clear hff) | (refine wpList_alloc_as rfl rfl zero64 ?_) | (refine wpList_store_last rfl rfl rfl rfl rfl (by rw [fls_size]; kernel_rfl) (by rw [fls_size, fls_size]) (List.all_eq_true.2 (fls_one _ _)) ?_))
    have hA := (hA.below hb5 lA).alloc (.cells (fls 64 ff).toArray 27)
    have hS := (hS.below hb5 lS).alloc (.cells (fls 64 ff).toArray 27)
    have hQ := Blk.new w5 (fls 64 ff).toArray 27
    have hbel := hbel.trans (hb5.mono hbel.size)
    have hbel := hbel.alloc hbel.size (.cells (fls 64 ff).toArray 27)
    generalize w5.alloc (.cells (fls 64 ff).toArray 27) = W5 at *
    generalize w5.heap.size = q at *
    clear hb5 hbal lS lA
    have lS := hS.lt
    have lA := hA.lt
    have lQ := hQ.lt
    cases hok : balsOk G
    · have HF := Lib.hid (FIN2.out (zeroG, 0, 4) (hun.out.trans (until_bad hok _ _)))
      clear hok
      go_wp2_with (first | (refine wpList_zero rfl rfl built66 ?_) | (refine wpList_store_blk rfl rfl rfl rfl row66 hS zeroG.size zeroG.size zeroG.one ?_))
      refine bodyPost_row3 rfl rfl row66 (hS.setRow _) zeroG.size rfl ⟨?_, below_setRow hbel (by omega) _⟩
      rw [HF.out.1, HF.out.2.1, HF.out.2.2]; rfl
    · have hfr := free_any G w.heap.size hg W5 hA.gat
      have hlen : (freeL G).length ≤ 64 := Nat.le_trans (freeOf_length G _) (cellsTo_length G 64)
      have HST : Hid ((freeL G).all (fun k => fle (fab (ff k)) small) = stillG G small) := Lib.hid (by
        unfold stillG
        apply Bool.eq_iff_iff.2
        simp only [List.all_eq_true]
        constructor
        · intro h x hx
          have hm := freeL_mem.1 hx
          have := h x hx
          rwa [bals_eq hok (HFF.out hok) hm.1.1 hm.1.2] at this
        · intro h x hx
          have hm := freeL_mem.1 hx
          rw [bals_eq hok (HFF.out hok) hm.1.1 hm.1.2]
          exact h x hx)
      have HNUM : Hid ((∀ x, x ∈ freeL G → x < 64) ∧ ∀ x, x ∈ freeL G → isN .f32 (ff x) = false) := Lib.hid ⟨fun x hx => (freeL_mem.1 hx).1.1, fun x hx => by
        have hm := freeL_mem.1 hx
        rw [bals_eq hok (HFF.out hok) hm.1.1 hm.1.2]
        exact bals_num hok hm.1.1 hm.1.2⟩
      have HOK := Lib.hid hok
      clear hok
      generalize hL : freeL G = L at *
      clear hL
      have hstl := fun w' r c hq ho => still_any L ff small q r c 27 w' hlen HNUM.out.1 HNUM.out.2 hq ho
      rw [HST.out] at hstl
      cases hs : stillG G small
      · rw [hs] at hstl
        have HS := Lib.hid hs
        clear hs
        by_cases hlt : k < m
        · have bl : (k : Int) < m := by omega
          have hne : ((k : Int) == m) = false := by simp; omega
          have hst := fun w' h => stepped_any G w.heap.size part hg hsm w' h
          rcases stepC_cases G part with ⟨e0, e1, e2⟩ | ⟨e0, e1, e2⟩
          · rw [e1, e2] at hst
            have HE := Lib.hid e0
            clear e0 e1 e2
            have hGo := stepG_ok part hg
            have hGs : (stepG G part).small := hsm
            have HUN : Hid (until_ part small m 0 g = until_ part small (m - (k + 1)) ((k + 1 : Nat) : Int) (stepG G part)) := Lib.hid (by
              rw [hun.out, show m - k = (m - (k + 1)) + 1 by omega, until_step HOK.out HS.out HE.out]; rfl)
            generalize stepG G part = GN at *
            go_upto_region 15 with (first | (go_at_call 46; refine hfr.mono ?_; rintro e w6 ⟨r, cap, rfl, hr, hown, hb6⟩; have hstl := hstl w6 r cap (hQ.below hb6 lQ) hown) | (go_at_call 45; refine hstl.mono ?_; rintro e w7 ⟨rfl, hb7⟩; have hb67 := hb6.trans (hb7.mono hb6.size); have hA7 := hA.below hb67 lA; have hS7 := hS.below hb67 lS; have lA7 := hA7.lt; have lS7 := hS7.lt) | (go_at_call 35; refine (hst _ hA7.gat).mono ?_; rintro e w8 ⟨rfl, hb8⟩) | (refine wpList_alloc_as rfl rfl zero66z ?_) | (refine wpList_store_last rfl rfl rfl rfl rfl (by rw [Gr.size]; kernel_rfl) (by rw [Gr.size, Gr.size]) (List.all_eq_true.2 (Gr.one _)) ?_))
            have hA8 := (hA7.below hb8 lA7).alloc (.cells GN.cells 30)
            have hS8 := (hS7.below hb8 lS7).alloc (.cells GN.cells 30)
            have hN8 := Blk.new w8 GN.cells 30
            have hbel7 := hbel.trans (hb67.mono hbel.size)
            have hbel8 := hbel7.trans (hb8.mono hbel7.size)
            have hbel8 := hbel8.alloc hbel8.size (.cells GN.cells 30)
            generalize w8.alloc (.cells GN.cells 30) = W8 at *
            generalize w8.heap.size = q8 at *
            clear hb8 hA7 hS7 hb67 lA7 lS7 hbel7 hst hstl hown hb6 hb7
            go_wp2_with (first | (refine wpList_load_blk rfl rfl rfl row66 hN8 (Gr.size _) ?_) | (refine wpList_store_blk rfl rfl rfl rfl row66 hA8 (Gr.size _) (Gr.size _) (Gr.one _) ?_))
            go_roundw
            case rel => exact ⟨k + 1, GN, by omega, by go_num, HUN, hGo, hGs, hA8.setRow _, hS8.rowOther _ (by omega), below_setRow hbel8 (by omega) _⟩
            case measure => (simp [intOf]; try omega)
          · rw [e1, e2] at hst
            have HF := Lib.hid (FIN2.out (zeroG, 0, 4) (by rw [hun.out, show m - k = (m - (k + 1)) + 1 by omega]; exact until_fail HOK.out HS.out e0 _ _))
            clear e0 e1 e2
            go_wp2_with (first | (go_at_call 46; refine hfr.mono ?_; rintro e w6 ⟨r, cap, rfl, hr, hown, hb6⟩; have hstl := hstl w6 r cap (hQ.below hb6 lQ) hown) | (go_at_call 45; refine hstl.mono ?_; rintro e w7 ⟨rfl, hb7⟩; have hb67 := hb6.trans (hb7.mono hb6.size); have hA7 := hA.below hb67 lA; have hS7 := hS.below hb67 lS; have lA7 := hA7.lt; have lS7 := hS7.lt) | (go_at_call 35; refine (hst _ hA7.gat).mono ?_; rintro e w8 ⟨rfl, hb8⟩; have hS8 := (hS7.below hb8 lS7).alloc (.cells zeroG.cells 30)) | (refine wpList_alloc_as rfl rfl zero66z ?_) | (refine wpList_store_last rfl rfl rfl rfl rfl (by rw [Gr.size]; kernel_rfl) rfl (List.all_eq_true.2 (Gr.one _)) ?_) | (refine wpList_zero rfl rfl built66 ?_) | (refine wpList_store_blk rfl rfl rfl rfl row66 hS8 zeroG.size zeroG.size zeroG.one ?_))
            have hbel7 := hbel.trans (hb67.mono hbel.size)
            have hbel8 := hbel7.trans (hb8.mono hbel7.size)
            have hbel8 := hbel8.alloc hbel8.size (.cells zeroG.cells 30)
            refine bodyPost_row3 rfl rfl row66 (hS8.setRow _) zeroG.size rfl ⟨?_, below_setRow hbel8 (by omega) _⟩
            rw [HF.out.1, HF.out.2.1, HF.out.2.2]; rfl
        · obtain rfl : k = m := by omega
          have HF := Lib.hid (FIN2.out (zeroG, 0, 7) (by rw [hun.out, Nat.sub_self]; exact until_end HOK.out HS.out _))
          go_wp2_with (first | (go_at_call 46; refine hfr.mono ?_; rintro e w6 ⟨r, cap, rfl, hr, hown, hb6⟩; have hstl := hstl w6 r cap (hQ.below hb6 lQ) hown) | (go_at_call 45; refine hstl.mono ?_; rintro e w7 ⟨rfl, hb7⟩; have hb67 := hb6.trans (hb7.mono hb6.size); have hS7 := hS.below hb67 lS) | (refine wpList_zero rfl rfl built66 ?_) | (refine wpList_store_blk rfl rfl rfl rfl row66 hS7 zeroG.size zeroG.size zeroG.one ?_))
          refine bodyPost_row3 rfl rfl row66 (hS7.setRow _) zeroG.size rfl ⟨?_, below_setRow (hbel.trans (hb67.mono hbel.size)) (by omega) _⟩
          rw [HF.out.1, HF.out.2.1, HF.out.2.2]; rfl
      · rw [hs] at hstl
        have HF := Lib.hid (FIN2.out (G, (k : Int), 0) (hun.out.trans (until_still HOK.out hs _ _)))
        clear hs
        go_wp2_with (first | (go_at_call 46; refine hfr.mono ?_; rintro e w6 ⟨r, cap, rfl, hr, hown, hb6⟩; have hstl := hstl w6 r cap (hQ.below hb6 lQ) hown) | (go_at_call 45; refine hstl.mono ?_; rintro e w7 ⟨rfl, hb7⟩; have hb67 := hb6.trans (hb7.mono hb6.size); have hS7 := hS.below hb67 lS; have hA7 := hA.below hb67 lA) | (refine wpList_load_blk rfl rfl rfl row66 hA7 (Gr.size _) ?_) | (refine wpList_store_blk rfl rfl rfl rfl row66 hS7 zeroG.size (Gr.size _) (Gr.one _) ?_))
        refine bodyPost_row3 rfl rfl row66 (hS7.setRow _) (Gr.size _) rfl ⟨?_, below_setRow (hbel.trans (hb67.mono hbel.size)) (by omega) _⟩
        rw [HF.out.1, HF.out.2.1, HF.out.2.2]; rfl

set_option maxRecDepth 100000 in
set_option maxHeartbeats 1000000 in
theorem specStepsUntil_any (g : Gr) (part small : Nat) (n : Int) (hg : g.ok) (w : World) :
    Calls Tryz.prog 16 #[.agg g.cells, .float .f32 part, .float .f32 small, .int .i64 n] w fun e w' => e = .returned (.tuple #[.agg (untilT g part small n).1.cells, .int .i64 (untilT g part small n).2.1, .int .i64 (untilT g part small n).2.2]) ∧ Below w.heap.size w w' := by
  have hask := fun w' b h => l06Asked_any g b part hg w' h
  have hp2 := fun w' => l01Plain_any small w'
  have his := fun w' => l06Steps_any n w'
  obtain ⟨T, hT⟩ : ∃ T, T = untilT g part small n := ⟨_, rfl⟩
  obtain ⟨R, hR⟩ : ∃ R, R = T.1.cells := ⟨_, rfl⟩
  obtain ⟨U, hU⟩ : ∃ U, U = T.2.1 := ⟨_, rfl⟩
  obtain ⟨V, hV⟩ : ∃ V, V = T.2.2 := ⟨_, rfl⟩
  rw [← hT, ← hR, ← hU, ← hV]
  have FIN : Hid (∀ X : Gr × Int × Int, untilT g part small n = X → R = X.1.cells ∧ U = X.2.1 ∧ V = X.2.2) := Lib.hid fun X h => by rw [hR, hU, hV, hT, h]; exact ⟨rfl, rfl, rfl⟩
  clear hT hR hU hV
  go_enter Tryz.func16, Tryz.ntmps16
  go_upto_region 1 with (first | (refine wpList_box_as rfl rfl rfl ?_) | (refine wpList_alloc_as rfl rfl zero66z ?_))
  have hA : Blk ((w.alloc (.cells g.cells 30)).alloc (.cells zeroG.cells 30)) w.heap.size g.cells 30 := (Blk.new _ _ _).alloc _
  have hS : Blk ((w.alloc (.cells g.cells 30)).alloc (.cells zeroG.cells 30)) (w.heap.size + 1) zeroG.cells 30 := Blk.new1 _ _ _ _
  have hbel := below2 w (.cells g.cells 30) (.cells zeroG.cells 30)
  generalize ((w.alloc (.cells g.cells 30)).alloc (.cells zeroG.cells 30)) = W at *
  have lS := hS.lt
  have lA := hA.lt
  cases h1 : askOk g part
  · rw [h1] at hask
    have HF := Lib.hid (FIN.out (zeroG, 0, 1) (by unfold untilT; unfold askOk at h1; rw [h1]; rfl))
    clear h1
    go_wp2_with (go_at_call 36; refine (hask _ _ hA.gat).mono ?_; rintro e w4 ⟨rfl, m4, rfl⟩)
    go_loopw [11, 12] (fun c i wr => c = .int .i64 1 ∧ i = .int .i64 0 ∧ wr = W.drewN m4) (fun _ _ _ => 0)
    case atStart => exact ⟨rfl, rfl, rfl⟩
    case round =>
      obtain ⟨rfl, rfl, rfl⟩ := hrel
      go_wp2_with (first | (refine wpList_zero rfl rfl built66 ?_) | (refine wpList_store_blk rfl rfl rfl rfl row66 (hS.drewN _) zeroG.size zeroG.size zeroG.one ?_))
      refine bodyPost_row3 rfl rfl row66 ((hS.drewN _).setRow _) zeroG.size rfl ⟨?_, below_setRow (below_drewN hbel _) (by omega) _⟩
      rw [HF.out.1, HF.out.2.1, HF.out.2.2]; rfl
  rw [h1] at hask
  cases h2 : plain small
  · rw [h2] at hp2
    have HF := Lib.hid (FIN.out (zeroG, 0, 1) (by unfold untilT; unfold askOk at h1; rw [h1, h2]; rfl))
    clear h1 h2
    go_wp2_with (first | (go_at_call 36; refine (hask _ _ hA.gat).mono ?_; rintro e w4 ⟨rfl, m4, rfl⟩) | (go_at_call 47; refine (hp2 _).mono ?_; rintro e w' ⟨rfl, hw⟩; rw [hw]; clear hw w'))
    go_loopw [11, 12] (fun c i wr => c = .int .i64 1 ∧ i = .int .i64 0 ∧ wr = W.drewN m4) (fun _ _ _ => 0)
    case atStart => exact ⟨rfl, rfl, rfl⟩
    case round =>
      obtain ⟨rfl, rfl, rfl⟩ := hrel
      go_wp2_with (first | (refine wpList_zero rfl rfl built66 ?_) | (refine wpList_store_blk rfl rfl rfl rfl row66 (hS.drewN _) zeroG.size zeroG.size zeroG.one ?_))
      refine bodyPost_row3 rfl rfl row66 ((hS.drewN _).setRow _) zeroG.size rfl ⟨?_, below_setRow (below_drewN hbel _) (by omega) _⟩
      rw [HF.out.1, HF.out.2.1, HF.out.2.2]; rfl
  rw [h2] at hp2
  cases h3 : isStp n
  · rw [h3] at his
    have HF := Lib.hid (FIN.out (zeroG, 0, 2) (by unfold untilT; unfold askOk at h1; rw [h1, h2, h3]; rfl))
    clear h1 h2 h3
    go_wp2_with (first | (go_at_call 36; refine (hask _ _ hA.gat).mono ?_; rintro e w4 ⟨rfl, m4, rfl⟩) | (go_at_call 47; refine (hp2 _).mono ?_; rintro e w' ⟨rfl, hw⟩; rw [hw]; clear hw w') | (go_at_call 43; refine (his _).mono ?_; rintro e w' ⟨rfl, hw⟩; rw [hw]; clear hw w'))
    go_loopw [11, 12] (fun c i wr => c = .int .i64 2 ∧ i = .int .i64 0 ∧ wr = W.drewN m4) (fun _ _ _ => 0)
    case atStart => exact ⟨rfl, rfl, rfl⟩
    case round =>
      obtain ⟨rfl, rfl, rfl⟩ := hrel
      go_wp2_with (first | (refine wpList_zero rfl rfl built66 ?_) | (refine wpList_store_blk rfl rfl rfl rfl row66 (hS.drewN _) zeroG.size zeroG.size zeroG.one ?_))
      refine bodyPost_row3 rfl rfl row66 ((hS.drewN _).setRow _) zeroG.size rfl ⟨?_, below_setRow (below_drewN hbel _) (by omega) _⟩
      rw [HF.out.1, HF.out.2.1, HF.out.2.2]; rfl
  rw [h3] at his
  have hsm := validG_small (g := g) (by unfold askOk at h1; exact (Bool.and_eq_true_iff.1 h1).1)
  have hC : untilT g part small n = until_ part small n.toNat 0 g := by unfold untilT; unfold askOk at h1; rw [h1, h2, h3]; rfl
  have hn : 0 ≤ n ∧ n ≤ 400 := by unfold isStp at h3; simpa using h3
  clear h1 h2 h3
  obtain ⟨m, rfl⟩ : ∃ m : Nat, n = m := ⟨n.toNat, by omega⟩
  rw [Int.toNat_natCast] at hC
  have hm : (m : Int) ≤ 400 := hn.2
  have bm : (0 : Int) ≤ m := hn.1
  clear hn
  have FIN2 : Hid (∀ X : Gr × Int × Int, until_ part small m 0 g = X → R = X.1.cells ∧ U = X.2.1 ∧ V = X.2.2) := Lib.hid fun X h => FIN.out X (hC.trans h)
  clear hC FIN
  go_wp2_with (first | (go_at_call 36; refine (hask _ _ hA.gat).mono ?_; rintro e w4 ⟨rfl, m4, rfl⟩) | (go_at_call 47; refine (hp2 _).mono ?_; rintro e w' ⟨rfl, hw⟩; rw [hw]; clear hw w') | (go_at_call 43; refine (his _).mono ?_; rintro e w' ⟨rfl, hw⟩; rw [hw]; clear hw w'))
  clear hask hp2 his lS lA
  go_loopw [11, 12] (fun c i wr => ∃ (k : Nat) (x : Int) (G : Gr), k ≤ m + 1 ∧ i = .int .i64 k ∧ c = .int .i64 x ∧ Hid ((x = 0 ∧ k ≤ m ∧ until_ part small m 0 g = until_ part small (m - k) k G) ∨ ((x = 4 ∨ x = 7) ∧ until_ part small m 0 g = (zeroG, 0, x))) ∧ G.ok ∧ G.small ∧ Blk wr w.heap.size G.cells 30 ∧ Blk wr (w.heap.size + 1) zeroG.cells 30 ∧ Below w.heap.size w wr) (fun c i _ => if intOf c = 0 then m + 2 - (intOf i).toNat else 0)
  case atStart => exact ⟨0, 0, g, by omega, rfl, rfl, Lib.hid (.inl ⟨rfl, by omega, rfl⟩), hg, hsm, hA.drewN _, hS.drewN _, below_drewN hbel _⟩
  case round =>
    clear hA hS hbel hg hsm
    obtain ⟨k, x, G, hk, rfl, rfl, hst, hg, hsm, hA, hS, hbel⟩ := hrel
    have bk : (0 : Int) ≤ k := by omega
    rcases hst.out with ⟨rfl, hkm, hun⟩ | ⟨hx, hun⟩
    · have bkm : (k : Int) ≤ m := by omega
      have HUN := Lib.hid hun
      clear hun hst
      have lS := hS.lt
      have lA := hA.lt
      have hstl := l06Still_any G w.heap.size small hg hsm wr hA.gat
      cases hok : balsOk G
      · rw [hok] at hstl
        have HF := Lib.hid (HUN.out.trans (until_bad hok _ _))
        clear hok
        go_wp2_with (first | (go_at_call 48; refine hstl.mono ?_; rintro e w5 ⟨rfl, hb5⟩))
        go_roundw
        case rel => exact ⟨k, 4, G, hk, rfl, rfl, Lib.hid (.inr ⟨.inl rfl, HF.out⟩), hg, hsm, hA.below hb5 lA, hS.below hb5 lS, hbel.trans (hb5.mono hbel.size)⟩
        case measure => (simp [intOf]; try omega)
      · rw [hok, Bool.true_and] at hstl
        have HOK := Lib.hid hok
        clear hok
        cases hs : stillG G small
        · rw [hs] at hstl
          have HS := Lib.hid hs
          clear hs
          by_cases hlt : k < m
          · have bl : (k : Int) < m := by omega
            have hne : ((k : Int) == m) = false := by simp; omega
            have hst := fun w' h => l06Stepped_any G w.heap.size part hg hsm w' h
            have hGo := stepR_ok part hg
            have hGs := stepR_small part hsm
            have HNX : Hid ((stepC G part = 0 ∧ k + 1 ≤ m ∧ until_ part small m 0 g = until_ part small (m - (k + 1)) ((k + 1 : Nat) : Int) (stepR G part)) ∨ ((stepC G part = 4 ∨ stepC G part = 7) ∧ until_ part small m 0 g = (zeroG, 0, stepC G part))) := Lib.hid (by
              rcases stepC_cases G part with ⟨e0, e1, e2⟩ | ⟨e0, e1, e2⟩
              · left
                refine ⟨e1, by omega, ?_⟩
                rw [HUN.out, show m - k = (m - (k + 1)) + 1 by omega, until_step HOK.out HS.out e0, e2]; rfl
              · right
                refine ⟨.inl e1, ?_⟩
                rw [HUN.out, show m - k = (m - (k + 1)) + 1 by omega, until_fail HOK.out HS.out e0, e1])
            generalize stepR G part = GN at *
            generalize stepC G part = VN at *
            go_wp2_with (first | (go_at_call 48; refine hstl.mono ?_; rintro e w5 ⟨rfl, hb5⟩; have hA5 := hA.below hb5 lA; have hS5 := hS.below hb5 lS; have lA5 := hA5.lt; have lS5 := hS5.lt; have hbel5 := hbel.trans (hb5.mono hbel.size)) | (go_at_call 37; refine (hst _ hA5.gat).mono ?_; rintro e w6 ⟨rfl, hb6⟩; have hA6 := hA5.below hb6 lA5; have hS6 := hS5.below hb6 lS5; have hbel6 := hbel5.trans (hb6.mono hbel5.size)) | (refine wpList_store_blk rfl rfl rfl rfl row66 hA6 (Gr.size _) (Gr.size _) (Gr.one _) ?_))
            go_roundw
            case rel => exact ⟨k + 1, VN, GN, by omega, by go_num, rfl, HNX, hGo, hGs, hA6.setRow _, hS6.rowOther _ (by omega), below_setRow hbel6 (by omega) _⟩
            case measure => simp [intOf]; split <;> omega
          · obtain rfl : k = m := by omega
            have HF := Lib.hid (show until_ part small k 0 g = (zeroG, 0, 7) by rw [HUN.out, Nat.sub_self]; exact until_end HOK.out HS.out _)
            go_wp2_with (first | (go_at_call 48; refine hstl.mono ?_; rintro e w5 ⟨rfl, hb5⟩))
            go_roundw
            case rel => exact ⟨k, 7, G, hk, rfl, rfl, Lib.hid (.inr ⟨.inr rfl, HF.out⟩), hg, hsm, hA.below hb5 lA, hS.below hb5 lS, hbel.trans (hb5.mono hbel.size)⟩
            case measure => (simp [intOf]; try omega)
        · rw [hs] at hstl
          have HF := Lib.hid (FIN2.out (G, (k : Int), 0) (HUN.out.trans (until_still HOK.out hs _ _)))
          clear hs
          go_wp2_with (first | (go_at_call 48; refine hstl.mono ?_; rintro e w5 ⟨rfl, hb5⟩; have hA5 := hA.below hb5 lA; have hS5 := hS.below hb5 lS) | (refine wpList_load_blk rfl rfl rfl row66 hA5 (Gr.size _) ?_) | (refine wpList_store_blk rfl rfl rfl rfl row66 hS5 zeroG.size (Gr.size _) (Gr.one _) ?_))
          refine bodyPost_row3 rfl rfl row66 (hS5.setRow _) (Gr.size _) rfl ⟨?_, below_setRow (hbel.trans (hb5.mono hbel.size)) (by omega) _⟩
          rw [HF.out.1, HF.out.2.1, HF.out.2.2]; rfl
    · have HF := Lib.hid (FIN2.out (zeroG, 0, x) hun)
      clear hun hst
      rcases hx with rfl | rfl
      all_goals
        go_wp2_with (first | (refine wpList_zero rfl rfl built66 ?_) | (refine wpList_store_blk rfl rfl rfl rfl row66 hS zeroG.size zeroG.size zeroG.one ?_))
        refine bodyPost_row3 rfl rfl row66 (hS.setRow _) zeroG.size rfl ⟨?_, below_setRow hbel (by omega) _⟩
        rw [HF.out.1, HF.out.2.1, HF.out.2.2]; rfl
end Go.Proofs.YtmmfnklnmdhkiaaGreat
