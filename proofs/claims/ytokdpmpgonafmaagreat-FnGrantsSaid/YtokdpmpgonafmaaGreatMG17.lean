import Derived.Test.YtokdpmpgonafmaaGreatMG16
/- Sweeps until the heads are still: the walks through the program's settle and the reference's. -/
namespace Go.Proofs.YtokdpmpgonafmaaGreat
open Go.ChangeShapes Go.WideShapes Go.ChangeAt Go.RowKit
set_option linter.unusedVariables false
set_option linter.unusedSimpArgs false
attribute [local irreducible] Calls

/-- What comes of a ground that is swept until it is still, l sweeps being left. -/
def settT (within : Nat) : Nat → Int → Gr → Gr × Int × Int
  | 0, _, _ => (zeroG, 0, 7)
  | l + 1, n, G => if validG (sweepG G) then (if fle (chg G (sweepG G)) within then (sweepG G, n + 1, 0) else settT within l (n + 1) (sweepG G)) else (zeroG, 0, 4)
theorem settT_bad {within : Nat} {G : Gr} (h : validG (sweepG G) = false) (l : Nat) (n : Int) : settT within (l + 1) n G = (zeroG, 0, 4) := by simp [settT, h]
theorem settT_done {within : Nat} {G : Gr} (h : validG (sweepG G) = true) (h2 : fle (chg G (sweepG G)) within = true) (l : Nat) (n : Int) : settT within (l + 1) n G = (sweepG G, n + 1, 0) := by simp [settT, h, h2]
theorem settT_on {within : Nat} {G : Gr} (h : validG (sweepG G) = true) (h2 : fle (chg G (sweepG G)) within = false) (l : Nat) (n : Int) : settT within (l + 1) n G = settT within l (n + 1) (sweepG G) := by simp [settT, h, h2]

set_option maxRecDepth 100000 in
set_option maxHeartbeats 400000 in
theorem settle_any (g : Gr) (within m : Nat) (hg : g.ok) (hv : validG g = true) (hm : m ≤ 1000) (w : World) :
    Calls Tryz.prog 98 #[.agg g.cells, .float .f32 within, .int .i64 m] w fun e w' => e = .returned (.tuple #[.agg (settT within m 0 g).1.cells, .int .i64 (settT within m 0 g).2.1, .int .i64 (settT within m 0 g).2.2]) ∧ Below w.heap.size w w' := by
  obtain ⟨T, hT⟩ : ∃ T, T = settT within m 0 g := ⟨_, rfl⟩
  obtain ⟨R, hR⟩ : ∃ R, R = T.1.cells := ⟨_, rfl⟩
  obtain ⟨U, hU⟩ : ∃ U, U = T.2.1 := ⟨_, rfl⟩
  obtain ⟨V, hV⟩ : ∃ V, V = T.2.2 := ⟨_, rfl⟩
  rw [← hT, ← hR, ← hU, ← hV]
  have FIN2 : Hid (∀ X : Gr × Int × Int, settT within m 0 g = X → R = X.1.cells ∧ U = X.2.1 ∧ V = X.2.2) := Lib.hid fun X h => by rw [hR, hU, hV, hT, h]; exact ⟨rfl, rfl, rfl⟩
  clear hT hR hU hV
  have hm' : (m : Int) ≤ 1000 := by omega
  have bm : (0 : Int) ≤ m := by omega
  go_enter Tryz.func98, Tryz.ntmps98
  go_upto_region 2 with (first | (refine wpList_box_as rfl rfl rfl ?_) | (refine wpList_alloc_as rfl rfl zero66z ?_))
  have hA : Blk ((w.alloc (.cells g.cells 39)).alloc (.cells zeroG.cells 39)) w.heap.size g.cells 39 := (Blk.new _ _ _).alloc _
  have hS : Blk ((w.alloc (.cells g.cells 39)).alloc (.cells zeroG.cells 39)) (w.heap.size + 1) zeroG.cells 39 := Blk.new1 _ _ _ _
  have hbel := below2 w (.cells g.cells 39) (.cells zeroG.cells 39)
  generalize ((w.alloc (.cells g.cells 39)).alloc (.cells zeroG.cells 39)) = W at *
  go_loopw [9] (fun i wr => ∃ (k : Nat) (G : Gr), k ≤ m ∧ i = .int .i64 k ∧ Hid (settT within m 0 g = settT within (m - k) k G) ∧ G.ok ∧ validG G = true ∧ Blk wr w.heap.size G.cells 39 ∧ Blk wr (w.heap.size + 1) zeroG.cells 39 ∧ Below w.heap.size w wr) (fun i _ => m - (intOf i).toNat)
  case atStart => exact ⟨0, g, by omega, rfl, Lib.hid rfl, hg, hv, hA, hS, hbel⟩
  case round =>
    clear hA hS hbel hg hv
    obtain ⟨k, G, hk, rfl, hun, hg, hv, hA, hS, hbel⟩ := hrel
    have bk : (0 : Int) ≤ k := by omega
    have bkm : (k : Int) ≤ m := by omega
    have lS := hS.lt
    have lA := hA.lt
    by_cases hlt : k < m
    · have bl : (k : Int) < m := by omega
      have hcl := cells_any G w.heap.size hg wr hA.gat
      have hsw := fun w' p c h1 h2 => sweep_any G w.heap.size p c hg hv w' h1 h2
      have hmk : m - k = (m - (k + 1)) + 1 := by omega
      cases hvs : validG (sweepG G)
      · have HF := Lib.hid (FIN2.out (zeroG, 0, 4) (by rw [hun.out, hmk]; exact settT_bad hvs _ _))
        have e1 : tolR G (sweepG G) = zeroG := by unfold tolR; rw [hvs]; rfl
        have e2 : tolC G (sweepG G) = 4 := by unfold tolC; rw [hvs]; rfl
        rw [e1, e2] at hsw
        generalize tolM G (sweepG G) = X at *
        clear e1 e2 hvs hv
        go_wp2_with (first | (go_at_call 111; refine hcl.mono ?_; rintro e w3 ⟨p, cap1, rfl, hp, hown, hb3⟩; have hA3 := hA.below hb3 lA; have hS3 := hS.below hb3 lS; have lS3 := hS3.lt) | (go_at_call 110; refine (hsw _ _ _ hA3.gat hown).mono ?_; rintro e w5 ⟨rfl, hb5⟩; have hS5 := (hS3.below hb5 lS3).alloc (.cells zeroG.cells 39)) | (refine wpList_alloc_as rfl rfl zero66z ?_) | (refine wpList_store_last rfl rfl rfl rfl rfl (by rw [Gr.size]; kernel_rfl) rfl (List.all_eq_true.2 (Gr.one _)) ?_) | (refine wpList_zero rfl rfl built66 ?_) | (refine wpList_store_blk rfl rfl rfl rfl row66 hS5 zeroG.size zeroG.size zeroG.one ?_))
        have hbel3 := hbel.trans (hb3.mono hbel.size)
        have hbel5 := hbel3.trans (hb5.mono hbel3.size)
        have hbel5 := hbel5.alloc hbel5.size (.cells zeroG.cells 39)
        refine bodyPost_row3 rfl rfl row66 (hS5.setRow _) zeroG.size rfl ⟨?_, below_setRow hbel5 (by omega) _⟩
        rw [HF.out.1, HF.out.2.1, HF.out.2.2]; rfl
      · have e1 : tolR G (sweepG G) = sweepG G := by unfold tolR; rw [hvs]; rfl
        have e2 : tolC G (sweepG G) = 0 := by unfold tolC; rw [hvs]; rfl
        have e3 : tolM G (sweepG G) = chg G (sweepG G) := by unfold tolM; rw [hvs]; rfl
        rw [e1, e2, e3] at hsw
        have h0 := fle_eq (chg G (sweepG G)) within
        have hok := sweepG_ok hg
        cases hle : fle (chg G (sweepG G)) within
        · rw [hle] at h0
          have HUN : Hid (settT within m 0 g = settT within (m - (k + 1)) ((k + 1 : Nat) : Int) (sweepG G)) := Lib.hid (by rw [hun.out, hmk]; exact settT_on hvs hle _ _)
          generalize chg G (sweepG G) = X at *
          generalize sweepG G = GN at *
          clear e1 e2 e3 hv hle hun
          go_upto_region 4 with (first | (go_at_call 111; refine hcl.mono ?_; rintro e w3 ⟨p, cap1, rfl, hp, hown, hb3⟩; have hA3 := hA.below hb3 lA; have hS3 := hS.below hb3 lS; have lS3 := hS3.lt; have lA3 := hA3.lt) | (go_at_call 110; refine (hsw _ _ _ hA3.gat hown).mono ?_; rintro e w5 ⟨rfl, hb5⟩) | (refine wpList_alloc_as rfl rfl zero66z ?_) | (refine wpList_store_last rfl rfl rfl rfl rfl (by rw [Gr.size]; kernel_rfl) (by rw [Gr.size, Gr.size]) (List.all_eq_true.2 (Gr.one _)) ?_))
          have hA5 := (hA3.below hb5 lA3).alloc (.cells GN.cells 39)
          have hS5 := (hS3.below hb5 lS3).alloc (.cells GN.cells 39)
          have hN5 := Blk.new w5 GN.cells 39
          have hbel3 := hbel.trans (hb3.mono hbel.size)
          have hbel5 := hbel3.trans (hb5.mono hbel3.size)
          have hbel5 := hbel5.alloc hbel5.size (.cells GN.cells 39)
          generalize w5.alloc (.cells GN.cells 39) = W5 at *
          generalize w5.heap.size = q5 at *
          clear hA hS hbel hcl hsw hown hA3 hS3 lA3 lS3 hb3 hb5 hbel3
          go_wp2_with (first | (refine wpList_load_blk rfl rfl rfl row66 hN5 (Gr.size _) ?_) | (refine wpList_store_blk rfl rfl rfl rfl row66 hA5 (Gr.size _) (Gr.size _) (Gr.one _) ?_))
          go_roundw
          case rel => exact ⟨k + 1, GN, by omega, by go_num, HUN, hok, hvs, hA5.setRow _, hS5.rowOther _ (by omega), below_setRow hbel5 (by omega) _⟩
          case measure => (simp [intOf]; try omega)
        · rw [hle] at h0
          have HF := Lib.hid (FIN2.out (sweepG G, (k : Int) + 1, 0) (by rw [hun.out, hmk]; exact settT_done hvs hle _ _))
          generalize chg G (sweepG G) = X at *
          generalize sweepG G = GN at *
          clear e1 e2 e3 hv hle hun
          go_upto_region 4 with (first | (go_at_call 111; refine hcl.mono ?_; rintro e w3 ⟨p, cap1, rfl, hp, hown, hb3⟩; have hA3 := hA.below hb3 lA; have hS3 := hS.below hb3 lS; have lS3 := hS3.lt; have lA3 := hA3.lt) | (go_at_call 110; refine (hsw _ _ _ hA3.gat hown).mono ?_; rintro e w5 ⟨rfl, hb5⟩) | (refine wpList_alloc_as rfl rfl zero66z ?_) | (refine wpList_store_last rfl rfl rfl rfl rfl (by rw [Gr.size]; kernel_rfl) (by rw [Gr.size, Gr.size]) (List.all_eq_true.2 (Gr.one _)) ?_))
          have hA5 := (hA3.below hb5 lA3).alloc (.cells GN.cells 39)
          have hS5 := (hS3.below hb5 lS3).alloc (.cells GN.cells 39)
          have hN5 := Blk.new w5 GN.cells 39
          have hbel3 := hbel.trans (hb3.mono hbel.size)
          have hbel5 := hbel3.trans (hb5.mono hbel3.size)
          have hbel5 := hbel5.alloc hbel5.size (.cells GN.cells 39)
          generalize w5.alloc (.cells GN.cells 39) = W5 at *
          generalize w5.heap.size = q5 at *
          clear hA hS hbel hcl hsw hown hA3 hS3 lA3 lS3 hb3 hb5 hbel3
          go_wp2_with (first | (refine wpList_load_blk rfl rfl rfl row66 hN5 (Gr.size _) ?_) | (refine wpList_store_blk rfl rfl rfl rfl row66 hA5 (Gr.size _) (Gr.size _) (Gr.one _) ?_; have hA6 := hA5.setRow GN.cells; have hS6 := hS5.rowOther (g := w.heap.size) GN.cells (by omega)) | (refine wpList_load_blk rfl rfl rfl row66 hA6 (Gr.size _) ?_) | (refine wpList_store_blk rfl rfl rfl rfl row66 hS6 (Gr.size _) (Gr.size _) (Gr.one _) ?_))
          refine bodyPost_row3 rfl rfl row66 (hS6.setRow _) (Gr.size _) rfl ⟨?_, below_setRow (below_setRow hbel5 (by omega) _) (by omega) _⟩
          rw [HF.out.1, HF.out.2.1, HF.out.2.2]; rfl
    · obtain rfl : k = m := by omega
      have HF := Lib.hid (FIN2.out (zeroG, 0, 7) (by rw [hun.out, Nat.sub_self]; rfl))
      go_wp2_with (first | (refine wpList_zero rfl rfl built66 ?_) | (refine wpList_store_blk rfl rfl rfl rfl row66 hS zeroG.size zeroG.size zeroG.one ?_))
      refine bodyPost_row3 rfl rfl row66 (hS.setRow _) zeroG.size rfl ⟨?_, below_setRow hbel (by omega) _⟩
      rw [HF.out.1, HF.out.2.1, HF.out.2.2]; rfl

set_option maxRecDepth 100000 in
set_option maxHeartbeats 400000 in
theorem l02Settle_any (g : Gr) (b within m : Nat) (hg : g.ok) (hv : validG g = true) (hm : m ≤ 1000) (w : World) (hb : GAt w b g) :
    Calls Tryz.prog 101 #[.pointer (some ⟨b, 0, none⟩), .float .f32 within, .int .i64 m] w fun e w' => e = .returned (.tuple #[.agg (settT within m 0 g).1.cells, .int .i64 (settT within m 0 g).2.1, .int .i64 (settT within m 0 g).2.2]) ∧ Below w.heap.size w w' := by
  obtain ⟨T, hT⟩ : ∃ T, T = settT within m 0 g := ⟨_, rfl⟩
  obtain ⟨R, hR⟩ : ∃ R, R = T.1.cells := ⟨_, rfl⟩
  obtain ⟨U, hU⟩ : ∃ U, U = T.2.1 := ⟨_, rfl⟩
  obtain ⟨V, hV⟩ : ∃ V, V = T.2.2 := ⟨_, rfl⟩
  rw [← hT, ← hR, ← hU, ← hV]
  have FIN2 : Hid (∀ X : Gr × Int × Int, settT within m 0 g = X → R = X.1.cells ∧ U = X.2.1 ∧ V = X.2.2) := Lib.hid fun X h => by rw [hR, hU, hV, hT, h]; exact ⟨rfl, rfl, rfl⟩
  clear hT hR hU hV
  have hm' : (m : Int) ≤ 1000 := by omega
  have bm : (0 : Int) ≤ m := by omega
  go_enter Tryz.func101, Tryz.ntmps101
  go_upto_region 1 with (refine wpList_alloc_as rfl rfl zero66z ?_)
  have hS := Blk.new w zeroG.cells 39
  have hb := hb.alloc (.cells zeroG.cells 39)
  have hbel := below1 w (.cells zeroG.cells 39)
  generalize w.alloc (.cells zeroG.cells 39) = W at *
  have lS := hS.lt
  go_upto_region 2 with (first | (refine wpList_load_gat rfl rfl rfl row66 hb ?_) | (refine wpList_alloc_as rfl rfl zero66z ?_) | (refine wpList_store_last rfl rfl rfl rfl rfl (by rw [g.size]; kernel_rfl) (by rw [g.size, zeroG.size]) (List.all_eq_true.2 g.one) ?_))
  have hA := Blk.new W g.cells 39
  have hS := hS.alloc (.cells g.cells 39)
  have hbel := hbel.alloc hbel.size (.cells g.cells 39)
  generalize W.alloc (.cells g.cells 39) = W2 at *
  generalize W.heap.size = r at *
  clear hb
  go_upto_region 3 with fail
  go_loopw [10] (fun i wr => ∃ (k : Nat) (G : Gr), k ≤ m ∧ i = .int .i64 (k + 1 : Int) ∧ Hid (settT within m 0 g = settT within (m - k) k G) ∧ G.ok ∧ validG G = true ∧ Blk wr r G.cells 39 ∧ Blk wr w.heap.size zeroG.cells 39 ∧ Below w.heap.size w wr) (fun i _ => m + 1 - (intOf i).toNat)
  case atStart => exact ⟨0, g, by omega, rfl, Lib.hid rfl, hg, hv, hA, hS, hbel⟩
  case round =>
    clear hA hS hbel hg hv
    obtain ⟨k, G, hk, rfl, hun, hg, hv, hA, hS, hbel⟩ := hrel
    have bk : (0 : Int) ≤ k := by omega
    have bkm : (k : Int) ≤ m := by omega
    have lS2 := hS.lt
    have lA := hA.lt
    by_cases hlt : k < m
    · have bl : (k : Int) + 1 ≤ m := by omega
      have hsw := fun w' h1 => l02Sweep_any G r hg hv w' h1
      have hmk : m - k = (m - (k + 1)) + 1 := by omega
      cases hvs : validG (sweepG G)
      · have HF := Lib.hid (FIN2.out (zeroG, 0, 4) (by rw [hun.out, hmk]; exact settT_bad hvs _ _))
        have e1 : tolR G (sweepG G) = zeroG := by unfold tolR; rw [hvs]; rfl
        have e2 : tolC G (sweepG G) = 4 := by unfold tolC; rw [hvs]; rfl
        rw [e1, e2] at hsw
        generalize tolM G (sweepG G) = X at *
        clear e1 e2 hvs hv
        go_wp2_with (first | (go_at_call 112; refine (hsw _ hA.gat).mono ?_; rintro e w5 ⟨mm, rfl, hmm, hb5⟩; have hS5 := (hS.below hb5 lS2).alloc (.cells zeroG.cells 39)) | (refine wpList_alloc_as rfl rfl zero66z ?_) | (refine wpList_store_last rfl rfl rfl rfl rfl (by rw [Gr.size]; kernel_rfl) rfl (List.all_eq_true.2 (Gr.one _)) ?_) | (refine wpList_zero rfl rfl built66 ?_) | (refine wpList_store_blk rfl rfl rfl rfl row66 hS5 zeroG.size zeroG.size zeroG.one ?_))
        have hbel5 := hbel.trans (hb5.mono hbel.size)
        have hbel5 := hbel5.alloc hbel5.size (.cells zeroG.cells 39)
        refine bodyPost_row3 rfl rfl row66 (hS5.setRow _) zeroG.size rfl ⟨?_, below_setRow hbel5 (by omega) _⟩
        rw [HF.out.1, HF.out.2.1, HF.out.2.2]; rfl
      · have e1 : tolR G (sweepG G) = sweepG G := by unfold tolR; rw [hvs]; rfl
        have e2 : tolC G (sweepG G) = 0 := by unfold tolC; rw [hvs]; rfl
        have e3 : tolM G (sweepG G) = chg G (sweepG G) := by unfold tolM; rw [hvs]; rfl
        rw [e1, e2, e3] at hsw
        have hok := sweepG_ok hg
        cases hle : fle (chg G (sweepG G)) within
        · have HUN : Hid (settT within m 0 g = settT within (m - (k + 1)) ((k + 1 : Nat) : Int) (sweepG G)) := Lib.hid (by rw [hun.out, hmk]; exact settT_on hvs hle _ _)
          have HLE := Lib.hid hle
          generalize chg G (sweepG G) = X at *
          generalize sweepG G = GN at *
          clear e1 e2 e3 hv hle hun
          go_upto_region 6 with (first | (go_at_call 112; refine (hsw _ hA.gat).mono ?_; rintro e w5 ⟨mm, rfl, hmm, hb5⟩) | (refine wpList_alloc_as rfl rfl zero66z ?_) | (refine wpList_store_last rfl rfl rfl rfl rfl (by rw [Gr.size]; kernel_rfl) (by rw [Gr.size, Gr.size]) (List.all_eq_true.2 (Gr.one _)) ?_))
          have h0 := fle_eq mm within
          rw [fle_rd hmm, HLE.out] at h0
          have hA5 := (hA.below hb5 lA).alloc (.cells GN.cells 39)
          have hS5 := (hS.below hb5 lS2).alloc (.cells GN.cells 39)
          have hN5 := Blk.new w5 GN.cells 39
          have hbel5 := hbel.trans (hb5.mono hbel.size)
          have hbel5 := hbel5.alloc hbel5.size (.cells GN.cells 39)
          generalize w5.alloc (.cells GN.cells 39) = W5 at *
          generalize w5.heap.size = q5 at *
          clear hA hS hbel hsw hb5 hmm
          go_wp2_with (first | (refine wpList_load_blk rfl rfl rfl row66 hN5 (Gr.size _) ?_) | (refine wpList_store_blk rfl rfl rfl rfl row66 hA5 (Gr.size _) (Gr.size _) (Gr.one _) ?_))
          go_roundw
          case rel => exact ⟨k + 1, GN, by omega, by go_num, HUN, hok, hvs, hA5.setRow _, hS5.rowOther _ (by omega), below_setRow hbel5 (by omega) _⟩
          case measure => (simp [intOf]; try omega)
        · have HF := Lib.hid (FIN2.out (sweepG G, (k : Int) + 1, 0) (by rw [hun.out, hmk]; exact settT_done hvs hle _ _))
          have HLE := Lib.hid hle
          generalize chg G (sweepG G) = X at *
          generalize sweepG G = GN at *
          clear e1 e2 e3 hv hle hun
          go_upto_region 6 with (first | (go_at_call 112; refine (hsw _ hA.gat).mono ?_; rintro e w5 ⟨mm, rfl, hmm, hb5⟩) | (refine wpList_alloc_as rfl rfl zero66z ?_) | (refine wpList_store_last rfl rfl rfl rfl rfl (by rw [Gr.size]; kernel_rfl) (by rw [Gr.size, Gr.size]) (List.all_eq_true.2 (Gr.one _)) ?_))
          have h0 := fle_eq mm within
          rw [fle_rd hmm, HLE.out] at h0
          have hA5 := (hA.below hb5 lA).alloc (.cells GN.cells 39)
          have hS5 := (hS.below hb5 lS2).alloc (.cells GN.cells 39)
          have hN5 := Blk.new w5 GN.cells 39
          have hbel5 := hbel.trans (hb5.mono hbel.size)
          have hbel5 := hbel5.alloc hbel5.size (.cells GN.cells 39)
          generalize w5.alloc (.cells GN.cells 39) = W5 at *
          generalize w5.heap.size = q5 at *
          clear hA hS hbel hsw hb5 hmm
          go_wp2_with (first | (refine wpList_load_blk rfl rfl rfl row66 hN5 (Gr.size _) ?_) | (refine wpList_store_blk rfl rfl rfl rfl row66 hA5 (Gr.size _) (Gr.size _) (Gr.one _) ?_; have hA6 := hA5.setRow GN.cells; have hS6 := hS5.rowOther (g := r) GN.cells (by omega)) | (refine wpList_load_blk rfl rfl rfl row66 hA6 (Gr.size _) ?_) | (refine wpList_store_blk rfl rfl rfl rfl row66 hS6 (Gr.size _) (Gr.size _) (Gr.one _) ?_))
          refine bodyPost_row3 rfl rfl row66 (hS6.setRow _) (Gr.size _) rfl ⟨?_, below_setRow (below_setRow hbel5 (by omega) _) (by omega) _⟩
          rw [HF.out.1, HF.out.2.1, HF.out.2.2]; rfl
    · obtain rfl : k = m := by omega
      have HF := Lib.hid (FIN2.out (zeroG, 0, 7) (by rw [hun.out, Nat.sub_self]; rfl))
      have bl : ¬ ((k : Int) + 1 ≤ k) := by omega
      go_wp2_with (first | (refine wpList_zero rfl rfl built66 ?_) | (refine wpList_store_blk rfl rfl rfl rfl row66 hS zeroG.size zeroG.size zeroG.one ?_))
      refine bodyPost_row3 rfl rfl row66 (hS.setRow _) zeroG.size rfl ⟨?_, below_setRow hbel (by omega) _⟩
      rw [HF.out.1, HF.out.2.1, HF.out.2.2]; rfl
end Go.Proofs.YtokdpmpgonafmaaGreat
