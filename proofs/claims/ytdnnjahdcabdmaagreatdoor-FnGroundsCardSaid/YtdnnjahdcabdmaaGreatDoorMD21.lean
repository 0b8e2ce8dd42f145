import Derived.Test.YtdnnjahdcabdmaaGreatDoorMD20
import Derived.Test.YtdnnjahdcabdmaaGreatDoorMD04
import Derived.Test.YtdnnjahdcabdmaaGreatDoorMD02
import Derived.Test.YtdnnjahdcabdmaaGreatDoorMD03
import Derived.Test.YtdnnjahdcabdmaaGreatDoorMD06
import Derived.Test.YtdnnjahdcabdmaaGreatDoorMD07
import Derived.StillTailTactics
/- Sweeps until the heads are still: the walks through the program's settle and the reference's. -/
namespace Go.Proofs.YtdnnjahdcabdmaaGreatDoor
open Go.ChangeShapes Go.WideShapes Go.ChangeAt Go.RowKit
set_option linter.unusedVariables false
set_option linter.unusedSimpArgs false
attribute [local irreducible] Calls

/-- What comes of a ground that is swept until it is still, l sweeps being left. -/
def settT (within : Nat) : Nat → Int → Gr → Gr × Int × Int
  | 0, _, _ => (zeroG, 0, 7)
  | l + 1, n, G => if validG (sweepG G) then (if fle (chg G (sweepG G)) within then (sweepG G, n + 1, 0) else settT within l (n + 1) (sweepG G)) else (zeroG, 0, 4)
theorem settT_bad {within : Nat} {G : Gr} (h : validG (sweepG G) = false) (l : Nat) (n : Int) : settT within (l + 1) n G = (zeroG, 0, 4) := by simp [settT, h]
theorem settT_done {within : Nat} {G : Gr} (h : validG (sweepG G) = true) (h2 : fle (chg G (sweepG G)) within = true) (l : Nat) (n : Int) : settT within (l + 1) n G = (sweepG G, n + 1, 0) := by simp [settT, h, h2]
theorem settT_on {within : Nat} {G : Gr} (h : validG (sweepG G) = true) (h2 : fle (chg G (sweepG G)) within = false) (l : Nat) (n : Int) : settT within (l + 1) n G = settT within l (n + 1) (sweepG G) := by simp [settT, h, h2]

set_option maxRecDepth 100000 in
set_option maxHeartbeats 400000 in
theorem settle_any (g : Gr) (within m : Nat) (hg : g.ok) (hv : validG g = true) (hm : m ≤ 1000) (w : World) :
    Calls Tryz.prog 108 #[.agg g.cells, .float .f32 within, .int .i64 m] w fun e w' => e = .returned (.tuple #[.agg (settT within m 0 g).1.cells, .int .i64 (settT within m 0 g).2.1, .int .i64 (settT within m 0 g).2.2]) ∧ Below w.heap.size w w' := by
  obtain ⟨T, hT⟩ : ∃ T, T = settT within m 0 g := ⟨_, rfl⟩
  obtain ⟨R, hR⟩ : ∃ R, R = T.1.cells := ⟨_, rfl⟩
  obtain ⟨U, hU⟩ : ∃ U, U = T.2.1 := ⟨_, rfl⟩
  obtain ⟨V, hV⟩ : ∃ V, V = T.2.2 := ⟨_, rfl⟩
  rw [← hT, ← hR, ← hU, ← hV]
  have FIN2 : Hid (∀ X : Gr × Int × Int, settT within m 0 g = X → R = X.1.cells ∧ U = X.2.1 ∧ V = X.2.2) := Lib.hid fun X h => by rw [hR, hU, hV, hT, h]; exact ⟨rfl, rfl, rfl⟩
  clear hT hR hU hV
  have hm' : (m : Int) ≤ 1000 := by omega
  have bm : (0 : Int) ≤ m := by omega
  go_enter Tryz.func108, Tryz.ntmps108
  go_upto_region 2 with (first | (refine wpList_box_as rfl rfl rfl ?_) | (refine wpList_alloc_as rfl rfl zero66z ?_))
  have hA : Blk ((w.alloc (.cells g.cells 30)).alloc (.cells zeroG.cells 30)) w.heap.size g.cells 30 := (Blk.new _ _ _).alloc _
  have hS : Blk ((w.alloc (.cells g.cells 30)).alloc (.cells zeroG.cells 30)) (w.heap.size + 1) zeroG.cells 30 := Blk.new1 _ _ _ _
  have hbel := below2 w (.cells g.cells 30) (.cells zeroG.cells 30)
  generalize ((w.alloc (.cells g.cells 30)).alloc (.cells zeroG.cells 30)) = W at *
  go_loopw [9] (fun i wr => ∃ (k : Nat) (G : Gr), k ≤ m ∧ i = .int .i64 k ∧ Hid (settT within m 0 g = settT within (m - k) k G) ∧ G.ok ∧ validG G = true ∧ Blk wr w.heap.size G.cells 30 ∧ Blk wr (w.heap.size + 1) zeroG.cells 30 ∧ Below w.heap.size w wr) (fun i _ => m - (intOf i).toNat)
  case atStart => exact ⟨0, g, by omega, rfl, Lib.hid rfl, hg, hv, hA, hS, hbel⟩
  case round =>
    clear hA hS hbel hg hv
    obtain ⟨k, G, hk, rfl, hun, hg, hv, hA, hS, hbel⟩ := hrel
    have bk : (0 : Int) ≤ k := by omega
    have bkm : (k : Int) ≤ m := by omega
    have lS := hS.lt
    have lA := hA.lt
    by_cases hlt : k < m
    · have bl : (k : Int) < m := by omega
      have hcl := cells_any G w.heap.size hg wr hA.gat
      have hsw := fun w' p c h1 h2 => sweep_any G w.heap.size p c hg hv w' h1 h2
      have hmk : m - k = (m - (k + 1)) + 1 := by omega
      cases hvs : validG (sweepG G)
      · have HF := Lib.hid (FIN2.out (zeroG, 0, 4) (by rw [hun.out, hmk]; exact settT_bad hvs _ _))
        have e1 : tolR G (sweepG G) = zeroG := by unfold tolR; rw [hvs]; rfl
        have e2 : tolC G (sweepG G) = 4 := by unfold tolC; rw [hvs]; rfl
        rw [e1, e2] at hsw
        generalize tolM G (sweepG G) = X at *
        clear e1 e2 hvs hv
        go_wp2_with (first | (go_at_call 73; refine hcl.mono ?_; rintro e w3 ⟨p, cap1, rfl, hp, hown, hb3⟩; have hA3 := hA.below hb3 lA; have hS3 := hS.below hb3 lS; have lS3 := hS3.lt) | (go_at_call 145; refine (hsw _ _ _ hA3.gat hown).mono ?_; rintro e w5 ⟨rfl, hb5⟩; have hS5 := (hS3.below hb5 lS3).alloc (.cells zeroG.cells 30)) | (refine wpList_alloc_as rfl rfl zero66z ?_) | (refine wpList_store_last rfl rfl rfl rfl rfl (by rw [Gr.size]; kernel_rfl) rfl (List.all_eq_true.2 (Gr.one _)) ?_) | (refine wpList_zero rfl rfl built66 ?_) | (refine wpList_store_blk rfl rfl rfl rfl row66 hS5 zeroG.size zeroG.size zeroG.one ?_))
        have hbel3 := hbel.trans (hb3.mono hbel.size)
        have hbel5 := hbel3.trans (hb5.mono hbel3.size)
        have hbel5 := hbel5.alloc hbel5.size (.cells zeroG.cells 30)
        refine bodyPost_row3 rfl rfl row66 (hS5.setRow _) zeroG.size rfl ⟨?_, below_setRow hbel5 (by omega) _⟩
        rw [HF.out.1, HF.out.2.1, HF.out.2.2]; rfl
      · have e1 : tolR G (sweepG G) = sweepG G := by unfold tolR; rw [hvs]; rfl
        have e2 : tolC G (sweepG G) = 0 := by unfold tolC; rw [hvs]; rfl
        have e3 : tolM G (sweepG G) = chg G (sweepG G) := by unfold tolM; rw [hvs]; rfl
        rw [e1, e2, e3] at hsw
        have h0 := fle_eq (chg G (sweepG G)) within
        have hok := sweepG_ok hg
        cases hle : fle (chg G (sweepG G)) within
        · rw [hle] at h0
          have HUN : Hid (settT within m 0 g = settT within (m - (k + 1)) ((k + 1 : Nat) : Int) (sweepG G)) := Lib.hid (by rw [hun.out, hmk]; exact settT_on hvs hle _ _)
          generalize chg G (sweepG G) = X at *
          generalize sweepG G = GN at *
          clear e1 e2 e3 hv hle hun
          go_upto_region 4 with (first | (go_at_call 73; refine hcl.mono ?_; rintro e w3 ⟨p, cap1, rfl, hp, hown, hb3⟩; have hA3 := hA.below hb3 lA; have hS3 := hS.below hb3 lS; have lS3 := hS3.lt; have lA3 := hA3.lt) | (go_at_call 145; refine (hsw _ _ _ hA3.gat hown).mono ?_; rintro e w5 ⟨rfl, hb5⟩) | (refine wpList_alloc_as rfl rfl zero66z ?_) | (refine wpList_store_last rfl rfl rfl rfl rfl (by rw [Gr.size]; kernel_rfl) (by rw [Gr.size, Gr.size]) (List.all_eq_true.2 (Gr.one _)) ?_))
          have hA5 := (hA3.below hb5 lA3).alloc (.cells GN.cells 30)
          have hS5 := (hS3.below hb5 lS3).alloc (.cells GN.cells 30)
          have hN5 := Blk.new w5 GN.cells 30
          have hbel3 := hbel.trans (hb3.mono hbel.size)
          have hbel5 := hbel3.trans (hb5.mono hbel3.size)
          have hbel5 := hbel5.alloc hbel5.size (.cells GN.cells 30)
          generalize w5.alloc (.cells GN.cells 30) = W5 at *
          generalize w5.heap.size = q5 at *
          clear hA hS hbel hcl hsw hown hA3 hS3 lA3 lS3 hb3 hb5 hbel3
          go_wp2_with (first | (refine wpList_load_blk rfl rfl rfl row66 hN5 (Gr.size _) ?_) | (refine wpList_store_blk rfl rfl rfl rfl row66 hA5 (Gr.size _) (Gr.size _) (Gr.one _) ?_))
          go_roundw
          case rel => exact ⟨k + 1, GN, by omega, by go_num, HUN, hok, hvs, hA5.setRow _, hS5.rowOther _ (by omega), below_setRow hbel5 (by omega) _⟩
          case measure => (simp [intOf]; try omega)
        · rw [hle] at h0
          have HF := Lib.hid (FIN2.out (sweepG G, (k : Int) + 1, 0) (by rw [hun.out, hmk]; exact settT_done hvs hle _ _))
          generalize chg G (sweepG G) = X at *
          generalize sweepG G = GN at *
          clear e1 e2 e3 hv hle hun
          go_upto_region 4 with (first | (go_at_call 73; refine hcl.mono ?_; rintro e w3 ⟨p, cap1, rfl, hp, hown, hb3⟩; have hA3 := hA.below hb3 lA; have hS3 := hS.below hb3 lS; have lS3 := hS3.lt; have lA3 := hA3.lt) | (go_at_call 145; refine (hsw _ _ _ hA3.gat hown).mono ?_; rintro e w5 ⟨rfl, hb5⟩) | (refine wpList_alloc_as rfl rfl zero66z ?_) | (refine wpList_store_last rfl rfl rfl rfl rfl (by rw [Gr.size]; kernel_rfl) (by rw [Gr.size, Gr.size]) (List.all_eq_true.2 (Gr.one _)) ?_))
          have hA5 := (hA3.below hb5 lA3).alloc (.cells GN.cells 30)
          have hS5 := (hS3.below hb5 lS3).alloc (.cells GN.cells 30)
          have hN5 := Blk.new w5 GN.cells 30
          have hbel3 := hbel.trans (hb3.mono hbel.size)
          have hbel5 := hbel3.trans (hb5.mono hbel3.size)
          have hbel5 := hbel5.alloc hbel5.size (.cells GN.cells 30)
          generalize w5.alloc (.cells GN.cells 30) = W5 at *
          generalize w5.heap.size = q5 at *
          clear hA hS hbel hcl hsw hown hA3 hS3 lA3 lS3 hb3 hb5 hbel3
          go_wp2_with (first | (refine wpList_load_blk rfl rfl rfl row66 hN5 (Gr.size _) ?_) | (refine wpList_store_blk rfl rfl rfl rfl row66 hA5 (Gr.size _) (Gr.size _) (Gr.one _) ?_; have hA6 := hA5.setRow GN.cells; have hS6 := hS5.rowOther (g := w.heap.size) GN.cells (by omega)) | (refine wpList_load_blk rfl rfl rfl row66 hA6 (Gr.size _) ?_) | (refine wpList_store_blk rfl rfl rfl rfl row66 hS6 (Gr.size _) (Gr.size _) (Gr.one _) ?_))
          refine bodyPost_row3 rfl rfl row66 (hS6.setRow _) (Gr.size _) rfl ⟨?_, below_setRow (below_setRow hbel5 (by omega) _) (by omega) _⟩
          rw [HF.out.1, HF.out.2.1, HF.out.2.2]; rfl
    · obtain rfl : k = m := by omega
      have HF := Lib.hid (FIN2.out (zeroG, 0, 7) (by rw [hun.out, Nat.sub_self]; rfl))
      go_wp2_with (first | (refine wpList_zero rfl rfl built66 ?_) | (refine wpList_store_blk rfl rfl rfl rfl row66 hS zeroG.size zeroG.size zeroG.one ?_))
      refine bodyPost_row3 rfl rfl row66 (hS.setRow _) zeroG.size rfl ⟨?_, below_setRow hbel (by omega) _⟩
      rw [HF.out.1, HF.out.2.1, HF.out.2.2]; rfl

set_option maxRecDepth 100000 in
set_option maxHeartbeats 400000 in
theorem l02Settle_any (g : Gr) (b within m : Nat) (hg : g.ok) (hv : validG g = true) (hm : m ≤ 1000) (w : World) (hb : GAt w b g) :
    Calls Tryz.prog 111 #[.pointer (some ⟨b, 0, none⟩), .float .f32 within, .int .i64 m] w fun e w' => e = .returned (.tuple #[.agg (settT within m 0 g).1.cells, .int .i64 (settT within m 0 g).2.1, .int .i64 (settT within m 0 g).2.2]) ∧ Below w.heap.size w w' := by
  obtain ⟨T, hT⟩ : ∃ T, T = settT within m 0 g := ⟨_, rfl⟩
  obtain ⟨R, hR⟩ : ∃ R, R = T.1.cells := ⟨_, rfl⟩
  obtain ⟨U, hU⟩ : ∃ U, U = T.2.1 := ⟨_, rfl⟩
  obtain ⟨V, hV⟩ : ∃ V, V = T.2.2 := ⟨_, rfl⟩
  rw [← hT, ← hR, ← hU, ← hV]
  have FIN2 : Hid (∀ X : Gr × Int × Int, settT within m 0 g = X → R = X.1.cells ∧ U = X.2.1 ∧ V = X.2.2) := Lib.hid fun X h => by rw [hR, hU, hV, hT, h]; exact ⟨rfl, rfl, rfl⟩
  clear hT hR hU hV
  have hm' : (m : Int) ≤ 1000 := by omega
  have bm : (0 : Int) ≤ m := by omega
  go_enter Tryz.func111, Tryz.ntmps111
  go_upto_region 1 with (refine wpList_alloc_as rfl rfl zero66z ?_)
  have hS := Blk.new w zeroG.cells 30
  have hb := hb.alloc (.cells zeroG.cells 30)
  have hbel := below1 w (.cells zeroG.cells 30)
  generalize w.alloc (.cells zeroG.cells 30) = W at *
  have lS := hS.lt
  go_upto_region 2 with (first | (refine wpList_load_gat rfl rfl rfl row66 hb ?_) | (refine wpList_alloc_as rfl rfl zero66z ?_) | (refine wpList_store_last rfl rfl rfl rfl rfl (by rw [g.size]; kernel_rfl) (by rw [g.size, zeroG.size]) (List.all_eq_true.2 g.one) ?_))
  have hA := Blk.new W g.cells 30
  have hS := hS.alloc (.cells g.cells 30)
  have hbel := hbel.alloc hbel.size (.cells g.cells 30)
  generalize W.alloc (.cells g.cells 30) = W2 at *
  generalize W.heap.size = r at *
  clear hb
  go_upto_region 3 with fail
  go_loopw [10] (fun i wr => ∃ (k : Nat) (G : Gr), k ≤ m ∧ i = .int .i64 (k + 1 : Int) ∧ Hid (settT within m 0 g = settT within (m - k) k G) ∧ G.ok ∧ validG G = true ∧ Blk wr r G.cells 30 ∧ Blk wr w.heap.size zeroG.cells 30 ∧ Below w.heap.size w wr) (fun i _ => m + 1 - (intOf i).toNat)
  case atStart => exact ⟨0, g, by omega, rfl, Lib.hid rfl, hg, hv, hA, hS, hbel⟩
  case round =>
    clear hA hS hbel hg hv
    obtain ⟨k, G, hk, rfl, hun, hg, hv, hA, hS, hbel⟩ := hrel
    have bk : (0 : Int) ≤ k := by omega
    have bkm : (k : Int) ≤ m := by omega
    have lS2 := hS.lt
    have lA := hA.lt
    by_cases hlt : k < m
    · have bl : (k : Int) + 1 ≤ m := by omega
      have hsw := fun w' h1 => l02Sweep_any G r hg hv w' h1
      have hmk : m - k = (m - (k + 1)) + 1 := by omega
      cases hvs : validG (sweepG G)
      · have HF := Lib.hid (FIN2.out (zeroG, 0, 4) (by rw [hun.out, hmk]; exact settT_bad hvs _ _))
        have e1 : tolR G (sweepG G) = zeroG := by unfold tolR; rw [hvs]; rfl
        have e2 : tolC G (sweepG G) = 4 := by unfold tolC; rw [hvs]; rfl
        rw [e1, e2] at hsw
        generalize tolM G (sweepG G) = X at *
        clear e1 e2 hvs hv
        go_wp2_with (first | (go_at_call 146; refine (hsw _ hA.gat).mono ?_; rintro e w5 ⟨mm, rfl, hmm, hb5⟩; have hS5 := (hS.below hb5 lS2).alloc (.cells zeroG.cells 30)) | (refine wpList_alloc_as rfl rfl zero66z ?_) | (refine wpList_store_last rfl rfl rfl rfl rfl (by rw [Gr.size]; kernel_rfl) rfl (List.all_eq_true.2 (Gr.one _)) ?_) | (refine wpList_zero rfl rfl built66 ?_) | (refine wpList_store_blk rfl rfl rfl rfl row66 hS5 zeroG.size zeroG.size zeroG.one ?_))
        have hbel5 := hbel.trans (hb5.mono hbel.size)
        have hbel5 := hbel5.alloc hbel5.size (.cells zeroG.cells 30)
        refine bodyPost_row3 rfl rfl row66 (hS5.setRow _) zeroG.size rfl ⟨?_, below_setRow hbel5 (by omega) _⟩
        rw [HF.out.1, HF.out.2.1, HF.out.2.2]; rfl
      · have e1 : tolR G (sweepG G) = sweepG G := by unfold tolR; rw [hvs]; rfl
        have e2 : tolC G (sweepG G) = 0 := by unfold tolC; rw [hvs]; rfl
        have e3 : tolM G (sweepG G) = chg G (sweepG G) := by unfold tolM; rw [hvs]; rfl
        rw [e1, e2, e3] at hsw
        have hok := sweepG_ok hg
        cases hle : fle (chg G (sweepG G)) within
        · have HUN : Hid (settT within m 0 g = settT within (m - (k + 1)) ((k + 1 : Nat) : Int) (sweepG G)) := Lib.hid (by rw [hun.out, hmk]; exact settT_on hvs hle _ _)
          have HLE := Lib.hid hle
          generalize chg G (sweepG G) = X at *
          generalize sweepG G = GN at *
          clear e1 e2 e3 hv hle hun
          go_upto_region 6 with (first | (go_at_call 146; refine (hsw _ hA.gat).mono ?_; rintro e w5 ⟨mm, rfl, hmm, hb5⟩) | (refine wpList_alloc_as rfl rfl zero66z ?_) | (refine wpList_store_last rfl rfl rfl rfl rfl (by rw [Gr.size]; kernel_rfl) (by rw [Gr.size, Gr.size]) (List.all_eq_true.2 (Gr.one _)) ?_))
          have h0 := fle_eq mm within
          rw [fle_rd hmm, HLE.out] at h0
          have hA5 := (hA.below hb5 lA).alloc (.cells GN.cells 30)
          have hS5 := (hS.below hb5 lS2).alloc (.cells GN.cells 30)
          have hN5 := Blk.new w5 GN.cells 30
          have hbel5 := hbel.trans (hb5.mono hbel.size)
          have hbel5 := hbel5.alloc hbel5.size (.cells GN.cells 30)
          generalize w5.alloc (.cells GN.cells 30) = W5 at *
          generalize w5.heap.size = q5 at *
          clear hA hS hbel hsw hb5 hmm
          go_wp2_with (first | (refine wpList_load_blk rfl rfl rfl row66 hN5 (Gr.size _) ?_) | (refine wpList_store_blk rfl rfl rfl rfl row66 hA5 (Gr.size _) (Gr.size _) (Gr.one _) ?_))
          go_roundw
          case rel => exact ⟨k + 1, GN, by omega, by go_num, HUN, hok, hvs, hA5.setRow _, hS5.rowOther _ (by omega), below_setRow hbel5 (by omega) _⟩
          case measure => (simp [intOf]; try omega)
        · have HF := Lib.hid (FIN2.out (sweepG G, (k : Int) + 1, 0) (by rw [hun.out, hmk]; exact settT_done hvs hle _ _))
          have HLE := Lib.hid hle
          generalize chg G (sweepG G) = X at *
          generalize sweepG G = GN at *
          clear e1 e2 e3 hv hle hun
          go_upto_region 6 with (first | (go_at_call 146; refine (hsw _ hA.gat).mono ?_; rintro e w5 ⟨mm, rfl, hmm, hb5⟩) | (refine wpList_alloc_as rfl rfl zero66z ?_) | (refine wpList_store_last rfl rfl rfl rfl rfl (by rw [Gr.size]; kernel_rfl) (by rw [Gr.size, Gr.size]) (List.all_eq_true.2 (Gr.one _)) ?_))
          have h0 := fle_eq mm within
          rw [fle_rd hmm, HLE.out] at h0
          have hA5 := (hA.below hb5 lA).alloc (.cells GN.cells 30)
          have hS5 := (hS.below hb5 lS2).alloc (.cells GN.cells 30)
          have hN5 := Blk.new w5 GN.cells 30
          have hbel5 := hbel.trans (hb5.mono hbel.size)
          have hbel5 := hbel5.alloc hbel5.size (.cells GN.cells 30)
          generalize w5.alloc (.cells GN.cells 30) = W5 at *
          generalize w5.heap.size = q5 at *
          clear hA hS hbel hsw hb5 hmm
          go_wp2_with (first | (refine wpList_load_blk rfl rfl rfl row66 hN5 (Gr.size _) ?_) | (refine wpList_store_blk rfl rfl rfl rfl row66 hA5 (Gr.size _) (Gr.size _) (Gr.one _) ?_; have hA6 := hA5.setRow GN.cells; have hS6 := hS5.rowOther (g := r) GN.cells (by omega)) | (refine wpList_load_blk rfl rfl rfl row66 hA6 (Gr.size _) ?_) | (refine wpList_store_blk rfl rfl rfl rfl row66 hS6 (Gr.size _) (Gr.size _) (Gr.one _) ?_))
          refine bodyPost_row3 rfl rfl row66 (hS6.setRow _) (Gr.size _) rfl ⟨?_, below_setRow (below_setRow hbel5 (by omega) _) (by omega) _⟩
          rw [HF.out.1, HF.out.2.1, HF.out.2.2]; rfl
    · obtain rfl : k = m := by omega
      have HF := Lib.hid (FIN2.out (zeroG, 0, 7) (by rw [hun.out, Nat.sub_self]; rfl))
      have bl : ¬ ((k : Int) + 1 ≤ k) := by omega
      go_wp2_with (first | (refine wpList_zero rfl rfl built66 ?_) | (refine wpList_store_blk rfl rfl rfl rfl row66 hS zeroG.size zeroG.size zeroG.one ?_))
      refine bodyPost_row3 rfl rfl row66 (hS.setRow _) zeroG.size rfl ⟨?_, below_setRow hbel (by omega) _⟩
      rw [HF.out.1, HF.out.2.1, HF.out.2.2]; rfl
end Go.Proofs.YtdnnjahdcabdmaaGreatDoor
/- Watches in memory, and the walks over lists of watches that several laws need. -/
namespace Go.Proofs.YtdnnjahdcabdmaaGreatDoor
open Go.ChangeShapes Go.WideShapes Go.ChangeAt Go.RowKit
set_option linter.unusedVariables false
set_option linter.unusedSimpArgs false
attribute [local irreducible] Calls

/-- A watch's numbers. -/
structure Wt where
  cel : Int
  lim : Nat
/-- Each number fits its kind. -/
def Wt.ok (p : Wt) : Prop := -128 ≤ p.cel ∧ p.cel ≤ 127
@[irreducible] def Wt.cells (p : Wt) : Array Value := #[.int .i8 p.cel, .float .f32 p.lim]
theorem Wt.cells_eq (p : Wt) : p.cells = #[.int .i8 p.cel, .float .f32 p.lim] := by unfold Wt.cells; rfl
theorem Wt.cells_size (p : Wt) : p.cells.size = 2 := by rw [p.cells_eq]; rfl
theorem Wt.get0 (p : Wt) : p.cells[0]? = some (.int .i8 p.cel) := by rw [p.cells_eq]; rfl
theorem Wt.get1 (p : Wt) : p.cells[1]? = some (.float .f32 p.lim) := by rw [p.cells_eq]; rfl
theorem Wt.one (p : Wt) : ∀ v ∈ p.cells.toList, v.oneCell' = true := by
  intro v hv; rw [p.cells_eq] at hv; simp at hv; rcases hv with rfl | rfl <;> rfl

/-- n watches, one behind the other. -/
@[irreducible] def wls (n : Nat) (P : Nat → Wt) : List Value := (List.range n).flatMap fun i => (P i).cells.toList
theorem wls_zero (P : Nat → Wt) : wls 0 P = [] := by simp [wls]
theorem wls_succ (n : Nat) (P : Nat → Wt) : wls (n + 1) P = wls n P ++ (P n).cells.toList := by simp [wls, List.range_succ, List.flatMap_append]
theorem wls_length (n : Nat) (P : Nat → Wt) : (wls n P).length = n * 2 := by
  induction n with
  | zero => simp [wls_zero]
  | succ n ih => rw [wls_succ, List.length_append, ih]; simp [Wt.cells_size]; omega
theorem wls_congr {P P' : Nat → Wt} : ∀ {n : Nat}, (∀ i, i < n → P i = P' i) → wls n P = wls n P'
  | 0, _ => by rw [wls_zero, wls_zero]
  | n + 1, h => by rw [wls_succ, wls_succ, wls_congr (fun i hi => h i (by omega)), h n (by omega)]
theorem wls_get (n : Nat) (P : Nat → Wt) (i c : Nat) (h : i < n) (hc : c < 2) : (wls n P)[i * 2 + c]? = (P i).cells[c]? := by
  induction n with
  | zero => omega
  | succ n ih =>
    rw [wls_succ, List.getElem?_append, wls_length]
    by_cases hi : i < n
    · rw [if_pos (by omega), ih hi]
    · obtain rfl : i = n := by omega
      rw [if_neg (by omega), show i * 2 + c - i * 2 = c by omega]; simp
theorem wls_one (n : Nat) (P : Nat → Wt) : ∀ v ∈ wls n P, v.oneCell' = true := by
  intro v hv; unfold wls at hv; simp only [List.mem_flatMap] at hv; obtain ⟨i, _, hi⟩ := hv; exact (P i).one v hi
theorem wls_drop (n : Nat) (P : Nat → Wt) (k : Nat) (h : k < n) : ((wls n P).drop (k * 2)).take 2 = (P k).cells.toList := by
  apply List.ext_getElem?
  intro c
  rw [List.getElem?_take]
  by_cases hc : c < 2
  · rw [if_pos hc, List.getElem?_drop, wls_get n P k c h hc]; simp
  · rw [if_neg hc, List.getElem?_eq_none]; simp [Wt.cells_size]; omega

/-- The slice v holds n watches, P. -/
def WSl (w : World) (v : Value) (n : Nat) (P : Nat → Wt) : Prop :=
  ∃ a cap, v = .slice a n cap ∧ n ≤ cap ∧ cap ≤ maxLen ∧ (n = 0 ∨ ∃ b o, a = some ⟨b, o, none⟩ ∧ b < w.heap.size ∧ ∀ i c, i < n → c < 2 → w.cell? ⟨b, o + i * 2 + c, none⟩ = (P i).cells[c]?)
theorem WSl.below {w w' : World} {v : Value} {n : Nat} {P : Nat → Wt} (h : WSl w v n P) (hb : Below w.heap.size w w') : WSl w' v n P := by
  obtain ⟨a, cap, rfl, h1, h2, h3⟩ := h
  refine ⟨a, cap, rfl, h1, h2, ?_⟩
  rcases h3 with h3 | ⟨b, o, rfl, hlt, hc⟩
  · exact .inl h3
  · exact .inr ⟨b, o, rfl, Nat.lt_of_lt_of_le hlt hb.size, fun i c hi h3 => (hb.cell (p := ⟨b, _, none⟩) hlt).trans (hc i c hi h3)⟩
theorem Own.wsl {w : World} {g : Nat} {e : TypeId} {v : Value} {n : Nat} {P : Nat → Wt} (h : Own w g e 2 v n (wls n P)) : WSl w v n P := by
  obtain ⟨cap, rfl, h1, h2⟩ := h.form
  exact ⟨_, cap, rfl, h1, h2, .inr ⟨g, 0, rfl, h.lt, fun i c hi hc => by rw [Nat.zero_add, h.cell _ (by omega), wls_get n P i c hi hc]⟩⟩

theorem row121 : RowTy Tryz.prog 55 2 := ⟨_, Tryz.underlying55, rfl, by kernel_rfl⟩
theorem size121 : (Tryz.prog.info? 55).map (·.size) = some 2 := by kernel_rfl
theorem zero121 : ZeroTy Tryz.prog 55 (Wt.cells ⟨0, 0⟩) := by unfold ZeroTy Wt.cells; kernel_rfl
set_option maxRecDepth 100000 in
set_option maxHeartbeats 400000 in
theorem indexWt_any (q : Wt → Bool) (fid : Nat) (cap : Array Value) (n : Nat) (P : Nat → Wt) (v : Value) (w : World) (hv : WSl w v n P) (hf : Callable Tryz.prog fid)
    (hcall : ∀ i w', i < n → Below w.heap.size w w' → Calls Tryz.prog fid (#[.agg (P i).cells] ++ cap) w' fun e w'' => e = .returned (.bool (q (P i))) ∧ Below w'.heap.size w' w'') :
    Calls Tryz.prog 112 #[v, .func (.func fid) #[] cap] w fun e w' => ∃ r : Int, e = .returned (.int .i64 r) ∧ firstTo q P n r ∧ Below w.heap.size w w' := by
  obtain ⟨a, c, rfl, hc1, hc2, hcell⟩ := hv
  unfold maxLen at hc2
  go_enter Tryz.func112, Tryz.ntmps112
  go_wp2
  go_loopw [8] (fun i wr => ∃ k : Nat, k ≤ n ∧ i = .int .i64 k ∧ Hid (∀ j, j < k → q (P j) = false) ∧ Below w.heap.size w wr) (fun i _ => n - (intOf i).toNat)
  case atStart => exact ⟨0, by omega, rfl, Lib.hid fun j hj => by omega, Below.refl _ _⟩
  case round =>
    obtain ⟨k, hk, rfl, hq, hbel⟩ := hrel
    by_cases hlt : k < n
    · obtain ⟨b, o, rfl, hb, hcell⟩ := hcell.resolve_left (by omega)
      have e0 : wr.cell? ⟨b, o + k * 2, none⟩ = some (.int .i8 (P k).cel) := (hbel.cell (p := ⟨b, _, none⟩) hb).trans ((hcell k 0 hlt (by omega)).trans (P k).get0)
      have e1 : wr.cell? ⟨b, o + k * 2 + 1, none⟩ = some (.float .f32 (P k).lim) := (hbel.cell (p := ⟨b, _, none⟩) hb).trans ((hcell k 1 hlt (by omega)).trans (P k).get1)
      have hcall := hcall k wr hlt hbel
      rw [(P k).cells_eq] at hcall
      have hpos : (0 : Int) ≤ k := by omega
      go_wp2_with (refine wpList_callv (cap := cap) (l := [.agg #[.int .i8 (P k).cel, .float .f32 (P k).lim]]) rfl rfl rfl rfl hf ?_; refine hcall.mono ?_; rintro e w1 ⟨rfl, hb1⟩; refine ⟨_, rfl, ?_⟩)
      · have hqk : q (P k) = true := by assumption
        go_ret
        exact ⟨k, rfl, .inr ⟨k, rfl, hlt, hqk, hq.out⟩, hbel.trans (hb1.mono hbel.size)⟩
      · have hqk : q (P k) = false := by assumption
        go_roundw
        case rel => exact ⟨k + 1, by omega, by go_num, Lib.hid (all_step hq.out hqk), hbel.trans (hb1.mono hbel.size)⟩
        case measure => simp [intOf]; omega
    · go_wp2
      go_ret
      exact ⟨-1, rfl, .inl ⟨rfl, fun i hi => hq.out i (by omega)⟩, hbel⟩

set_option maxRecDepth 100000 in
set_option maxHeartbeats 400000 in
theorem containsWt_any (q : Wt → Bool) (fid : Nat) (cap : Array Value) (n : Nat) (P : Nat → Wt) (v : Value) (w : World) (hv : WSl w v n P) (hf : Callable Tryz.prog fid)
    (hcall : ∀ i w', i < n → Below w.heap.size w w' → Calls Tryz.prog fid (#[.agg (P i).cells] ++ cap) w' fun e w'' => e = .returned (.bool (q (P i))) ∧ Below w'.heap.size w' w'') :
    Calls Tryz.prog 58 #[v, .func (.func fid) #[] cap] w fun e w' => e = .returned (.bool (anyTo q P n)) ∧ Below w.heap.size w w' := by
  have hi := indexWt_any q fid cap n P v w hv hf hcall
  clear hcall
  go_enter Tryz.func58, Tryz.ntmps58
  go_wp2_with (go_at_call 112; refine hi.mono ?_; rintro e w1 ⟨r, rfl, hr, hb⟩)
  go_ret
  exact ⟨bool_eq (firstTo_any hr), hb⟩

/-- n watchs' room. -/
@[irreducible] def zwt (n : Nat) : Array Value := madeCells (Wt.cells ⟨0, 0⟩) (n * 2)
theorem zwt_size (n : Nat) : (zwt n).size = n * 2 := by unfold zwt; rw [size_madeCells]
theorem elWt : ElemTy Tryz.prog 31 55 2 8 := elem_of (z := .agg (Wt.cells ⟨0, 0⟩)) Tryz.underlying31 (by unfold Wt.cells; kernel_rfl) (Wt.cells_size _)
theorem run_makeWt (n : Nat) (hn : n ≤ 1048576) (w : World) : (Instr.makeSlice 31 (.int .i64 n) (.int .i64 n)).run Tryz.prog w = .ok (.slice (some ⟨w.heap.size, 0, none⟩) n n) (w.alloc (.cells (zwt n) 55)) := by
  obtain ⟨ht, i, z, hi, hz, hs, hb, hzs⟩ := elWt
  have hz2 : z.cells = Wt.cells ⟨0, 0⟩ := by
    have h0 : (Tryz.prog.info? 55).map (·.zero) = some (some (.agg (Wt.cells ⟨0, 0⟩))) := zero121
    rw [hi] at h0
    simp [hz] at h0
    rw [h0]; rfl
  have hr := run_make (P := Tryz.prog) w _ _ i z ht hi hz .i64 .i64 n n (by omega) (Int.le_refl _) (by rw [hb]; omega) (by omega)
  rw [hr, hz2, hs]
  simp [zwt]

/-- A watch behind the walk of one store. -/
theorem zwt_mixed_size (n : Nat) (P : Nat → Wt) (k : Nat) (hk : k ≤ n) : (mixed (wls n P).toArray (zwt n) (k * 2)).size = n * 2 := by
  rw [mixed_size _ _ (by simp [wls_length, zwt_size]) _ (by simp [wls_length]; omega)]; simp [wls_length]

end Go.Proofs.YtdnnjahdcabdmaaGreatDoor
/- Offices in memory: a ground and its watches. -/
namespace Go.Proofs.YtdnnjahdcabdmaaGreatDoor
open Go.ChangeShapes Go.WideShapes Go.ChangeAt Go.RowKit
set_option linter.unusedVariables false
set_option linter.unusedSimpArgs false
attribute [local irreducible] Calls

/-- An office's cells: its ground's, and the slice of its watches. -/
@[irreducible] def ofc (g : Gr) (v : Value) : Array Value := g.cells.push v
theorem ofc_size (g : Gr) (v : Value) : (ofc g v).size = 196 := by unfold ofc; rw [Array.size_push, g.size]
theorem ofc_get (g : Gr) (v : Value) (i : Nat) (h : i < 195) : (ofc g v)[i]? = some (g.at i) := by
  unfold ofc; rw [Array.getElem?_push, g.size, if_neg (by omega), g.get i h]
theorem ofc_last (g : Gr) (v : Value) : (ofc g v)[195]? = some v := by
  unfold ofc; rw [Array.getElem?_push, g.size, if_pos rfl]
theorem ofc_of {cs : Array Value} {g : Gr} {v : Value} (hs : cs.size = 196) (h : ∀ i, i < 195 → cs[i]? = some (g.at i)) (h' : cs[195]? = some v) : cs = ofc g v := by
  apply Array.ext_getElem?
  intro i
  by_cases hi : i < 195
  · rw [h i hi, ofc_get g v i hi]
  · by_cases hi2 : i = 195
    · subst hi2; rw [h', ofc_last]
    · rw [Array.getElem?_eq_none (by omega), Array.getElem?_eq_none (by rw [ofc_size]; omega)]
theorem ofc_one (g : Gr) (v : Value) (hv : v.oneCell' = true) : ∀ u ∈ (ofc g v).toList, u.oneCell' = true := by
  intro u hu
  unfold ofc at hu
  simp only [Array.toList_push, List.mem_append, List.mem_singleton] at hu
  rcases hu with hu | rfl
  · exact g.one u hu
  · exact hv
theorem ofc_ext (g : Gr) (v : Value) : (ofc g v).extract 0 195 = g.cells := by
  apply Gr.cells_of
  · simp [ofc_size]
  · intro i hi
    rw [Array.getElem?_extract, if_pos (by rw [ofc_size]; omega), Nat.zero_add, ofc_get g v i hi]
theorem ofc_splice (z g : Gr) (v : Value) : splice (ofc z v) 0 g.cells = ofc g v := by
  have hle : 0 + g.cells.size ≤ (ofc z v).size := by rw [ofc_size, g.size]; omega
  refine ofc_of (by rw [splice_size _ _ _ hle, ofc_size]) (fun i hi => ?_) ?_
  · rw [splice_get _ _ _ hle, g.size, if_neg (by omega), if_pos (by omega), Nat.sub_zero, g.get i hi]
  · rw [splice_get _ _ _ hle, g.size, if_neg (by omega), if_neg (by omega), ofc_last]
theorem ofc_set (g : Gr) (v u : Value) : (ofc g v).setIfInBounds 195 u = ofc g u := by
  refine ofc_of (by simp [ofc_size]) (fun i hi => ?_) ?_
  · rw [Array.getElem?_setIfInBounds, if_neg (by omega), ofc_get g v i hi]
  · rw [Array.getElem?_setIfInBounds, if_pos rfl, if_pos (by rw [ofc_size]; omega)]
theorem Blk.ogat {w : World} {b : Nat} {g : Gr} {v : Value} {T : TypeId} (h : Blk w b (ofc g v) T) : GAt w b g := ⟨h.lt, fun i hi => (h.cell i).trans (ofc_get g v i hi)⟩
theorem row76 : RowTy Tryz.prog 33 196 := ⟨_, Tryz.underlying33, rfl, by kernel_rfl⟩
theorem zero76 : ZeroTy Tryz.prog 33 (ofc ⟨0, 0, fun _ => 0, fun _ => 0, fun _ => 0, 0⟩ (.slice none 0 0)) := by unfold ZeroTy ofc Gr.cells; kernel_rfl

end Go.Proofs.YtdnnjahdcabdmaaGreatDoor
