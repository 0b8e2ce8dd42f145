import Derived.Test.YtdnnjahdcabdmaaGreatDoorMD45
import Derived.Test.YtdnnjahdcabdmaaGreatDoorMD43
import Derived.Test.YtdnnjahdcabdmaaGreatDoorMD38
import Derived.Test.YtdnnjahdcabdmaaGreatDoorMD05
import Derived.Test.YtdnnjahdcabdmaaGreatDoorMD06
import Derived.Test.YtdnnjahdcabdmaaGreatDoorMD44
import Derived.Test.YtdnnjahdcabdmaaGreatDoorMD14
import Derived.Test.YtdnnjahdcabdmaaGreatDoorMD36
/- A mirrored ground: spec.MirrorGround. -/
namespace Go.Proofs.YtdnnjahdcabdmaaGreatDoor
open Go.ChangeShapes Go.WideShapes Go.ChangeAt Go.RowKit
set_option linter.unusedVariables false
set_option linter.unusedSimpArgs false
attribute [local irreducible] Calls

set_option maxRecDepth 100000 in
set_option maxHeartbeats 4000000 in
theorem specMirrorGround_any (g : Gr) (hg : g.ok) (hv : validG g = true) (w : World) :
    Calls Tryz.prog 27 #[.agg g.cells] w fun e w' => e = .returned (.tuple #[.agg (mirG g).cells, .int .i64 0]) ∧ Below w.heap.size w w' := by
  have hbel := below1 w (.cells g.cells 30)
  go_enter Tryz.func27, Tryz.ntmps27
  go_upto_region 1 with (first | (refine wpList_box_as rfl rfl rfl ?_) | (refine wpList_alloc_as rfl rfl zero66 ?_))
  have hA := (Blk.new w g.cells 30).alloc (.cells zeroGr.cells 30)
  have hR : Blk ((w.alloc (.cells g.cells 30)).alloc (.cells zeroGr.cells 30)) (w.heap.size + 1) zeroGr.cells 30 := Blk.new1 _ _ _ _
  have hbel := below2 w (.cells g.cells 30) (.cells zeroGr.cells 30)
  have lW : w.heap.size + 1 < ((w.alloc (.cells g.cells 30)).alloc (.cells zeroGr.cells 30)).heap.size := hR.lt
  change Code.wp _ _ _ _ ((w.alloc (.cells g.cells 30)).alloc (.cells zeroGr.cells 30))
  generalize (w.alloc (.cells g.cells 30)).alloc (.cells zeroGr.cells 30) = W at *
  have hok := l01Ok_any g w.heap.size hg W hA.gat
  rw [hv] at hok
  go_upto_region 3 with (go_at_call 78; refine hok.mono ?_; rintro e w1 ⟨rfl, n, rfl⟩)
  replace hA := hA.drewN n
  replace hR := hR.drewN n
  replace hbel := below_drewN hbel n
  have lW' : w.heap.size + 1 < (W.drewN n).heap.size := lW
  clear hok lW
  generalize W.drewN n = W1 at *
  go_upto_region 4 with (first | (refine wpList_load_blk rfl rfl rfl row66 hA (Gr.size _) ?_) | (refine wpList_alloc_as rfl rfl zero66 ?_) | (refine wpList_store_last (c' := g.cells) rfl rfl rfl rfl rfl (by rw [Gr.size]; kernel_rfl) (by rw [Gr.size, Gr.size]) (List.all_eq_true.2 (Gr.one _)) ?_))
  have hB1 := Blk.new W1 g.cells 30
  have hR1 := hR.alloc (.cells g.cells 30)
  have hA1 := hA.alloc (.cells g.cells 30)
  have hbel1 := hbel.alloc hbel.size (.cells g.cells 30)
  generalize W1.alloc (.cells g.cells 30) = W2 at *
  generalize W1.heap.size = q1 at *
  clear hA hR hbel
  go_upto_region 5 with (refine wpList_store_abs (v := .int .u64 0) rfl rfl rfl rfl szU64 rfl rfl hB1 (by rw [Gr.size]; omega) ?_; intro w2 hBn hGn)
  rw [Gr.setF] at hBn
  have hbel2 := hbel1.grown hGn hbel1.size (fun k e => by injection e; omega)
  have hA2 := hA1.grown hGn (fun e => by injection e; omega)
  have hR2 := hR1.grown hGn (fun e => by injection e; omega)
  have hm0 : ({ g with fix := 0 } : Gr) = mirT g (cellsTo g 0) := by unfold mirT cellsTo; simp [maskOf]
  rw [hm0] at hBn
  have hst : RG w w2 (w.heap.size + 1) q1 w.heap.size w.heap.size g.cells g.cells 30 30 (mirT g (cellsTo g 0)) := ⟨hR2, hBn, hA2, hA2, hbel2, ⟨by omega, lW'⟩, by omega, by omega⟩
  have hp := validG_parts hv
  have h8 : g.wide ≤ 8 := by omega
  have hw2 : 2 ≤ g.wide := by omega
  have hh8 : g.high ≤ 8 := by omega
  clear hp hm0 hA2 hR2 hbel2 hBn hGn hA1 hR1 hbel1 hB1 lW'
  go_wp2_with fail
  go_loopw [5] (fun i wr => ∃ j : Nat, j ≤ 64 ∧ i = .int .i64 j ∧ RG w wr (w.heap.size + 1) q1 w.heap.size w.heap.size g.cells g.cells 30 30 (mirT g (cellsTo g j))) (fun i _ => 64 - (intOf i).toNat)
  case atStart => exact ⟨0, by omega, rfl, hst⟩
  case round =>
    clear hst
    obtain ⟨c, hj, rfl, hst⟩ := hrel
    by_cases hlt : c < 64
    · have E2 := Lib.hid (show Value.int .i64 ((c : Int) + 1) = Value.int .i64 ((c + 1 : Nat) : Int) from rfl)
      have E4 := Lib.hid (measN (n := 64) hlt)
      have bc : (0 : Int) ≤ c := by omega
      have bc2 : (c : Int) < 64 := by omega
      have his := l01Is_any g w.heap.size c hg hlt wr hst.bA.gat
      cases hc : isC g c
      · rw [hc] at his
        have HE : Hid (mirT g (cellsTo g (c + 1)) = mirT g (cellsTo g c)) := Lib.hid (by rw [cellsTo_succ, hc]; rfl)
        clear hc
        go_wp2_with (go_at_call 79; refine his.mono ?_; rintro e w' ⟨rfl, hw⟩; rw [hw]; clear hw w')
        go_roundw
        case rel => exact ⟨c + 1, hlt, E2.out, by rw [HE.out]; exact hst⟩
        case measure =>
          exact E4.out
      · rw [hc] at his
        have HTK : Hid (cellsTo g (c + 1) = cellsTo g c ++ [c]) := Lib.hid (by rw [cellsTo_succ, hc]; rfl)
        obtain ⟨hmi, hm64, hmc, hmm⟩ := mk_cell hlt h8 hc
        have HIS := Lib.hid (And.intro hc (And.intro hmc hmm))
        have ca := hst.bA.gat.get0
        have u1 := IntWalk.i64_in g.wide (by omega)
        clear hc hmc hmm
        obtain ⟨d, hd⟩ : ∃ d, mkN g c = d := ⟨_, rfl⟩
        have HD := Lib.hid hd
        rw [hd] at hmi hm64 HIS
        clear hd
        generalize hG0 : mirT g (cellsTo g c) = G0 at *
        have HG0 := Lib.hid hG0
        clear hG0
        go_upto_region 9 with (go_at_call 79; refine his.mono ?_; rintro e w' ⟨rfl, hw⟩; rw [hw]; clear hw w')
        clear his
        have bd : (0 : Int) ≤ d := by omega
        have bd2 : (d : Int) < 64 := by omega
        go_upto_region 10 with fail
        have hmi2 : (c : Int) - (c : Int) % 8 + g.wide - 1 - (c : Int) % 8 = d := by omega
        rw [hmi2]
        clear hmi hmi2 ca
        have r1 := hst.bA.gat.getC c hlt
        go_upto_region 11 with (refine wpList_store_abs (v := .float .f32 _) rfl rfl rfl rfl szF32 rfl rfl hst.b1 (by rw [Gr.size]; omega) ?_; intro w9 hBn hGn)
        rw [Gr.putC _ _ _ hm64] at hBn
        replace hst := hst.put hBn hGn
        clear hBn hGn r1
        have r1 := hst.bA.gat.getG c hlt
        go_upto_region 12 with (refine wpList_store_abs (v := .float .f32 _) rfl rfl rfl rfl szF32 rfl rfl hst.b1 (by rw [Gr.size]; omega) ?_; intro wA hBn hGn)
        rw [Gr.putG _ _ _ hm64] at hBn
        replace hst := hst.put hBn hGn
        clear hBn hGn r1
        have r1 := hst.bA.gat.getH c hlt
        go_upto_region 13 with (refine wpList_store_abs (v := .float .f32 _) rfl rfl rfl rfl szF32 rfl rfl hst.b1 (by rw [Gr.size]; omega) ?_; intro wB hBn hGn)
        rw [Gr.setH _ _ _ hm64] at hBn
        replace hst := hst.put hBn hGn
        clear hBn hGn r1
        have cF := hst.b1.gat.getF
        have cG := hst.bA.gat.getF
        have hrg := mirT_ok hg (cellsTo g c)
        rw [HG0.out] at hrg
        obtain ⟨_, _, hrg1, hrg2⟩ := hrg
        have hW := Lib.hid (bit_or hg c d hrg1 hrg2)
        clear hrg1 hrg2
        go_wp2_with (refine wpList_store_abs (v := .int .u64 _) rfl rfl rfl rfl szU64 rfl rfl hst.b1 (by rw [Gr.size]; omega) ?_; intro wC hBn hGn)
        have hW := hW.out
        dsimp only at hBn
        rw [Int.tmod_eq_emod_of_nonneg (fix_divW hg c).1, hW, Gr.setF] at hBn
        replace hst := hst.put hBn hGn
        clear hBn hGn hW cF cG
        replace hst : RG w wC (w.heap.size + 1) q1 w.heap.size w.heap.size g.cells g.cells 30 30 (mirT g (cellsTo g (c + 1))) := by
          rw [HTK.out, mirT_snoc h8 hh8 HIS.out.2.1 HIS.out.2.2 HD.out, HG0.out]
          exact hst
        go_roundw
        case rel => exact ⟨c + 1, hlt, E2.out, hst⟩
        case measure => exact E4.out
    · obtain rfl : c = 64 := by omega
      go_wp2_with (first | (refine wpList_load_blk rfl rfl rfl row66 hst.b1 (Gr.size _) ?_) | (refine wpList_store_blk rfl rfl rfl rfl row66 hst.b0 zeroGr.size (Gr.size _) (Gr.one _) ?_))
      refine bodyPost_row2 rfl rfl row66 (hst.b0.setRow _) (Gr.size _) rfl ?_
      exact ⟨rfl, below_setRow hst.bel (Nat.le_succ _) _⟩
end Go.Proofs.YtdnnjahdcabdmaaGreatDoor
/- Numbers that are the same: the program's and the reference's answers. -/
namespace Go.Proofs.YtdnnjahdcabdmaaGreatDoor
open Go.ChangeShapes Go.WideShapes Go.ChangeAt Go.RowKit
set_option linter.unusedVariables false
set_option linter.unusedSimpArgs false
attribute [local irreducible] Calls
set_option maxRecDepth 100000 in
set_option maxHeartbeats 400000 in
theorem l01Same_cn {x y : Nat} (h : cn x = cn y) (w : World) :
    Calls Tryz.prog 66 #[.float .f32 x, .float .f32 y] w fun e w' => e = .returned (.bool true) ∧ w' = w := by
  have hb := run_n32bits x
  rcases cnk_eq h with ⟨hx, hy⟩ | ⟨hn, rfl⟩
  · have ho := order_nan_left (k := .f32) (x := x) (y := x) hx
    have hp := order_nan_left (k := .f32) (x := y) (y := y) hy
    go_enter Tryz.func66, Tryz.ntmps66
    go_wp2_with fail
    go_ret
    exact ⟨rfl, rfl⟩
  · have ho := order_self (k := .f32) hn
    go_enter Tryz.func66, Tryz.ntmps66
    go_wp2_with fail
    go_ret
    exact ⟨rfl, rfl⟩
set_option maxRecDepth 100000 in
set_option maxHeartbeats 400000 in
theorem sameNumberS_cn {x y : Nat} (hc : cn x = cn y) (w : World) :
    Calls Tryz.prog 20 #[.float .f32 x, .float .f32 y] w fun e w' => e = .returned (.bool true) ∧ w' = w := by
  have h := fun w' => l01Same_cn hc w'
  go_enter Tryz.func20, Tryz.ntmps20
  go_wp2_with (go_at_call 66; refine (h _).mono ?_; rintro e w' ⟨rfl, hw⟩; rw [hw]; clear hw w')
  go_ret
  exact ⟨rfl, rfl⟩
set_option maxRecDepth 100000 in
set_option maxHeartbeats 400000 in
theorem isPlainS_any (b : Nat) (w : World) :
    Calls Tryz.prog 35 #[.float .f32 b] w fun e w' => e = .returned (.bool (plain b)) ∧ w' = w := by
  have h := fun w' => l01Plain_any b w'
  go_enter Tryz.func35, Tryz.ntmps35
  go_wp2_with (go_at_call 92; refine (h _).mono ?_; rintro e w' ⟨rfl, hw⟩; rw [hw]; clear hw w')
  go_ret
  exact ⟨rfl, rfl⟩
set_option maxRecDepth 100000 in
set_option maxHeartbeats 800000 in
theorem sameNumberI_cn {x y : Nat} (hc : cn x = cn y) (w : World) :
    Calls Tryz.prog 33 #[.float .f32 x, .float .f32 y] w fun e w' => e = .returned (.bool true) ∧ w' = w := by
  have hb := run_n32bits x
  have h1 := fun w' => isNaN_any x w'
  have h2 := fun w' => isNaN_any y w'
  rcases cnk_eq hc with ⟨hx, hy⟩ | ⟨hn, rfl⟩
  · rw [hx] at h1
    rw [hy] at h2
    go_enter Tryz.func33, Tryz.ntmps33
    go_wp2_with (go_at_call 83; first | (refine (h1 _).mono ?_; rintro e w' ⟨rfl, hw⟩; rw [hw]; clear hw w') | (refine (h2 _).mono ?_; rintro e w' ⟨rfl, hw⟩; rw [hw]; clear hw w'))
    go_ret
    exact ⟨rfl, rfl⟩
  · rw [hn] at h1
    clear h2
    go_enter Tryz.func33, Tryz.ntmps33
    go_wp2_with (go_at_call 83; (refine (h1 _).mono ?_; rintro e w' ⟨rfl, hw⟩; rw [hw]; clear hw w'))
    go_ret
    exact ⟨rfl, rfl⟩
end Go.Proofs.YtdnnjahdcabdmaaGreatDoor
/- A ground is the same as itself: the program's and the reference's answers. -/
namespace Go.Proofs.YtdnnjahdcabdmaaGreatDoor
open Go.ChangeShapes Go.WideShapes Go.ChangeAt Go.RowKit
set_option linter.unusedVariables false
set_option linter.unusedSimpArgs false
attribute [local irreducible] Calls
set_option maxRecDepth 100000 in
set_option maxHeartbeats 400000 in
theorem l01SameField_one (p o q u : Nat) (F : Nat → Nat) (w : World) (h1 : ∀ k, k < 64 → w.cell? ⟨p, o + k, none⟩ = some (.float .f32 (F k))) (h2 : ∀ k, k < 64 → w.cell? ⟨q, u + k, none⟩ = some (.float .f32 (F k))) :
    Calls Tryz.prog 115 #[.pointer (some ⟨p, o, none⟩), .pointer (some ⟨q, u, none⟩)] w fun e w' => e = .returned (.bool true) ∧ ∃ n, w' = w.drewN n := by
  have H1 := Lib.hid h1
  have H2 := Lib.hid h2
  clear h1 h2
  go_enter Tryz.func115, Tryz.ntmps115
  go_upto_region 2 with fail
  go_loopw [5] (fun i wr => ∃ (j n : Nat), j ≤ 64 ∧ i = .int .i64 j ∧ wr = w.drewN n) (fun i _ => 64 - (intOf i).toNat)
  case atStart => exact ⟨0, 0, by omega, rfl, rfl⟩
  case round =>
    obtain ⟨j, n, hj, rfl, hw⟩ := hrel
    have bj : (0 : Int) ≤ j := by omega
    rw [hw]
    clear hw wr
    by_cases hlt : j < 64
    · have bl : (j : Int) < 64 := by omega
      have c1 : (w.drewN n).cell? ⟨p, o + j, none⟩ = some (.float .f32 (F j)) := H1.out j hlt
      have c2 : (w.drewN n).cell? ⟨q, u + j, none⟩ = some (.float .f32 (F j)) := H2.out j hlt
      have hs := fun w' => l01Same_cn (rfl : cn (F j) = cn (F j)) w'
      generalize hW : w.drewN n = W at *
      go_upto_region 4 with fail
      go_quiet ((go_at_call 66; exact Calls.quiet_of_same (hs _)))
      go_wp2_with fail
      go_roundw
      case rel => exact ⟨j + 1, n + nq, by omega, by go_num, by rw [← hW, World.drewN_drewN]⟩
      case measure => simp [intOf]; omega
    · obtain rfl : j = 64 := by omega
      go_wp2_with fail
      go_ret
      exact ⟨rfl, n, rfl⟩
set_option maxRecDepth 100000 in
set_option maxHeartbeats 1000000 in
theorem l01SameGround_one (g : Gr) (p q : Nat) (w : World) (hp : GAt w p g) (hq : GAt w q g) :
    Calls Tryz.prog 65 #[.pointer (some ⟨p, 0, none⟩), .pointer (some ⟨q, 0, none⟩)] w fun e w' => e = .returned (.bool true) ∧ ∃ n, w' = w.drewN n := by
  have c0 := hp.get0
  have c1 := hp.get1
  have c5 := hp.getF
  have d0 := hq.get0
  have d1 := hq.get1
  have d5 := hq.getF
  have hC := fun n => l01SameField_one p 2 q 2 g.con (w.drewN n) (fun k hk => (hp.drewN n).getC k hk) (fun k hk => (hq.drewN n).getC k hk)
  have hG := fun n => l01SameField_one p 66 q 66 g.gai (w.drewN n) (fun k hk => (hp.drewN n).getG k hk) (fun k hk => (hq.drewN n).getG k hk)
  have hH := fun n => l01SameField_one p 130 q 130 g.hea (w.drewN n) (fun k hk => (hp.drewN n).getH k hk) (fun k hk => (hq.drewN n).getH k hk)
  clear hp hq
  go_enter Tryz.func65, Tryz.ntmps65
  go_upto_region 1 with fail
  go_quiet ((go_at_call 115; first | exact Calls.quiet_of (hC _) | exact Calls.quiet_of (hG _) | exact Calls.quiet_of (hH _)))
  go_wp2_with fail
  go_ret
  exact ⟨rfl, _, rfl⟩
set_option maxRecDepth 100000 in
set_option maxHeartbeats 1000000 in
theorem sameGroundS_one (g : Gr) (w : World) :
    Calls Tryz.prog 19 #[.agg g.cells, .agg g.cells] w fun e w' => e = .returned (.bool true) ∧ Below w.heap.size w w' := by
  have hA : Blk ((w.alloc (.cells g.cells 30)).alloc (.cells g.cells 30)) w.heap.size g.cells 30 := (Blk.new _ _ _).alloc _
  have hB : Blk ((w.alloc (.cells g.cells 30)).alloc (.cells g.cells 30)) (w.heap.size + 1) g.cells 30 := Blk.new1 _ _ _ _
  have hbel := below2 w (.cells g.cells 30) (.cells g.cells 30)
  go_enter Tryz.func19, Tryz.ntmps19
  go_upto_region 1 with (first | (refine wpList_box_as rfl rfl rfl ?_))
  generalize ((w.alloc (.cells g.cells 30)).alloc (.cells g.cells 30)) = W at *
  have hs := l01SameGround_one g _ _ W hA.gat hB.gat
  go_wp2_with (first | (go_at_call 65; refine hs.mono ?_; rintro e w1 ⟨rfl, m, rfl⟩))
  go_ret
  exact ⟨rfl, below_drewN hbel _⟩
end Go.Proofs.YtdnnjahdcabdmaaGreatDoor
/- A field is the same as itself, in the program. -/
namespace Go.Proofs.YtdnnjahdcabdmaaGreatDoor
open Go.ChangeShapes Go.WideShapes Go.ChangeAt Go.RowKit
set_option linter.unusedVariables false
set_option linter.unusedSimpArgs false
attribute [local irreducible] Calls
set_option maxRecDepth 100000 in
set_option maxHeartbeats 1000000 in
theorem sameFieldI_one (F : Nat → Nat) (C : Array Value) (hn : C.size = 64) (hc : ∀ k, k < 64 → C[k]? = some (.float .f32 (F k))) (h1 : ∀ u ∈ C.toList, u.oneCell' = true) (w : World) :
    Calls Tryz.prog 87 #[.agg C, .agg C] w fun e w' => e = .returned (.bool true) ∧ Below w.heap.size w w' := by
  have hA : Blk ((w.alloc (.cells C 27)).alloc (.cells C 27)) w.heap.size C 27 := (Blk.new _ _ _).alloc _
  have hB : Blk ((w.alloc (.cells C 27)).alloc (.cells C 27)) (w.heap.size + 1) C 27 := Blk.new1 _ _ _ _
  have hbel := below2 w (.cells C 27) (.cells C 27)
  have HC := Lib.hid hc
  clear hc
  go_enter Tryz.func87, Tryz.ntmps87
  go_upto_region 1 with (first | (refine wpList_box_as rfl rfl rfl ?_))
  generalize ((w.alloc (.cells C 27)).alloc (.cells C 27)) = W at *
  go_upto_region 2 with (refine wpList_load_blk rfl rfl rfl row64 hA hn ?_)
  go_loopw [8] (fun i wr => ∃ j : Nat, j ≤ 64 ∧ i = .int .i64 j ∧ wr = W) (fun i _ => 64 - (intOf i).toNat)
  case atStart => exact ⟨0, by omega, rfl, rfl⟩
  case round =>
    obtain ⟨j, hj, rfl, hw⟩ := hrel
    have bj : (0 : Int) ≤ j := by omega
    rw [hw]
    clear hw wr
    by_cases hlt : j < 64
    · have E2 := Lib.hid (show Value.int .i64 ((j : Int) + 1) = Value.int .i64 ((j + 1 : Nat) : Int) from rfl)
      have E4 := Lib.hid (measN (n := 64) hlt)
      have bl : (j : Int) < 64 := by omega
      have c1 := HC.out j hlt
      have c2 := (hB.cell j).trans c1
      have hidx := fun w' => run_index_row (P := Tryz.prog) Tryz.underlying27 (⟨.float .f32, Tryz.underlying25, rfl, by kernel_rfl⟩ : CellTy Tryz.prog 25) hlt c1 w'
      have hs := fun w' => sameNumberI_cn (rfl : cn (F j) = cn (F j)) w'
      go_wp2_with (go_at_call 33; refine (hs _).mono ?_; rintro e w' ⟨rfl, hw⟩; rw [hw]; clear hw w')
      go_roundw
      case rel => exact ⟨j + 1, hlt, E2.out, trivial⟩
      case measure => exact E4.out
    · obtain rfl : j = 64 := by omega
      go_wp2_with fail
      go_ret
      exact ⟨rfl, hbel⟩
end Go.Proofs.YtdnnjahdcabdmaaGreatDoor
/- A ground is the same as itself, in the program. -/
namespace Go.Proofs.YtdnnjahdcabdmaaGreatDoor
open Go.ChangeShapes Go.WideShapes Go.ChangeAt Go.RowKit
set_option linter.unusedVariables false
set_option linter.unusedSimpArgs false
attribute [local irreducible] Calls
theorem wpList_load_partW {P : Program} {ops : Array Oper} {rest : List Oper} {o : Oper} {a : Act} {Q : Exit → Act → World → Prop} {w : World} {ty t : TypeId} {x : Operand} {b f n : Nat} {C E : Array Value} (hw : Region.wanted o (yielded ops a.tmps) = true) (ho : o.op = .load ty x) (hx : a.eval x = .pointer (some ⟨b, f, none⟩)) (hr : RowTy P ty n) (hb : Blk w b C t) (hs : f + n ≤ C.size) (hE : C.extract f (f + n) = E)
    (h : wpList P ops Q rest (a.put o.dst (.agg E)) w) : wpList P ops Q (o :: rest) a w := by
  subst hE
  obtain ⟨d, hu, hd, hi⟩ := hr
  have hl : (C.extract f (f + n)).toList.length = n := by simp; omega
  have hl2 := run_loadVar_mid (P := P) w b f ty (C.extract f (f + n)).toList d (World.rangeAt_of_block hb f n) hu hd (by rw [hi, hl])
  rw [Array.toArray_toList] at hl2
  exact wpList_step fun K hK => by
    simp only [hw, if_true]
    have hq : (execOp a.eval o).run P w = .ok (.value (.agg (C.extract f (f + n)))) w := by
      simp [execOp, ho, hx, Instr.loadAt, Instr.sureAddr, hl2]
    unfold Oper.wp
    rw [hq]
    exact hK _ _ h
theorem wpList_load_partE {P : Program} {ops : Array Oper} {rest : List Oper} {o : Oper} {a : Act} {Q : Exit → Act → World → Prop} {w : World} {ty t : TypeId} {x : Operand} {b f n : Nat} {C E : Array Value} (hgd : o.guard = none) (ho : o.op = .load ty x) (hx : a.eval x = .pointer (some ⟨b, f, none⟩)) (hr : RowTy P ty n) (hb : Blk w b C t) (hs : f + n ≤ C.size) (hE : C.extract f (f + n) = E)
    (h : wpList P ops Q rest (a.put o.dst (.agg E)) w) : wpList P ops Q (o :: rest) a w := by
  subst hE
  exact wpList_load_part hgd ho hx hr hb hs h
set_option maxRecDepth 100000 in
set_option maxHeartbeats 2000000 in
theorem sameGroundI_one (g : Gr) (w : World) :
    Calls Tryz.prog 31 #[.agg g.cells, .agg g.cells] w fun e w' => e = .returned (.bool true) ∧ Below w.heap.size w w' := by
  have hA : Blk ((w.alloc (.cells g.cells 30)).alloc (.cells g.cells 30)) w.heap.size g.cells 30 := (Blk.new _ _ _).alloc _
  have hB : Blk ((w.alloc (.cells g.cells 30)).alloc (.cells g.cells 30)) (w.heap.size + 1) g.cells 30 := Blk.new1 _ _ _ _
  have hbel := below2 w (.cells g.cells 30) (.cells g.cells 30)
  have e1 : g.cells.extract 2 (2 + 64) = (fls 64 g.con).toArray := fls_of (by rw [Array.size_extract, g.size]; rfl) (fun i hi => by rw [Array.getElem?_extract, if_pos (by rw [g.size]; omega), g.getC i hi])
  have e2 : g.cells.extract 66 (66 + 64) = (fls 64 g.gai).toArray := fls_of (by rw [Array.size_extract, g.size]; rfl) (fun i hi => by rw [Array.getElem?_extract, if_pos (by rw [g.size]; omega), g.getG i hi])
  have e3 : g.cells.extract 130 (130 + 64) = (fls 64 g.hea).toArray := fls_of (by rw [Array.size_extract, g.size]; rfl) (fun i hi => by rw [Array.getElem?_extract, if_pos (by rw [g.size]; omega), g.getH i hi])
  have hz : ∀ (F : Nat → Nat) w', Calls Tryz.prog 87 #[.agg (fls 64 F).toArray, .agg (fls 64 F).toArray] w' fun e w'' => e = .returned (.bool true) ∧ Below w'.heap.size w' w'' := fun F w' => sameFieldI_one F _ (fls_size 64 F) (fun k hk => by rw [List.getElem?_toArray]; exact fls_get 64 F k hk) (fls_one 64 F) w'
  go_enter Tryz.func31, Tryz.ntmps31
  go_upto_region 1 with (first | (refine wpList_box_as rfl rfl rfl ?_))
  have lA := hA.lt
  have lB := hB.lt
  generalize ((w.alloc (.cells g.cells 30)).alloc (.cells g.cells 30)) = W at *
  go_upto_region 2 with (first | (go_at_call 87; refine (hz _ _).mono ?_; rintro e w1 ⟨rfl, hb1⟩; replace hA := hA.below hb1 hA.lt; replace hB := hB.below hb1 hB.lt; replace hbel := hbel.trans (hb1.mono hbel.size); clear hb1) | (refine wpList_load_partE rfl rfl rfl row64 hA (by rw [Gr.size]; decide) e1 ?_) | (refine wpList_load_partE rfl rfl rfl row64 hA (by rw [Gr.size]; decide) e2 ?_) | (refine wpList_load_partE rfl rfl rfl row64 hA (by rw [Gr.size]; decide) e3 ?_) | (refine wpList_load_partE rfl rfl rfl row64 hB (by rw [Gr.size]; decide) e1 ?_) | (refine wpList_load_partE rfl rfl rfl row64 hB (by rw [Gr.size]; decide) e2 ?_) | (refine wpList_load_partE rfl rfl rfl row64 hB (by rw [Gr.size]; decide) e3 ?_) | (refine wpList_load_partW rfl rfl rfl row64 hA (by rw [Gr.size]; decide) e1 ?_) | (refine wpList_load_partW rfl rfl rfl row64 hA (by rw [Gr.size]; decide) e2 ?_) | (refine wpList_load_partW rfl rfl rfl row64 hA (by rw [Gr.size]; decide) e3 ?_) | (refine wpList_load_partW rfl rfl rfl row64 hB (by rw [Gr.size]; decide) e1 ?_) | (refine wpList_load_partW rfl rfl rfl row64 hB (by rw [Gr.size]; decide) e2 ?_) | (refine wpList_load_partW rfl rfl rfl row64 hB (by rw [Gr.size]; decide) e3 ?_))
  have a0 := hA.gat.get0
  have a1 := hA.gat.get1
  have a5 := hA.gat.getF
  have b0 := hB.gat.get0
  have b1 := hB.gat.get1
  have b5 := hB.gat.getF
  go_wp2_with fail
  go_ret
  exact ⟨rfl, hbel⟩
end Go.Proofs.YtdnnjahdcabdmaaGreatDoor
/- Any number drawn (l01Any, A2Number): a float below 2^32. -/
namespace Go.Proofs.YtdnnjahdcabdmaaGreatDoor
open Go.ChangeShapes Go.WideShapes Go.ChangeAt Go.RowKit
set_option linter.unusedVariables false
set_option linter.unusedSimpArgs false
attribute [local irreducible] Calls
def three (a b c : Int) (m : Nat) : Int := if m = 0 then a else if m = 1 then b else c
theorem three_at (a b c : Int) {m : Nat} (h : m < 3) : (#[.int .i64 a, .int .i64 b, .int .i64 c] : Array Value)[m]? = some (.int .i64 (three a b c m)) := by
  unfold three
  obtain rfl | rfl | rfl : m = 0 ∨ m = 1 ∨ m = 2 := by omega
  · rfl
  · rfl
  · rfl
set_option maxRecDepth 100000 in
set_option maxHeartbeats 800000 in
theorem among3_any (b k q : Nat) (x y z : Int) (t : TypeId) (hk : k + 1 < 1000000) (w : World) (hs : Src w b k) (hB : Blk w q #[.int .i64 x, .int .i64 y, .int .i64 z] t) (hne : q ≠ b) :
    Calls Tryz.prog 128 #[.pointer (some ⟨b, 0, none⟩), .slice (some ⟨q, 0, none⟩) 3 3] w (Gave w b (k + 2) fun r => ∃ m, m < 3 ∧ r = three x y z m) := by
  have hx := pick_any b k 3 hk (by omega) (by omega) w hs
  have HT := Lib.hid fun m (h : m < 3) => three_at x y z (m := m) h
  go_enter Tryz.func128, Tryz.ntmps128
  go_wp2_with (go_at_call 44; refine hx.mono ?_; rintro e w1 ⟨r, ⟨r0, r1⟩, rfl, hs1, hg1⟩; have hB1 := hB.grown hg1 (fun e => hne (Option.some.inj e).symm); clear hB hs hx; obtain ⟨m, rfl⟩ : ∃ m : Nat, r = m := ⟨r.toNat, by omega⟩; have hm := Int.ofNat_lt.1 r1; have c1 := (hB1.cell m).trans (HT.out m hm))
  go_ret
  exact ⟨_, ⟨m, hm, rfl⟩, rfl, hs1, hg1⟩
end Go.Proofs.YtdnnjahdcabdmaaGreatDoor
/- Floats below two to the thirty-second: plain laws. -/
namespace Go.Proofs.YtdnnjahdcabdmaaGreatDoor
open Go.ChangeShapes Go.WideShapes Go.ChangeAt Go.RowKit
theorem nan32_lt (t : Nat) : (t % 2) * 2 ^ 31 + 0x7f800000 + 1 + (t / 2) % (2 ^ 23 - 1) < 4294967296 := by omega
theorem nan_lt (x y : Nat) (w : World) : nanOf .f32 (.nanBits .f32 x y) w < 4294967296 := by
  simp only [nanOf, Question.cut]; exact nan32_lt _
theorem fres_lt {op : BinOp} {x y : Nat} (w : World) (h : ∀ r, floatBits op .f32 x y = some r → r < 4294967296) : fres op x y w < 4294967296 := by
  unfold fres
  cases hb : floatBits op .f32 x y with
  | none => exact nan_lt x y w
  | some r => exact h r hb
theorem quo_bits_lt {x y r : Nat} (h : floatBits .quo .f32 x y = some r) : r < 4294967296 := by
  have e : floatBits .quo .f32 x y = ((Ieee.single.read x).quotient (Ieee.single.fractionBits + 2) (Ieee.single.read y)).map Ieee.single.write := rfl
  rw [e] at h
  cases hq : (Ieee.single.read x).quotient (Ieee.single.fractionBits + 2) (Ieee.single.read y) with
  | none => rw [hq] at h; cases h
  | some d => rw [hq] at h; injection h with h; rw [← h]; exact write_lt d
end Go.Proofs.YtdnnjahdcabdmaaGreatDoor
/- math.NaN and math.Inf. -/
namespace Go.Proofs.YtdnnjahdcabdmaaGreatDoor
open Go.ChangeShapes Go.WideShapes Go.ChangeAt Go.RowKit
attribute [local irreducible] Calls
theorem run_n64from (n : Int) (w : World) : (callFunc 153 #[.int .u64 n]).run Tryz.prog w = .ok (.value (.float .f64 n.toNat)) w := by
  kernel_rfl
theorem mathNaN_any (w : World) : Calls Tryz.prog 126 #[] w fun e w' => e = .returned (.float .f64 9221120237041090561) ∧ w' = w := by
  have h := run_n64from 9221120237041090561
  go_enter Tryz.func126, Tryz.ntmps126
  go_wp2_with fail
  go_ret
  exact ⟨rfl, rfl⟩
theorem mathInf1_any (w : World) : Calls Tryz.prog 127 #[.int .i64 1] w fun e w' => e = .returned (.float .f64 9218868437227405312) ∧ w' = w := by
  have h := run_n64from 9218868437227405312
  go_enter Tryz.func127, Tryz.ntmps127
  go_wp2_with fail
  go_ret
  exact ⟨rfl, rfl⟩
theorem mathInfM_any (w : World) : Calls Tryz.prog 127 #[.int .i64 (-1)] w fun e w' => e = .returned (.float .f64 18442240474082181120) ∧ w' = w := by
  have h := run_n64from 18442240474082181120
  go_enter Tryz.func127, Tryz.ntmps127
  go_wp2_with fail
  go_ret
  exact ⟨rfl, rfl⟩
end Go.Proofs.YtdnnjahdcabdmaaGreatDoor
/- A NaN made narrow. -/
namespace Go.Proofs.YtdnnjahdcabdmaaGreatDoor
open Go.ChangeShapes Go.WideShapes Go.ChangeAt Go.RowKit
theorem run_narrow_nan {P : Program} (src dst : TypeId) (w : World) (hs : P.underlying src = some (.float .f64)) (hd : P.underlying dst = some (.float .f32)) :
    (convert src dst (.float .f64 9221120237041090561)).run P w = .ok (.float .f32 (nanOf .f32 (.nanConv .f32 9221120237041090561) w)) (w.drewN 1) := by
  have hr : ∃ s f, FloatKind.f64.decode 9221120237041090561 = .nan s f := ⟨_, _, rfl⟩
  obtain ⟨s, f, hr⟩ := hr
  simp [convert, run_underlying hs, run_underlying hd, Conv.floatToFloat, hr, Question.forced, nanOf]
  rfl
end Go.Proofs.YtdnnjahdcabdmaaGreatDoor
