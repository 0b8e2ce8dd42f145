import Derived.Test.YtdnnjahdcabdmaaGreatDoorMD12
import Derived.Test.YtdnnjahdcabdmaaGreatDoorMD17
import Derived.Test.YtdnnjahdcabdmaaGreatDoorMD18
/- The greatest change of heads between two grounds: the walks through the program's functions and the reference's. -/
namespace Go.Proofs.YtdnnjahdcabdmaaGreatDoor
open Go.ChangeShapes Go.WideShapes Go.ChangeAt Go.RowKit
set_option linter.unusedVariables false
set_option linter.unusedSimpArgs false
attribute [local irreducible] Calls

/-- The greatest of some numbers, the first one if several are as great. -/
def mxStep (v : Nat → Nat) (m k : Nat) : Nat := if fgt (v k) m then v k else m
def mx (v : Nat → Nat) : List Nat → Nat
  | [] => 0
  | c :: r => r.foldl (mxStep v) (v c)
theorem mx_snoc (v : Nat → Nat) (l : List Nat) (k : Nat) (h : l ≠ []) : mx v (l ++ [k]) = mxStep v (mx v l) k := by
  cases l with
  | nil => exact absurd rfl h
  | cons c r => simp [mx, List.foldl_append]
theorem mx_one (v : Nat → Nat) (k : Nat) : mx v [k] = v k := rfl
/-- The sizes of what cells have more. -/
def dsz (g g' : Gr) (k : Nat) : Nat := fab (dif g g' k)
def chg (g g' : Gr) : Nat := mx (dsz g g') (cellsTo g 64)

theorem cellF32 : CellTy Tryz.prog 25 := ⟨.float .f32, Tryz.underlying25, rfl, by kernel_rfl⟩
set_option maxRecDepth 100000 in
set_option maxHeartbeats 400000 in
theorem greatest_any (L : List Nat) (ff : Nat → Nat) (q r c : Nat) (T : TypeId) (w : World) (hL : L.length ≤ 64) (h64 : ∀ k, k ∈ L → k < 64) (hn : ∀ k, k ∈ L → isN .f32 (ff k) = false) (hQ : Blk w q (fls 64 ff).toArray T) (hown : Own w r 3 1 (.slice (some ⟨r, 0, none⟩) L.length c) L.length (ils L)) (hne : L ≠ []) :
    Calls Tryz.prog 200 #[.slice (some ⟨r, 0, none⟩) L.length c, .pointer (some ⟨q, 0, none⟩)] w fun e w' => ∃ k : Nat, e = .returned (.int .i64 k) ∧ k ∈ L ∧ Hid (fab (ff k) = mx (fun i => fab (ff i)) L) ∧ Below w.heap.size w w' := by
  have HN := Lib.hid (And.intro h64 hn)
  clear h64 hn
  obtain ⟨_, hcap, hc1, hc2⟩ := hown.form
  unfold maxLen at hc2
  clear hcap
  go_enter Tryz.func200, Tryz.ntmps200
  go_wp2_with fail
  go_loopw [5, 10] (fun bs i wr => ∃ (j : Nat) (x : Int), j ≤ L.length ∧ i = .int .i64 j ∧ bs = .int .i64 x ∧ Hid ((j = 0 ∧ x = -1) ∨ (0 < j ∧ ∃ k : Nat, x = k ∧ k ∈ L ∧ fab (ff k) = mx (fun i => fab (ff i)) (L.take j))) ∧ Blk wr q (fls 64 ff).toArray T ∧ Own wr r 3 1 (.slice (some ⟨r, 0, none⟩) L.length c) L.length (ils L) ∧ Below w.heap.size w wr) (fun _ i _ => L.length - (intOf i).toNat)
  case atStart => exact ⟨0, -1, by omega, rfl, rfl, Lib.hid (.inl ⟨rfl, rfl⟩), hQ, hown, Below.refl _ _⟩
  case round =>
    clear hQ hown
    obtain ⟨j, x, hj, rfl, rfl, hx, hQ, hown, hbel⟩ := hrel
    have lq := hQ.lt
    have bj : (0 : Int) ≤ j := by omega
    by_cases hlt : j < L.length
    · have bl : (j : Int) < L.length := by omega
      obtain ⟨k, hk⟩ : ∃ k, L[j]? = some k := ⟨_, List.getElem?_eq_getElem hlt⟩
      have c0 : wr.cell? ⟨r, j, none⟩ = some (.int .i64 k) := (hown.cell _ (by omega)).trans (ils_get _ _ _ hk)
      have hkL := List.mem_of_getElem? hk
      have hk64 := HN.out.1 k hkL
      have HT : Hid (L.take (j + 1) = L.take j ++ [k]) := Lib.hid (by rw [List.take_add_one, hk]; rfl)
      have HKL := Lib.hid hkL
      have hs1 := fun w' => size_any (ff k) (HN.out.2 k hkL) w'
      have c1 : wr.cell? ⟨q, k, none⟩ = some (.float .f32 (ff k)) := (hQ.cell _).trans (by rw [List.getElem?_toArray, fls_get 64 _ k hk64])
      have k0 : (0 : Int) ≤ k := by omega
      have k1 : (k : Int) < 64 := by omega
      clear hk hkL
      rcases hx.out with ⟨rfl, rfl⟩ | ⟨hj0, kb, rfl, hkb, hmx⟩
      · go_wp2_with fail
        go_quiet (fail)
        go_wp2_with fail
        go_roundw
        case rel => exact ⟨1, _, by omega, rfl, rfl, Lib.hid (.inr ⟨by omega, k, rfl, HKL.out, by rw [HT.out]; rfl⟩), hQ.drewN _, hown.drewN _, below_drewN hbel _⟩
        case measure => simp [intOf]; omega
      · have kb64 := HN.out.1 kb hkb
        have hs2 := fun w' => size_any (ff kb) (HN.out.2 kb hkb) w'
        have c2 : wr.cell? ⟨q, kb, none⟩ = some (.float .f32 (ff kb)) := (hQ.cell _).trans (by rw [List.getElem?_toArray, fls_get 64 _ kb kb64])
        have b0 : (0 : Int) ≤ kb := by omega
        have b1 : (kb : Int) < 64 := by omega
        have hd : decide ((kb : Int) < 0) = false := by simp
        have HB := Lib.hid (And.intro hkb hmx)
        have HNE : Hid (L.take j ≠ []) := Lib.hid (by intro h; have := congrArg List.length h; rw [List.length_take, List.length_nil] at this; omega)
        clear hkb hmx hx
        generalize hy1 : fab (ff k) = y1 at *
        generalize hy2 : fab (ff kb) = y2 at *
        have HY := Lib.hid (And.intro hy1 hy2)
        clear hy1 hy2
        go_wp2_with fail
        refine wp_region_below (by kernel_rfl) (by kernel_rfl) ?_
        refine quiet_move rfl rfl rfl rfl ?_
        simp only [List.set_cons_succ, List.set_cons_zero]
        refine quiet_run (v := .bool false) rfl rfl (fun w' => (show _ = Result.ok (Next.value (.bool (decide ((kb : Int) < 0)))) w' from rfl).trans (by rw [hd])) ?_
        simp only [List.set_cons_succ, List.set_cons_zero]
        refine quiet_move rfl rfl rfl rfl ?_
        simp only [List.set_cons_succ, List.set_cons_zero]
        refine quiet_move rfl rfl rfl rfl ?_
        simp only [List.set_cons_succ, List.set_cons_zero]
        refine quiet_move rfl rfl rfl rfl ?_
        simp only [List.set_cons_succ, List.set_cons_zero]
        refine quiet_run (v := .pointer (some ⟨q, 0, none⟩)) rfl rfl (fun w' => by rfl) ?_
        simp only [List.set_cons_succ, List.set_cons_zero]
        refine quiet_run (v := .pointer (some ⟨q, k, none⟩)) rfl rfl (fun w' => by simp [execOp, Act.eval, go_sem, k1]) ?_
        simp only [List.set_cons_succ, List.set_cons_zero]
        refine quiet_cell rfl rfl rfl rfl cellF32 (fun w' hw' => (hw'.cell (p := ⟨q, k, none⟩) lq).trans c1) ?_
        simp only [List.set_cons_succ, List.set_cons_zero]
        refine quiet_call rfl rfl rfl Tryz.func199 (by kernel_rfl) (by kernel_rfl) rfl (fun w' hw' => (hs1 w').mono fun e w'' h => ⟨h.1, by rw [h.2]; exact hw'⟩) ?_
        simp only [List.set_cons_succ, List.set_cons_zero]
        refine quiet_move rfl rfl rfl rfl ?_
        simp only [List.set_cons_succ, List.set_cons_zero]
        refine quiet_move rfl rfl rfl rfl ?_
        simp only [List.set_cons_succ, List.set_cons_zero]
        refine quiet_run (v := .pointer (some ⟨q, 0, none⟩)) rfl rfl (fun w' => by rfl) ?_
        simp only [List.set_cons_succ, List.set_cons_zero]
        refine quiet_run (v := .pointer (some ⟨q, kb, none⟩)) rfl rfl (fun w' => by simp [execOp, Act.eval, go_sem, b1]) ?_
        simp only [List.set_cons_succ, List.set_cons_zero]
        refine quiet_cell rfl rfl rfl rfl cellF32 (fun w' hw' => (hw'.cell (p := ⟨q, kb, none⟩) lq).trans c2) ?_
        simp only [List.set_cons_succ, List.set_cons_zero]
        refine quiet_call rfl rfl rfl Tryz.func199 (by kernel_rfl) (by kernel_rfl) rfl (fun w' hw' => (hs2 w').mono fun e w'' h => ⟨h.1, by rw [h.2]; exact hw'⟩) ?_
        simp only [List.set_cons_succ, List.set_cons_zero]
        refine quiet_run (v := .bool (fgt y1 y2)) rfl rfl (fun w' => by simp [execOp, Act.eval, go_sem, fgt_eq]) ?_
        simp only [List.set_cons_succ, List.set_cons_zero]
        refine quiet_run (v := .bool (fgt y1 y2)) rfl rfl (fun w' => by rfl) ?_
        simp only [List.set_cons_succ, List.set_cons_zero]
        refine wpQuiet_nil ?_
        intro w1 hw1
        have lw := hown.lt
        have hown := hown.below hw1 lw
        have hQ := hQ.below hw1 lq
        have hbel := hbel.trans (hw1.mono hbel.size)
        cases hv : fgt y1 y2
        · have HV := Lib.hid hv
          clear hv
          go_wp2_with fail
          go_roundw
          case rel => exact ⟨j + 1, _, by omega, by go_num, rfl, Lib.hid (.inr ⟨by omega, kb, rfl, HB.out.1, by rw [HT.out, mx_snoc _ _ _ HNE.out, HY.out.2, ← HB.out.2]; simp only [mxStep]; rw [HY.out.1, HV.out]; rfl⟩), hQ, hown, hbel⟩
          case measure => simp [intOf]; omega
        · have HV := Lib.hid hv
          clear hv
          go_wp2_with fail
          go_roundw
          case rel => exact ⟨j + 1, _, by omega, by go_num, rfl, Lib.hid (.inr ⟨by omega, k, rfl, HKL.out, by rw [HT.out, mx_snoc _ _ _ HNE.out, HY.out.1, ← HB.out.2]; simp only [mxStep]; rw [HY.out.1, HV.out]; rfl⟩), hQ, hown, hbel⟩
          case measure => simp [intOf]; omega
    · obtain rfl : j = L.length := by omega
      have h0 : L.length ≠ 0 := fun h => hne (List.eq_nil_of_length_eq_zero h)
      rcases hx.out with ⟨h1, _⟩ | ⟨_, kb, rfl, hkb, hmx⟩
      · exact absurd h1 h0
      · rw [List.take_length] at hmx
        have HB := Lib.hid (And.intro hkb hmx)
        clear hkb hmx hx h0
        go_wp2_with fail
        go_ret
        exact ⟨kb, rfl, HB.out.1, Lib.hid HB.out.2, hbel⟩

/-- Cell 0 is a cell of a valid ground. -/
theorem isC_zero {g : Gr} (h : validG g = true) : isC g 0 = true := by
  obtain ⟨h1, h2, _⟩ := validG_parts h
  unfold isC; simp; omega
theorem cells_ne {g : Gr} (h : validG g = true) (k : Nat) (hk : 0 < k) : cellsTo g k ≠ [] := by
  intro h0
  have : 0 ∈ cellsTo g k := cellsTo_mem.2 ⟨hk, isC_zero h⟩
  rw [h0] at this; cases this
theorem plain_heads {g : Gr} (h : validG g = true) (k : Nat) (hk : k < 64) (hc : isC g k = true) : plain (g.hea k) = true := (fieldIs_at (validG_parts h).2.2.2.2.1 k hk).1 hc

set_option maxRecDepth 100000 in
set_option maxHeartbeats 400000 in
theorem change_any (g g' : Gr) (b b' : Nat) (hg : g.ok) (hv : validG g = true) (hv' : validG g' = true) (hw : g.wide = g'.wide) (hh : g.high = g'.high) (w : World) (hb : GAt w b g) (hb' : GAt w b' g') :
    Calls Tryz.prog 191 #[.pointer (some ⟨b, 0, none⟩), .pointer (some ⟨b', 0, none⟩)] w fun e w' => e = .returned (.float .f32 (chg g g')) ∧ Below w.heap.size w w' := by
  have lb := hb.lt
  have lb' := hb'.lt
  have hcl := fun w' h => cells_any g b hg w' h
  have hlen := cellsTo_length g 64
  have hmem : Hid (∀ k, k ∈ cellsTo g 64 → k < 64) := Lib.hid fun k h => (cellsTo_lt h).1
  have HD : Hid (∀ k, k ∈ cellsTo g 64 → isN .f32 (dif g g' k) = false) := Lib.hid fun k h => by
    have hm := cellsTo_mem.1 h
    exact (fop_sub_plain (plain_heads hv' k hm.1 (by rw [← isC_eq hw hh]; exact hm.2)) (plain_heads hv k hm.1 hm.2)).1
  have HNE := Lib.hid (cells_ne hv 64 (by omega))
  have HX : Hid (chg g g' = mx (dsz g g') (cellsTo g 64)) := Lib.hid rfl
  generalize cellsTo g 64 = L at *
  generalize hX : chg g g' = X at *
  clear hX
  go_enter Tryz.func191, Tryz.ntmps191
  go_upto_region 2 with (first | (refine wpList_alloc_as rfl rfl zero64 ?_) | (refine wpList_zero rfl rfl built64 ?_) | (refine wpList_store_last rfl rfl rfl rfl rfl (by rw [fls_size]; kernel_rfl) rfl (List.all_eq_true.2 (fls_one _ _)) ?_))
  have hQ := Blk.new w (fls 64 fun _ => 0).toArray 27
  have hb := hb.alloc (.cells (fls 64 fun _ => 0).toArray 27)
  have hb' := hb'.alloc (.cells (fls 64 fun _ => 0).toArray 27)
  have hbel := below1 w (.cells (fls 64 fun _ => 0).toArray 27)
  generalize w.alloc (.cells (fls 64 fun _ => 0).toArray 27) = W at *
  go_wp2_with (go_at_call 73; refine (hcl _ hb).mono ?_; rintro e w1 ⟨r1, cap1, rfl, hr1, hown1, hbel1⟩)
  have lQ := hQ.lt
  have hQ := hQ.below hbel1 lQ
  have hb := hb.below hbel1 hb.lt
  have hb' := hb'.below hbel1 hb'.lt
  have hbel := hbel.trans (hbel1.mono hbel.size)
  obtain ⟨_, hcap, hc1, hc2⟩ := hown1.form
  injection hcap with _ _ hcap
  subst hcap
  have q1 : w.heap.size < r1 := by omega
  clear hbel1 lQ hr1
  go_loopw [12] (fun i wr => ∃ (j : Nat) (ff : Nat → Nat), j ≤ L.length ∧ i = .int .i64 j ∧ Hid (∀ k, k ∈ L.take j → ff k = dif g g' k) ∧ Blk wr w.heap.size (fls 64 ff).toArray 27 ∧ Own wr r1 3 1 (.slice (some ⟨r1, 0, none⟩) L.length cap1) L.length (ils L) ∧ GAt wr b g ∧ GAt wr b' g' ∧ Below w.heap.size w wr) (fun i _ => L.length - (intOf i).toNat)
  case atStart => exact ⟨0, _, by omega, rfl, Lib.hid (fun k hk => by simp at hk), hQ, hown1, hb, hb', hbel⟩
  case round =>
    clear hQ hown1 hb hb' hbel
    obtain ⟨j, ff, hj, rfl, hff, hQ, hown, hb, hb', hbel⟩ := hrel
    have bj : (0 : Int) ≤ j := by omega
    by_cases hlt : j < L.length
    · obtain ⟨k, hk⟩ : ∃ k, L[j]? = some k := ⟨_, List.getElem?_eq_getElem hlt⟩
      have hkL := List.mem_of_getElem? hk
      have hk64 := hmem.out k hkL
      have c0 : wr.cell? ⟨r1, j, none⟩ = some (.int .i64 k) := (hown.cell _ (by omega)).trans (ils_get _ _ _ hk)
      have HT : Hid (L.take (j + 1) = L.take j ++ [k]) := Lib.hid (by rw [List.take_add_one, hk]; rfl)
      have HN := Lib.hid (HD.out k hkL)
      clear hk hkL
      have bk : (0 : Int) ≤ k := by omega
      have bl : (k : Int) < 64 := by omega
      have m1 : wr.cell? ⟨b', 130 + k, none⟩ = some (.float .f32 (g'.hea k)) := hb'.getH k hk64
      have m2 : wr.cell? ⟨b, 130 + k, none⟩ = some (.float .f32 (g.hea k)) := hb.getH k hk64
      have c3 : wr.cell? ⟨w.heap.size, k, none⟩ = some (.float .f32 (ff k)) := (hQ.cell _).trans (by rw [List.getElem?_toArray, fls_get 64 _ k hk64])
      have f3 := hQ.free k
      go_upto_region 5 with fail
      refine wp_tailL rfl (C := fun w' => ∃ n, w' = wr.drewN n) (R := fun _ _ => True) (F := fun _ dd vv => match dd, vv with
        | 16, vv => vv = .int .i64 k
        | 17, vv => vv = .pointer (some ⟨b', 0, none⟩)
        | 18, vv => vv = .int .i64 k
        | 19, vv => vv = .pointer (some ⟨b', 0, none⟩)
        | 20, vv => vv = .pointer (some ⟨b', 130, none⟩)
        | 21, vv => vv = .pointer (some ⟨b', 130 + k, none⟩)
        | 22, vv => vv = .float .f32 (g'.hea k)
        | 23, vv => vv = .pointer (some ⟨b, 0, none⟩)
        | 24, vv => vv = .int .i64 k
        | 25, vv => vv = .pointer (some ⟨b, 0, none⟩)
        | 26, vv => vv = .pointer (some ⟨b, 130, none⟩)
        | 27, vv => vv = .pointer (some ⟨b, 130 + k, none⟩)
        | 28, vv => vv = .float .f32 (g.hea k)
        | 29, vv => ∃ fb, vv = .float .f32 fb ∧ cn fb = cn (fop .sub (g'.hea k) (g.hea k))
        | 30, vv => vv = .pointer (some ⟨w.heap.size, k, none⟩)
        | _, _ => True) (fun _ _ _ _ _ h => h) (by kernel_rfl) (by kernel_rfl) rfl rfl (by kernel_rfl) ⟨1, rfl⟩ ?_ ?_
      · refine ⟨step_go rfl fun ev w1 hC kn => ?_, ?_⟩
        · have e1 : ev (.tmp 7) = .int .i64 k := kn.out 7 rfl rfl rfl
          exact good_of (v := .int .i64 k) rfl (by simp [execOp, e1, kn.con, go_sem]) hC trivial rfl
        refine ⟨step_go rfl fun ev w1 hC kn => ?_, ?_⟩
        · have e1 : ev (.tmp 1) = .pointer (some ⟨b', 0, none⟩) := kn.out 1 rfl rfl rfl
          exact good_of (v := .pointer (some ⟨b', 0, none⟩)) rfl (by simp [execOp, e1, kn.con, go_sem]) hC trivial rfl
        refine ⟨step_go rfl fun ev w1 hC kn => ?_, ?_⟩
        · have e1 : ev (.tmp 7) = .int .i64 k := kn.out 7 rfl rfl rfl
          exact good_of (v := .int .i64 k) rfl (by simp [execOp, e1, kn.con, go_sem]) hC trivial rfl
        refine ⟨step_go rfl fun ev w1 hC kn => ?_, ?_⟩
        · have e1 : ev (.tmp 17) = .pointer (some ⟨b', 0, none⟩) := kn.inn 17 rfl rfl
          exact good_of (v := .pointer (some ⟨b', 0, none⟩)) rfl (by simp [execOp, e1, kn.con, go_sem]) hC trivial rfl
        refine ⟨step_go rfl fun ev w1 hC kn => ?_, ?_⟩
        · have e1 : ev (.tmp 19) = .pointer (some ⟨b', 0, none⟩) := kn.inn 19 rfl rfl
          exact good_of (v := .pointer (some ⟨b', 130, none⟩)) rfl (by simp only [execOp, e1]; rfl) hC trivial rfl
        refine ⟨step_go rfl fun ev w1 hC kn => ?_, ?_⟩
        · have e1 : ev (.tmp 20) = .pointer (some ⟨b', 130, none⟩) := kn.inn 20 rfl rfl
          have e2 : ev (.tmp 18) = .int .i64 k := kn.inn 18 rfl rfl
          exact good_of (v := .pointer (some ⟨b', 130 + k, none⟩)) rfl (by simp [execOp, e1, e2, kn.con, go_sem, bl]) hC trivial rfl
        refine ⟨step_go rfl fun ev w1 hC kn => ?_, ?_⟩
        · have e1 : ev (.tmp 21) = .pointer (some ⟨b', 130 + k, none⟩) := kn.inn 21 rfl rfl
          obtain ⟨nn, rfl⟩ := hC
          exact good_of (v := .float .f32 (g'.hea k)) rfl (by simp [execOp, e1, go_sem, m1]) ⟨nn, rfl⟩ trivial rfl
        refine ⟨step_go rfl fun ev w1 hC kn => ?_, ?_⟩
        · have e1 : ev (.tmp 0) = .pointer (some ⟨b, 0, none⟩) := kn.out 0 rfl rfl rfl
          exact good_of (v := .pointer (some ⟨b, 0, none⟩)) rfl (by simp [execOp, e1, kn.con, go_sem]) hC trivial rfl
        refine ⟨step_go rfl fun ev w1 hC kn => ?_, ?_⟩
        · have e1 : ev (.tmp 7) = .int .i64 k := kn.out 7 rfl rfl rfl
          exact good_of (v := .int .i64 k) rfl (by simp [execOp, e1, kn.con, go_sem]) hC trivial rfl
        refine ⟨step_go rfl fun ev w1 hC kn => ?_, ?_⟩
        · have e1 : ev (.tmp 23) = .pointer (some ⟨b, 0, none⟩) := kn.inn 23 rfl rfl
          exact good_of (v := .pointer (some ⟨b, 0, none⟩)) rfl (by simp [execOp, e1, kn.con, go_sem]) hC trivial rfl
        refine ⟨step_go rfl fun ev w1 hC kn => ?_, ?_⟩
        · have e1 : ev (.tmp 25) = .pointer (some ⟨b, 0, none⟩) := kn.inn 25 rfl rfl
          exact good_of (v := .pointer (some ⟨b, 130, none⟩)) rfl (by simp only [execOp, e1]; rfl) hC trivial rfl
        refine ⟨step_go rfl fun ev w1 hC kn => ?_, ?_⟩
        · have e1 : ev (.tmp 26) = .pointer (some ⟨b, 130, none⟩) := kn.inn 26 rfl rfl
          have e2 : ev (.tmp 24) = .int .i64 k := kn.inn 24 rfl rfl
          exact good_of (v := .pointer (some ⟨b, 130 + k, none⟩)) rfl (by simp [execOp, e1, e2, kn.con, go_sem, bl]) hC trivial rfl
        refine ⟨step_go rfl fun ev w1 hC kn => ?_, ?_⟩
        · have e1 : ev (.tmp 27) = .pointer (some ⟨b, 130 + k, none⟩) := kn.inn 27 rfl rfl
          obtain ⟨nn, rfl⟩ := hC
          exact good_of (v := .float .f32 (g.hea k)) rfl (by simp [execOp, e1, go_sem, m2]) ⟨nn, rfl⟩ trivial rfl
        refine ⟨step_go rfl fun ev w1 hC kn => ?_, ?_⟩
        · have e1 : ev (.tmp 22) = .float .f32 (g'.hea k) := kn.inn 22 rfl rfl
          have e2 : ev (.tmp 28) = .float .f32 (g.hea k) := kn.inn 28 rfl rfl
          obtain ⟨nn, rfl⟩ := hC
          exact good_of (v := .float .f32 (fres .sub (g'.hea k) (g.hea k) (wr.drewN nn))) (w' := wr.drewN (nn + fcnt .sub (g'.hea k) (g.hea k))) rfl (by simp [execOp, e1, e2, kn.con, run_fsub, go_sem]) ⟨_, rfl⟩ trivial ⟨_, rfl, by rw [cn_res, fop_eq rfl rfl, cn_fop]⟩
        refine ⟨step_go rfl fun ev w1 hC kn => ?_, ?_⟩
        · have e1 : ev (.tmp 5) = .pointer (some ⟨w.heap.size, 0, none⟩) := kn.out 5 rfl rfl rfl
          have e2 : ev (.tmp 16) = .int .i64 k := kn.inn 16 rfl rfl
          exact good_of (v := .pointer (some ⟨w.heap.size, k, none⟩)) rfl (by simp [execOp, e1, e2, kn.con, go_sem, bl]) hC trivial rfl
        exact trivial
      rintro xv w1 hxv hC
      obtain ⟨b29, y29, g29⟩ : ∃ fb, xv 29 = .float .f32 fb ∧ cn fb = cn (fop .sub (g'.hea k) (g.hea k)) := hxv 29 (by decide)
      have y30 : xv 30 = .pointer (some ⟨w.heap.size, k, none⟩) := hxv 30 (by decide)
      obtain ⟨n, rfl⟩ := hC
      simp only [fill, dstsOf, List.filterMap_cons, List.filterMap_nil, List.foldl_cons, List.foldl_nil, List.set_cons_succ, List.set_cons_zero, y29, y30]
      clear hxv y29 y30
      refine ⟨(wr.drewN n).setCell ⟨w.heap.size, k, none⟩ (.float .f32 b29), by simp [execOp, Act.eval, go_sem, c3, f3], ?_⟩
      have HB : Hid (b29 = dif g g' k) := Lib.hid (al_eq g29 HN.out)
      clear g29
      go_wp2_with fail
      go_roundw
      case rel =>
        refine ⟨j + 1, upd ff k b29, by omega, by go_num, Lib.hid fun i hi => ?_, ?_, (hown.drewN n).setOther (a := ⟨w.heap.size, k, none⟩) _ (by show r1 ≠ w.heap.size; omega), (hb.drewN n).move (heap_setCell_other _ ⟨w.heap.size, k, none⟩ b _ (by show b ≠ w.heap.size; omega)), (hb'.drewN n).move (heap_setCell_other _ ⟨w.heap.size, k, none⟩ b' _ (by show b' ≠ w.heap.size; omega)), (below_drewN hbel n).setCell (p := ⟨w.heap.size, k, none⟩) (Nat.le_refl _) _⟩
        · rw [HT.out] at hi
          unfold Go.Proofs.YtdnnjahdcabdmaaGreatDoor.upd
          by_cases hik : i = k
          · subst hik; simp only [if_true]; exact HB.out
          · simp only [hik, if_false]
            rcases List.mem_append.1 hi with h | h
            · exact hff.out i h
            · simp at h; exact absurd h hik
        · have := (hQ.drewN n).setCell k (.float .f32 b29)
          rw [fls_set _ _ _ _ hk64] at this
          exact this
      case measure => simp [intOf]; omega
    · obtain rfl : j = L.length := by omega
      have h1 := hff.out
      rw [List.take_length] at h1
      have HF := Lib.hid h1
      clear h1
      have hcl2 := hcl wr hb
      have lQ := hQ.lt
      have hgr := fun w' r c hq ho => greatest_any L ff w.heap.size r c 27 w' hlen hmem.out (fun k hk => by rw [HF.out k hk]; exact HD.out k hk) hq ho HNE.out
      have HMX : Hid (∀ k, k ∈ L → fab (ff k) = mx (fun i => fab (ff i)) L → fab (ff k) = X) := Lib.hid fun k hk h => by
        rw [h, HX.out]
        have : ∀ (l : List Nat) (m : Nat), (∀ i, i ∈ l → ff i = dif g g' i) → l.foldl (mxStep fun i => fab (ff i)) m = l.foldl (mxStep (dsz g g')) m := by
          intro l
          induction l with
          | nil => intro m _; rfl
          | cons a l ih =>
            intro m hl
            simp only [List.foldl_cons]
            rw [show mxStep (fun i => fab (ff i)) m a = mxStep (dsz g g') m a from by unfold mxStep dsz; simp only [hl a (by simp)]]
            exact ih _ (fun i hi => hl i (List.mem_cons_of_mem _ hi))
        cases L with
        | nil => rfl
        | cons a l =>
          simp only [mx]
          rw [show dsz g g' a = fab (ff a) from by unfold dsz; rw [HF.out a (by simp)]]
          exact this l _ (fun i hi => HF.out i (List.mem_cons_of_mem _ hi))
      go_upto_region 7 with fail
      go_wp2_with fail
      refine hcl2.mono ?_
      rintro e w2 ⟨r2, cap2, rfl, hr2, hown2, hbel2⟩
      have hQ2 := hQ.below hbel2 lQ
      have hgr2 := hgr w2 r2 cap2 hQ2 hown2
      clear hcl2 hgr hcl
      go_wp2_with fail
      refine hgr2.mono ?_
      rintro e w3 ⟨k, rfl, hkL, hmx, hb3⟩
      have hk64 := hmem.out k hkL
      have bk : (0 : Int) ≤ k := by omega
      have bl : (k : Int) < 64 := by omega
      have c3 : w3.cell? ⟨w.heap.size, k, none⟩ = some (.float .f32 (ff k)) := ((hQ2.below hb3 hQ2.lt).cell _).trans (by rw [List.getElem?_toArray, fls_get 64 _ k hk64])
      have hsz := fun w' => size_any (ff k) (by rw [HF.out k hkL]; exact HD.out k hkL) w'
      have HR := Lib.hid (HMX.out k hkL hmx.out)
      clear hmx hkL hgr2
      go_wp2_with (go_at_call 199; refine (hsz _).mono ?_; rintro e w' ⟨rfl, hw⟩; rw [hw]; clear hw w')
      go_ret
      exact ⟨by rw [← HR.out]; rfl, (hbel.trans (hbel2.mono hbel.size)).trans (hb3.mono (hbel.trans (hbel2.mono hbel.size)).size)⟩

set_option maxRecDepth 100000 in
set_option maxHeartbeats 400000 in
theorem l02Greater_rd (a b A B : Nat) (ha : Ieee.single.read a = Ieee.single.read A) (hb : Ieee.single.read b = Ieee.single.read B) (w : World) :
    Calls Tryz.prog 202 #[.float .f32 a, .float .f32 b] w fun e w' => ∃ r, e = .returned (.float .f32 r) ∧ Ieee.single.read r = Ieee.single.read (if fgt B A then B else A) ∧ w' = w := by
  have h1 := fgt_eq b a
  rw [fgt_rd hb ha] at h1
  have HH := Lib.hid (And.intro ha hb)
  clear ha hb
  cases hv : fgt B A <;> rw [hv] at h1
  · go_enter Tryz.func202, Tryz.ntmps202
    go_wp2_with fail
    go_ret
    exact ⟨_, rfl, HH.out.1, rfl⟩
  · go_enter Tryz.func202, Tryz.ntmps202
    go_wp2_with fail
    go_ret
    exact ⟨_, rfl, HH.out.2, rfl⟩

set_option maxRecDepth 100000 in
set_option maxHeartbeats 400000 in
theorem l02Change_any (g g' : Gr) (b b' : Nat) (hg : g.ok) (hv : validG g = true) (hv' : validG g' = true) (hw : g.wide = g'.wide) (hh : g.high = g'.high) (w : World) (hb : GAt w b g) (hb' : GAt w b' g') :
    Calls Tryz.prog 193 #[.pointer (some ⟨b, 0, none⟩), .pointer (some ⟨b', 0, none⟩)] w fun e w' => ∃ r, e = .returned (.float .f32 r) ∧ Ieee.single.read r = Ieee.single.read (chg g g') ∧ ∃ n, w' = w.drewN n := by
  have HD : Hid (∀ k, k < 64 → isC g k = true → isN .f32 (dif g g' k) = false) := Lib.hid fun k hk hc =>
    (fop_sub_plain (plain_heads hv' k hk (by rw [← isC_eq hw hh]; exact hc)) (plain_heads hv k hk hc)).1
  have HZ := Lib.hid (isC_zero hv)
  have HV := Lib.hid hv
  have hd0 := HD.out 0 (by omega) HZ.out
  have HS : ∀ k, k < 64 → isC g k = true → ∀ x, cn x = cn (fop .sub (g'.hea k) (g.hea k)) → ∀ w', Calls Tryz.prog 201 #[.float .f32 x] w' fun e w'' => ∃ r, e = .returned (.float .f32 r) ∧ Ieee.single.read r = Ieee.single.read (dsz g g' k) ∧ w'' = w' := fun k hk hc x hx w' => by
    have hn := HD.out k hk hc
    have : x = dif g g' k := al_eq hx hn
    rw [this]
    exact l01Size_any _ hn w'
  have HS' := Lib.hid HS
  clear HS hd0 hv hv' hw hh
  have m1 : w.cell? ⟨b', 130, none⟩ = some (.float .f32 (g'.hea 0)) := hb'.getH 0 (by omega)
  have m2 : w.cell? ⟨b, 130, none⟩ = some (.float .f32 (g.hea 0)) := hb.getH 0 (by omega)
  have hs0 := HS'.out 0 (by omega) HZ.out
  go_enter Tryz.func193, Tryz.ntmps193
  go_wp2_with fail
  refine wp_loose (C := fun w' => ∃ n, w' = w.drewN n) (R := fun _ _ => True) (F := fun _ dd vv => match dd, vv with
    | 7, vv => vv = .pointer (some ⟨b', 0, none⟩)
    | 8, vv => vv = .pointer (some ⟨b', 0, none⟩)
    | 9, vv => vv = .pointer (some ⟨b', 130, none⟩)
    | 10, vv => vv = .pointer (some ⟨b', 130, none⟩)
    | 11, vv => vv = .float .f32 (g'.hea 0)
    | 12, vv => vv = .pointer (some ⟨b, 0, none⟩)
    | 13, vv => vv = .pointer (some ⟨b, 0, none⟩)
    | 14, vv => vv = .pointer (some ⟨b, 130, none⟩)
    | 15, vv => vv = .pointer (some ⟨b, 130, none⟩)
    | 16, vv => vv = .float .f32 (g.hea 0)
    | 17, vv => ∃ fb, vv = .float .f32 fb ∧ cn fb = cn (fop .sub (g'.hea 0) (g.hea 0))
    | 18, vv => ∃ fb, vv = .float .f32 fb ∧ Ieee.single.read fb = Ieee.single.read (dsz g g' 0)
    | 5, vv => ∃ fb, vv = .float .f32 fb ∧ Ieee.single.read fb = Ieee.single.read (dsz g g' 0)
    | _, _ => True) (fun _ _ _ _ _ h => h) (by kernel_rfl) (by kernel_rfl) (by kernel_rfl) ⟨1, rfl⟩ ?_ ?_
  · refine steps_cons (step_go rfl fun ev w1 hC kn => ?_) ?_
    · have e1 : ev (.tmp 1) = .pointer (some ⟨b', 0, none⟩) := kn.out 1 rfl rfl rfl
      exact good_of (v := .pointer (some ⟨b', 0, none⟩)) rfl (by simp [execOp, e1, kn.con, go_sem]) hC trivial rfl
    refine steps_cons (step_go rfl fun ev w1 hC kn => ?_) ?_
    · have e1 : ev (.tmp 7) = .pointer (some ⟨b', 0, none⟩) := kn.inn 7 rfl rfl
      exact good_of (v := .pointer (some ⟨b', 0, none⟩)) rfl (by simp [execOp, e1, kn.con, go_sem]) hC trivial rfl
    refine steps_cons (step_go rfl fun ev w1 hC kn => ?_) ?_
    · have e1 : ev (.tmp 8) = .pointer (some ⟨b', 0, none⟩) := kn.inn 8 rfl rfl
      exact good_of (v := .pointer (some ⟨b', 130, none⟩)) rfl (by simp only [execOp, e1]; rfl) hC trivial rfl
    refine steps_cons (step_go rfl fun ev w1 hC kn => ?_) ?_
    · have e1 : ev (.tmp 9) = .pointer (some ⟨b', 130, none⟩) := kn.inn 9 rfl rfl
      exact good_of (v := .pointer (some ⟨b', 130, none⟩)) rfl (by simp [execOp, e1, kn.con, go_sem]) hC trivial rfl
    refine steps_cons (step_go rfl fun ev w1 hC kn => ?_) ?_
    · have e1 : ev (.tmp 10) = .pointer (some ⟨b', 130, none⟩) := kn.inn 10 rfl rfl
      obtain ⟨nn, rfl⟩ := hC
      exact good_of (v := .float .f32 (g'.hea 0)) rfl (by simp [execOp, e1, go_sem, m1]) ⟨nn, rfl⟩ trivial rfl
    refine steps_cons (step_go rfl fun ev w1 hC kn => ?_) ?_
    · have e1 : ev (.tmp 0) = .pointer (some ⟨b, 0, none⟩) := kn.out 0 rfl rfl rfl
      exact good_of (v := .pointer (some ⟨b, 0, none⟩)) rfl (by simp [execOp, e1, kn.con, go_sem]) hC trivial rfl
    refine steps_cons (step_go rfl fun ev w1 hC kn => ?_) ?_
    · have e1 : ev (.tmp 12) = .pointer (some ⟨b, 0, none⟩) := kn.inn 12 rfl rfl
      exact good_of (v := .pointer (some ⟨b, 0, none⟩)) rfl (by simp [execOp, e1, kn.con, go_sem]) hC trivial rfl
    refine steps_cons (step_go rfl fun ev w1 hC kn => ?_) ?_
    · have e1 : ev (.tmp 13) = .pointer (some ⟨b, 0, none⟩) := kn.inn 13 rfl rfl
      exact good_of (v := .pointer (some ⟨b, 130, none⟩)) rfl (by simp only [execOp, e1]; rfl) hC trivial rfl
    refine steps_cons (step_go rfl fun ev w1 hC kn => ?_) ?_
    · have e1 : ev (.tmp 14) = .pointer (some ⟨b, 130, none⟩) := kn.inn 14 rfl rfl
      exact good_of (v := .pointer (some ⟨b, 130, none⟩)) rfl (by simp [execOp, e1, kn.con, go_sem]) hC trivial rfl
    refine steps_cons (step_go rfl fun ev w1 hC kn => ?_) ?_
    · have e1 : ev (.tmp 15) = .pointer (some ⟨b, 130, none⟩) := kn.inn 15 rfl rfl
      obtain ⟨nn, rfl⟩ := hC
      exact good_of (v := .float .f32 (g.hea 0)) rfl (by simp [execOp, e1, go_sem, m2]) ⟨nn, rfl⟩ trivial rfl
    refine steps_cons (step_go rfl fun ev w1 hC kn => ?_) ?_
    · have e1 : ev (.tmp 11) = .float .f32 (g'.hea 0) := kn.inn 11 rfl rfl
      have e2 : ev (.tmp 16) = .float .f32 (g.hea 0) := kn.inn 16 rfl rfl
      obtain ⟨nn, rfl⟩ := hC
      exact good_of (v := .float .f32 (fres .sub (g'.hea 0) (g.hea 0) (w.drewN nn))) (w' := w.drewN (nn + fcnt .sub (g'.hea 0) (g.hea 0))) rfl (by simp [execOp, e1, e2, kn.con, run_fsub, go_sem]) ⟨_, rfl⟩ trivial ⟨_, rfl, by rw [cn_res, fop_eq rfl rfl, cn_fop]⟩
    refine steps_cons (step_go rfl fun ev w1 hC kn => ?_) ?_
    · obtain ⟨b1, e1, h1⟩ : ∃ fb, ev (.tmp 17) = .float .f32 fb ∧ cn fb = cn (fop .sub (g'.hea 0) (g.hea 0)) := kn.inn 17 rfl rfl
      refine good_call (f := 201) (args := #[.float .f32 b1]) rfl (by simp [execOp, e1, kn.fn, kn.con, go_sem]) ((hs0 b1 h1 w1).mono fun e w2 ⟨r, he, hr, hw⟩ => ⟨_, he, by rw [hw]; exact hC, trivial, r, rfl, hr⟩)
    refine steps_cons (step_go rfl fun ev w1 hC kn => ?_) ?_
    · obtain ⟨b1, e1, h1⟩ : ∃ fb, ev (.tmp 18) = .float .f32 fb ∧ Ieee.single.read fb = Ieee.single.read (dsz g g' 0) := kn.inn 18 rfl rfl
      exact good_of (v := .float .f32 b1) rfl (by simp [execOp, e1, kn.con, go_sem]) hC trivial ⟨_, rfl, h1⟩
    exact steps_nil
  rintro xv w1 hxv hC
  obtain ⟨b5, y5, g5⟩ : ∃ fb, xv 5 = .float .f32 fb ∧ Ieee.single.read fb = Ieee.single.read (dsz g g' 0) := hxv 5 (by decide)
  obtain ⟨n, rfl⟩ := hC
  simp only [fill, dstsOf, List.filterMap_cons, List.filterMap_nil, List.foldl_cons, List.foldl_nil, List.set_cons_succ, List.set_cons_zero, y5]
  clear hxv y5
  clear m1 m2 hs0
  have H5 := Lib.hid g5
  clear g5
  go_wp2_with fail
  go_loopw [5, 6] (fun m i wr => ∃ (j x q : Nat), 1 ≤ j ∧ j ≤ 64 ∧ i = .int .i64 j ∧ m = .float .f32 x ∧ Hid (Ieee.single.read x = Ieee.single.read (mx (dsz g g') (cellsTo g j))) ∧ wr = w.drewN q) (fun _ i _ => 64 - (intOf i).toNat)
  case atStart => exact ⟨1, b5, _, by omega, by omega, rfl, rfl, Lib.hid (by rw [H5.out]; have : cellsTo g 1 = [0] := by rw [show (1 : Nat) = 0 + 1 from rfl, cellsTo_succ, HZ.out]; rfl
                                                                             rw [this]; rfl), rfl⟩
  case round =>
    obtain ⟨k, x, q, hk1, hk, rfl, rfl, hx, rfl⟩ := hrel
    have bk : (0 : Int) ≤ k := by omega
    by_cases hlt : k < 64
    · have bl : (k : Int) < 64 := by omega
      have his := l01Is_any g b k hg hlt (w.drewN q) (hb.drewN q)
      have HT : Hid (cellsTo g (k + 1) = if isC g k then cellsTo g k ++ [k] else cellsTo g k) := Lib.hid (cellsTo_succ g k)
      cases hc : isC g k <;> rw [hc] at his
      · have HC := Lib.hid hc
        clear hc
        go_wp2_with (go_at_call 79; refine his.mono ?_; rintro e w' ⟨rfl, hw⟩; rw [hw]; clear hw w')
        go_roundw
        case rel => exact ⟨k + 1, x, q, by omega, by omega, by go_num, rfl, Lib.hid (by rw [HT.out, HC.out]; exact hx.out), rfl⟩
        case measure => simp [intOf]; omega
      · have hsk := HS'.out k hlt hc
        have HC := Lib.hid hc
        clear hc
        have hb2 := hb.drewN q
        have hb2' := hb'.drewN q
        go_upto_region 6 with (go_at_call 79; refine his.mono ?_; rintro e w' ⟨rfl, hw⟩; rw [hw]; clear hw w')
        obtain ⟨W, hW⟩ : ∃ W, W = w.drewN q := ⟨_, rfl⟩
        rw [← hW] at hb2 hb2' ⊢
        have HW := Lib.hid hW
        clear hW
        have m1 : W.cell? ⟨b', 130 + k, none⟩ = some (.float .f32 (g'.hea k)) := hb2'.getH k hlt
        have m2 : W.cell? ⟨b, 130 + k, none⟩ = some (.float .f32 (g.hea k)) := hb2.getH k hlt
        refine wp_splitK 16 (C := fun w' => ∃ n, w' = W.drewN n) (R := fun _ _ => True) (F := fun _ dd vv => match dd, vv with
          | 26, vv => vv = .float .f32 x
          | 27, vv => vv = .pointer (some ⟨b', 0, none⟩)
          | 28, vv => vv = .int .i64 k
          | 29, vv => vv = .pointer (some ⟨b', 0, none⟩)
          | 30, vv => vv = .pointer (some ⟨b', 130, none⟩)
          | 31, vv => vv = .pointer (some ⟨b', 130 + k, none⟩)
          | 32, vv => vv = .float .f32 (g'.hea k)
          | 33, vv => vv = .pointer (some ⟨b, 0, none⟩)
          | 34, vv => vv = .int .i64 k
          | 35, vv => vv = .pointer (some ⟨b, 0, none⟩)
          | 36, vv => vv = .pointer (some ⟨b, 130, none⟩)
          | 37, vv => vv = .pointer (some ⟨b, 130 + k, none⟩)
          | 38, vv => vv = .float .f32 (g.hea k)
          | 39, vv => ∃ fb, vv = .float .f32 fb ∧ cn fb = cn (fop .sub (g'.hea k) (g.hea k))
          | 40, vv => ∃ fb, vv = .float .f32 fb ∧ Ieee.single.read fb = Ieee.single.read (dsz g g' k)
          | 41, vv => ∃ fb, vv = .float .f32 fb ∧ Ieee.single.read fb = Ieee.single.read (if fgt (dsz g g' k) x then dsz g g' k else x)
          | _, _ => True) (fun _ _ _ _ _ h => h) (by kernel_rfl) (by kernel_rfl) (by kernel_rfl) ⟨1, rfl⟩ ?_ ?_
        · refine ⟨step_go rfl fun ev w1 hC kn => ?_, ?_⟩
          · have e1 : ev (.tmp 5) = .float .f32 x := kn.out 5 rfl rfl rfl
            exact good_of (v := .float .f32 x) rfl (by simp [execOp, e1, kn.con, go_sem]) hC trivial rfl
          refine ⟨step_go rfl fun ev w1 hC kn => ?_, ?_⟩
          · have e1 : ev (.tmp 1) = .pointer (some ⟨b', 0, none⟩) := kn.out 1 rfl rfl rfl
            exact good_of (v := .pointer (some ⟨b', 0, none⟩)) rfl (by simp [execOp, e1, kn.con, go_sem]) hC trivial rfl
          refine ⟨step_go rfl fun ev w1 hC kn => ?_, ?_⟩
          · have e1 : ev (.tmp 6) = .int .i64 k := kn.out 6 rfl rfl rfl
            exact good_of (v := .int .i64 k) rfl (by simp [execOp, e1, kn.con, go_sem]) hC trivial rfl
          refine ⟨step_go rfl fun ev w1 hC kn => ?_, ?_⟩
          · have e1 : ev (.tmp 27) = .pointer (some ⟨b', 0, none⟩) := kn.inn 27 rfl rfl
            exact good_of (v := .pointer (some ⟨b', 0, none⟩)) rfl (by simp [execOp, e1, kn.con, go_sem]) hC trivial rfl
          refine ⟨step_go rfl fun ev w1 hC kn => ?_, ?_⟩
          · have e1 : ev (.tmp 29) = .pointer (some ⟨b', 0, none⟩) := kn.inn 29 rfl rfl
            exact good_of (v := .pointer (some ⟨b', 130, none⟩)) rfl (by simp only [execOp, e1]; rfl) hC trivial rfl
          refine ⟨step_go rfl fun ev w1 hC kn => ?_, ?_⟩
          · have e1 : ev (.tmp 30) = .pointer (some ⟨b', 130, none⟩) := kn.inn 30 rfl rfl
            have e2 : ev (.tmp 28) = .int .i64 k := kn.inn 28 rfl rfl
            exact good_of (v := .pointer (some ⟨b', 130 + k, none⟩)) rfl (by simp [execOp, e1, e2, kn.con, go_sem, bl]) hC trivial rfl
          refine ⟨step_go rfl fun ev w1 hC kn => ?_, ?_⟩
          · have e1 : ev (.tmp 31) = .pointer (some ⟨b', 130 + k, none⟩) := kn.inn 31 rfl rfl
            obtain ⟨nn, rfl⟩ := hC
            exact good_of (v := .float .f32 (g'.hea k)) rfl (by simp [execOp, e1, go_sem, m1]) ⟨nn, rfl⟩ trivial rfl
          refine ⟨step_go rfl fun ev w1 hC kn => ?_, ?_⟩
          · have e1 : ev (.tmp 0) = .pointer (some ⟨b, 0, none⟩) := kn.out 0 rfl rfl rfl
            exact good_of (v := .pointer (some ⟨b, 0, none⟩)) rfl (by simp [execOp, e1, kn.con, go_sem]) hC trivial rfl
          refine ⟨step_go rfl fun ev w1 hC kn => ?_, ?_⟩
          · have e1 : ev (.tmp 6) = .int .i64 k := kn.out 6 rfl rfl rfl
            exact good_of (v := .int .i64 k) rfl (by simp [execOp, e1, kn.con, go_sem]) hC trivial rfl
          refine ⟨step_go rfl fun ev w1 hC kn => ?_, ?_⟩
          · have e1 : ev (.tmp 33) = .pointer (some ⟨b, 0, none⟩) := kn.inn 33 rfl rfl
            exact good_of (v := .pointer (some ⟨b, 0, none⟩)) rfl (by simp [execOp, e1, kn.con, go_sem]) hC trivial rfl
          refine ⟨step_go rfl fun ev w1 hC kn => ?_, ?_⟩
          · have e1 : ev (.tmp 35) = .pointer (some ⟨b, 0, none⟩) := kn.inn 35 rfl rfl
            exact good_of (v := .pointer (some ⟨b, 130, none⟩)) rfl (by simp only [execOp, e1]; rfl) hC trivial rfl
          refine ⟨step_go rfl fun ev w1 hC kn => ?_, ?_⟩
          · have e1 : ev (.tmp 36) = .pointer (some ⟨b, 130, none⟩) := kn.inn 36 rfl rfl
            have e2 : ev (.tmp 34) = .int .i64 k := kn.inn 34 rfl rfl
            exact good_of (v := .pointer (some ⟨b, 130 + k, none⟩)) rfl (by simp [execOp, e1, e2, kn.con, go_sem, bl]) hC trivial rfl
          refine ⟨step_go rfl fun ev w1 hC kn => ?_, ?_⟩
          · have e1 : ev (.tmp 37) = .pointer (some ⟨b, 130 + k, none⟩) := kn.inn 37 rfl rfl
            obtain ⟨nn, rfl⟩ := hC
            exact good_of (v := .float .f32 (g.hea k)) rfl (by simp [execOp, e1, go_sem, m2]) ⟨nn, rfl⟩ trivial rfl
          refine ⟨step_go rfl fun ev w1 hC kn => ?_, ?_⟩
          · have e1 : ev (.tmp 32) = .float .f32 (g'.hea k) := kn.inn 32 rfl rfl
            have e2 : ev (.tmp 38) = .float .f32 (g.hea k) := kn.inn 38 rfl rfl
            obtain ⟨nn, rfl⟩ := hC
            exact good_of (v := .float .f32 (fres .sub (g'.hea k) (g.hea k) (W.drewN nn))) (w' := W.drewN (nn + fcnt .sub (g'.hea k) (g.hea k))) rfl (by simp [execOp, e1, e2, kn.con, run_fsub, go_sem]) ⟨_, rfl⟩ trivial ⟨_, rfl, by rw [cn_res, fop_eq rfl rfl, cn_fop]⟩
          refine ⟨step_go rfl fun ev w1 hC kn => ?_, ?_⟩
          · obtain ⟨b1, e1, h1⟩ : ∃ fb, ev (.tmp 39) = .float .f32 fb ∧ cn fb = cn (fop .sub (g'.hea k) (g.hea k)) := kn.inn 39 rfl rfl
            refine good_call (f := 201) (args := #[.float .f32 b1]) rfl (by simp [execOp, e1, kn.fn, kn.con, go_sem]) ((hsk b1 h1 w1).mono fun e w2 ⟨r, he, hr, hw⟩ => ⟨_, he, by rw [hw]; exact hC, trivial, r, rfl, hr⟩)
          refine ⟨step_go rfl fun ev w1 hC kn => ?_, ?_⟩
          · have e1 : ev (.tmp 26) = .float .f32 x := kn.inn 26 rfl rfl
            obtain ⟨b2, e2, h2⟩ : ∃ fb, ev (.tmp 40) = .float .f32 fb ∧ Ieee.single.read fb = Ieee.single.read (dsz g g' k) := kn.inn 40 rfl rfl
            refine good_call (f := 202) (args := #[.float .f32 x, .float .f32 b2]) rfl (by simp [execOp, e1, e2, kn.fn, kn.con, go_sem]) ((l02Greater_rd x b2 _ _ rfl h2 w1).mono fun e w2 ⟨r, he, hr, hw⟩ => ⟨_, he, by rw [hw]; exact hC, trivial, r, rfl, hr⟩)
          exact trivial
        rintro xv w1 hxv hC
        obtain ⟨b41, y41, g41⟩ : ∃ fb, xv 41 = .float .f32 fb ∧ Ieee.single.read fb = Ieee.single.read (if fgt (dsz g g' k) x then dsz g g' k else x) := hxv 41 (by decide)
        obtain ⟨n, rfl⟩ := hC
        simp only [fill, dstsOf, List.filterMap_cons, List.filterMap_nil, List.foldl_cons, List.foldl_nil, List.set_cons_succ, List.set_cons_zero, List.take_succ_cons, List.take_zero, List.drop_succ_cons, List.drop_zero, y41]
        clear hxv y41
        have HG := Lib.hid g41
        clear g41
        go_wp2_with fail
        go_roundw
        case rel =>
          refine ⟨k + 1, b41, _, by omega, by omega, by go_num, rfl, Lib.hid ?_, by rw [HW.out]; exact World.drewN_drewN _ _ _⟩
          rw [HT.out, HC.out, if_pos rfl, mx_snoc _ _ _ (cells_ne HV.out k (by omega)), HG.out]
          unfold mxStep
          rw [fgt_rd (a := dsz g g' k) rfl hx.out]
          split
          · rfl
          · exact hx.out
        case measure => simp [intOf]; omega
    · obtain rfl : k = 64 := by omega
      go_wp2_with fail
      go_ret
      exact ⟨x, rfl, hx.out, q, rfl⟩
end Go.Proofs.YtdnnjahdcabdmaaGreatDoor
