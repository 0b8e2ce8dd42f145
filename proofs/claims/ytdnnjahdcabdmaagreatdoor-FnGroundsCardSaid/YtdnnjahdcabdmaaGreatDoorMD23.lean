import Derived.Test.YtdnnjahdcabdmaaGreatDoorMD21
import Derived.Test.YtdnnjahdcabdmaaGreatDoorMD22
/- The ground with permits: the walks through the program's function and the reference's. -/
namespace Go.Proofs.YtdnnjahdcabdmaaGreatDoor
open Go.ChangeShapes Go.WideShapes Go.ChangeAt Go.RowKit
set_option linter.unusedVariables false
set_option linter.unusedSimpArgs false
attribute [local irreducible] Calls

theorem Gr.setG (g : Gr) (k b : Nat) (hk : k < 64) : g.cells.setIfInBounds (66 + k) (.float .f32 b) = ({ g with gai := upd g.gai k b } : Gr).cells := by
  refine Gr.cells_of _ (by simp [g.size]) fun i hi => ?_
  rw [Array.getElem?_setIfInBounds]
  by_cases h : 66 + k = i
  · rw [if_pos h, if_pos (by rw [g.size]; omega)]
    subst h
    unfold Gr.at upd
    simp only [show ¬ (66 + k = 0) by omega, show ¬ (66 + k = 1) by omega, show ¬ (66 + k < 66) by omega, show 66 + k < 130 by omega, if_true, if_false, show 66 + k - 66 = k by omega]
  · rw [if_neg h, g.get i hi]
    congr 1
    unfold Gr.at upd
    by_cases i0 : i = 0
    · simp only [i0, if_true]
    · by_cases i1 : i = 1
      · simp only [i1]; rfl
      · by_cases i2 : i < 66
        · simp only [i0, i1, i2, if_true, if_false]
        · by_cases i3 : i < 130
          · simp only [i0, i1, i2, i3, if_true, if_false, show ¬ (i - 66 = k) by omega]
          · simp only [i0, i1, i2, i3, if_false]
def rate4 (r : Int) : Nat := fop .quo (floatOfInt .f32 r) 1082130432
/-- The gain of a cell with a permit. -/
def lessX (G : Gr) (c : Nat) (r : Int) : Nat := fop .sub (G.gai c) (rate4 r)
def lessG (G : Gr) (p : Pm) : Gr := { G with gai := upd G.gai p.cel.toNat (lessX G p.cel.toNat p.rat) }
theorem isN_fieldG {G : Gr} {f : Nat → Nat} {c x : Nat} (h : fieldIs plain G f = true) (hc : isC G c = true) (hk : c < 64) : fieldIs plain G (upd f c x) = plain x := by
  cases hp : plain x
  · cases hf : fieldIs plain G (upd f c x)
    · rfl
    · have := (fieldIs_at hf c hk).1 hc
      unfold upd at this
      rw [if_pos rfl, hp] at this
      cases this
  · unfold fieldIs
    rw [anyTo_false.2]
    · rfl
    intro i hi
    have hh := fieldIs_at h i hi
    unfold badAt upd
    by_cases hic : i = c
    · subst hic; simp [hc, hp]
    · simp only [hic, if_false]
      cases hci : isC G i
      · simp [hh.2 hci]
      · simp [hh.1 hci]
theorem validG_less {G : Gr} {c x : Nat} (h : validG G = true) (hc : isC G c = true) (hk : c < 64) : validG { G with gai := upd G.gai c x } = plain x := by
  obtain ⟨h1, h2, h3, h4, h5, h6⟩ := validG_parts h
  have e3 : fieldIs amount { G with gai := upd G.gai c x } G.con = true := h3
  have e4 : fieldIs plain { G with gai := upd G.gai c x } (upd G.gai c x) = plain x := isN_fieldG h4 hc hk
  have e5 : fieldIs plain { G with gai := upd G.gai c x } G.hea = true := h5
  have e6 : fixOk { G with gai := upd G.gai c x } = true := h6
  unfold validG
  rw [e3, e4, e5, e6]
  simp only [h1.1, h1.2, h2.1, h2.2, decide_true, Bool.and_self, Bool.true_and, Bool.and_true]
/-- What comes of a ground with permits, l permits being left. -/
def withT (Q : Nat → Pm) : Nat → Nat → Gr → Gr × Int
  | 0, _, G => ((settT 981467136 1000 0 G).1, (settT 981467136 1000 0 G).2.2)
  | l + 1, i, G => if validG (lessG G (Q i)) then withT Q l (i + 1) (lessG G (Q i)) else (zeroG, 4)
theorem withT_bad {Q : Nat → Pm} {l i : Nat} {G : Gr} (h : validG (lessG G (Q i)) = false) : withT Q (l + 1) i G = (zeroG, 4) := by simp [withT, h]
theorem withT_on {Q : Nat → Pm} {l i : Nat} {G : Gr} (h : validG (lessG G (Q i)) = true) : withT Q (l + 1) i G = withT Q l (i + 1) (lessG G (Q i)) := by simp [withT, h]
/-- The cells of permits are cells of the ground. -/
def cellsIn (g : Gr) (m : Nat) (Q : Nat → Pm) : Prop := ∀ i, i < m → isCI g (Q i).cel = true
theorem isCI_parts {g : Gr} {k : Int} (h : isCI g k = true) : ∃ c : Nat, k = c ∧ c < 64 ∧ isC g c = true := by
  unfold isCI at h
  simp only [Bool.and_eq_true, decide_eq_true_eq] at h
  exact ⟨k.toNat, by omega, by omega, h.2⟩

set_option maxRecDepth 100000 in
set_option maxHeartbeats 400000 in
theorem with_any (g : Gr) (b : Nat) (u : Value) (m : Nat) (Q : Nat → Pm) (hg : g.ok) (hv : validG g = true) (hQ : cellsIn g m Q) (w : World) (hb : GAt w b g) (hu : PSl w u m Q) :
    Calls Tryz.prog 52 #[.pointer (some ⟨b, 0, none⟩), u] w fun e w' => e = .returned (.tuple #[.agg (withT Q m 0 g).1.cells, .int .i64 (withT Q m 0 g).2]) ∧ Below w.heap.size w w' := by
  obtain ⟨a, c', rfl, hc1, hc2, hcell⟩ := hu
  unfold maxLen at hc2
  have HC := Lib.hid hcell
  clear hcell
  obtain ⟨T, hT⟩ : ∃ T, T = withT Q m 0 g := ⟨_, rfl⟩
  obtain ⟨R, hR⟩ : ∃ R, R = T.1.cells := ⟨_, rfl⟩
  obtain ⟨V, hV⟩ : ∃ V, V = T.2 := ⟨_, rfl⟩
  rw [← hT, ← hR, ← hV]
  have FIN : Hid (∀ X : Gr × Int, withT Q m 0 g = X → R = X.1.cells ∧ V = X.2) := Lib.hid fun X h => by rw [hR, hV, hT, h]; exact ⟨rfl, rfl⟩
  have HQ := Lib.hid hQ
  clear hT hR hV hQ
  have cv := fun (n : Int) (w : World) => run_convert_int_float (P := Tryz.prog) w 57 25 .i16 .f32 n (by kernel_rfl) Tryz.underlying25
  have lb := hb.lt
  go_enter Tryz.func52, Tryz.ntmps52
  go_upto_region 1 with (refine wpList_alloc_as rfl rfl zero66z ?_)
  have hS := Blk.new w zeroG.cells 30
  have hb := hb.alloc (.cells zeroG.cells 30)
  have hbel := below1 w (.cells zeroG.cells 30)
  generalize w.alloc (.cells zeroG.cells 30) = W at *
  have lS := hS.lt
  go_upto_region 2 with (first | (refine wpList_load_gat rfl rfl rfl row66 hb ?_) | (refine wpList_alloc_as rfl rfl zero66z ?_) | (refine wpList_store_last rfl rfl rfl rfl rfl (by rw [g.size]; kernel_rfl) (by rw [g.size, zeroG.size]) (List.all_eq_true.2 g.one) ?_))
  have hO := Blk.new W g.cells 30
  have hS := hS.alloc (.cells g.cells 30)
  have hbel := hbel.alloc hbel.size (.cells g.cells 30)
  generalize W.alloc (.cells g.cells 30) = W2 at *
  generalize W.heap.size = r at *
  clear hb
  go_upto_region 3 with fail
  go_loopw [18] (fun i wr => ∃ (j : Nat) (G : Gr), j ≤ m ∧ i = .int .i64 j ∧ Hid (withT Q m 0 g = withT Q (m - j) j G) ∧ G.ok ∧ validG G = true ∧ Hid (∀ k, isC G k = isC g k) ∧ Blk wr w.heap.size zeroG.cells 30 ∧ Blk wr r G.cells 30 ∧ Below w.heap.size w wr) (fun i _ => m - (intOf i).toNat)
  case atStart => exact ⟨0, g, by omega, rfl, Lib.hid rfl, hg, hv, Lib.hid fun _ => rfl, hS, hO, hbel⟩
  case round =>
    clear hS hO hbel hg hv
    obtain ⟨j, G, hj, rfl, hun, hg, hv, hcc, hS, hO, hbel⟩ := hrel
    by_cases hlt : j < m
    · obtain ⟨b', o, rfl, hb', hcell⟩ := HC.out.resolve_left (by omega)
      obtain ⟨c, hc, hc64, hcis⟩ := isCI_parts (HQ.out j hlt)
      rw [← hcc.out c] at hcis
      have e0 : wr.cell? ⟨b', o + j * 3, none⟩ = some (.int .i8 (Q j).own) := (hbel.cell (p := ⟨b', _, none⟩) hb').trans ((hcell j 0 hlt (by omega)).trans (Q j).get0)
      have e1 : wr.cell? ⟨b', o + j * 3 + 1, none⟩ = some (.int .i8 c) := (hbel.cell (p := ⟨b', _, none⟩) hb').trans ((hcell j 1 hlt (by omega)).trans ((Q j).get1.trans (by rw [hc])))
      have e2 : wr.cell? ⟨b', o + j * 3 + 2, none⟩ = some (.int .i16 (Q j).rat) := (hbel.cell (p := ⟨b', _, none⟩) hb').trans ((hcell j 2 hlt (by omega)).trans (Q j).get2)
      clear hcell
      have hmk : m - j = (m - (j + 1)) + 1 := by omega
      have hL : lessG G (Q j) = { G with gai := upd G.gai c (lessX G c (Q j).rat) } := by unfold lessG; rw [hc]; rfl
      have hVL := validG_less (x := lessX G c (Q j).rat) hv hcis hc64
      rw [← hL] at hVL
      have HUN : Hid (plain (lessX G c (Q j).rat) = true → withT Q m 0 g = withT Q (m - (j + 1)) (j + 1) (lessG G (Q j))) := Lib.hid fun h => by
        rw [hun.out, hmk, withT_on (hVL.trans h)]
      have HBAD : Hid (plain (lessX G c (Q j).rat) = false → R = zeroG.cells ∧ V = 4) := Lib.hid fun h => FIN.out (zeroG, 4) (by
        rw [hun.out, hmk, withT_bad (hVL.trans h)])
      have HL := Lib.hid (And.intro hL hVL)
      have HIS := Lib.hid hcis
      clear hL hVL hun hc hcis
      have bj : (0 : Int) ≤ j := by omega
      have bk : (0 : Int) ≤ c := by omega
      have bl : (c : Int) < 64 := by omega
      go_upto_region 5 with fail
      generalize (Q j).rat = rr at *
      generalize (Q j).own = ow at *
      have hX := Blk.new wr #[.int .i8 ow, .int .i8 c, .int .i16 rr] 59
      have hS := hS.alloc (.cells #[.int .i8 ow, .int .i8 c, .int .i16 rr] 59)
      have hbel := hbel.alloc hbel.size (.cells #[.int .i8 ow, .int .i8 c, .int .i16 rr] 59)
      have rq : r < wr.heap.size := hO.lt
      have hO := hO.alloc (.cells #[.int .i8 ow, .int .i8 c, .int .i16 rr] 59)
      generalize wr.alloc (.cells #[.int .i8 ow, .int .i8 c, .int .i16 rr] 59) = W3 at *
      generalize wr.heap.size = q at *
      clear e0 e1 e2
      have x1 : W3.cell? ⟨q, 1, none⟩ = some (.int .i8 c) := hX.cell 1
      have x2 : W3.cell? ⟨q, 2, none⟩ = some (.int .i16 rr) := hX.cell 2
      have c1 : W3.cell? ⟨r, 66 + c, none⟩ = some (.float .f32 (G.gai c)) := hO.gat.getG c hc64
      have f1 := hO.free (66 + c)
      refine wp_tailL rfl (C := fun w' => ∃ n, w' = W3.drewN n) (R := fun _ _ => True) (F := fun _ dd vv => match dd, vv with
        | 22, vv => vv = .pointer (some ⟨q, 1, none⟩)
        | 23, vv => vv = .int .i8 c
        | 24, vv => vv = .pointer (some ⟨r, 66, none⟩)
        | 25, vv => vv = .pointer (some ⟨r, 66 + c, none⟩)
        | 26, vv => vv = .float .f32 (G.gai c)
        | 27, vv => vv = .pointer (some ⟨q, 2, none⟩)
        | 28, vv => vv = .int .i16 rr
        | 29, vv => vv = .float .f32 (floatOfInt .f32 rr)
        | 30, vv => ∃ fb, vv = .float .f32 fb ∧ cn fb = cn (fop .quo (floatOfInt .f32 rr) 1082130432)
        | 31, vv => ∃ fb, vv = .float .f32 fb ∧ cn fb = cn (fop .sub (G.gai c) (fop .quo (floatOfInt .f32 rr) 1082130432))
        | 32, vv => vv = .pointer (some ⟨r, 66, none⟩)
        | 33, vv => vv = .pointer (some ⟨r, 66 + c, none⟩)
        | _, _ => True) (fun _ _ _ _ _ h => h) (by kernel_rfl) (by kernel_rfl) rfl rfl (by kernel_rfl) ⟨1, rfl⟩ ?_ ?_
      · refine ⟨step_go rfl fun ev w1 hC kn => ?_, ?_⟩
        · have e1 : ev (.tmp 8) = .pointer (some ⟨q, 0, none⟩) := kn.out 8 rfl rfl rfl
          exact good_of (v := .pointer (some ⟨q, 1, none⟩)) rfl (by simp only [execOp, e1]; rfl) hC trivial rfl
        refine ⟨step_go rfl fun ev w1 hC kn => ?_, ?_⟩
        · have e1 : ev (.tmp 22) = .pointer (some ⟨q, 1, none⟩) := kn.inn 22 rfl rfl
          obtain ⟨nn, rfl⟩ := hC
          exact good_of (v := .int .i8 c) rfl (by simp [execOp, e1, go_sem, x1]) ⟨nn, rfl⟩ trivial rfl
        refine ⟨step_go rfl fun ev w1 hC kn => ?_, ?_⟩
        · have e1 : ev (.tmp 6) = .pointer (some ⟨r, 0, none⟩) := kn.out 6 rfl rfl rfl
          exact good_of (v := .pointer (some ⟨r, 66, none⟩)) rfl (by simp only [execOp, e1]; rfl) hC trivial rfl
        refine ⟨step_go rfl fun ev w1 hC kn => ?_, ?_⟩
        · have e1 : ev (.tmp 24) = .pointer (some ⟨r, 66, none⟩) := kn.inn 24 rfl rfl
          have e2 : ev (.tmp 23) = .int .i8 c := kn.inn 23 rfl rfl
          exact good_of (v := .pointer (some ⟨r, 66 + c, none⟩)) rfl (by simp [execOp, e1, e2, kn.con, go_sem, bl, bk]) hC trivial rfl
        refine ⟨step_go rfl fun ev w1 hC kn => ?_, ?_⟩
        · have e1 : ev (.tmp 25) = .pointer (some ⟨r, 66 + c, none⟩) := kn.inn 25 rfl rfl
          obtain ⟨nn, rfl⟩ := hC
          exact good_of (v := .float .f32 (G.gai c)) rfl (by simp [execOp, e1, go_sem, c1]) ⟨nn, rfl⟩ trivial rfl
        refine ⟨step_go rfl fun ev w1 hC kn => ?_, ?_⟩
        · have e1 : ev (.tmp 8) = .pointer (some ⟨q, 0, none⟩) := kn.out 8 rfl rfl rfl
          exact good_of (v := .pointer (some ⟨q, 2, none⟩)) rfl (by simp only [execOp, e1]; rfl) hC trivial rfl
        refine ⟨step_go rfl fun ev w1 hC kn => ?_, ?_⟩
        · have e1 : ev (.tmp 27) = .pointer (some ⟨q, 2, none⟩) := kn.inn 27 rfl rfl
          obtain ⟨nn, rfl⟩ := hC
          exact good_of (v := .int .i16 rr) rfl (by simp [execOp, e1, go_sem, x2]) ⟨nn, rfl⟩ trivial rfl
        refine ⟨step_go rfl fun ev w1 hC kn => ?_, ?_⟩
        · have e1 : ev (.tmp 28) = .int .i16 rr := kn.inn 28 rfl rfl
          exact good_of (v := .float .f32 (floatOfInt .f32 rr)) rfl (by simp [execOp, e1, go_sem, cv]) hC trivial rfl
        refine ⟨step_go rfl fun ev w1 hC kn => ?_, ?_⟩
        · have e1 : ev (.tmp 29) = .float .f32 (floatOfInt .f32 rr) := kn.inn 29 rfl rfl
          obtain ⟨nn, rfl⟩ := hC
          exact good_of (v := .float .f32 (fres .quo (floatOfInt .f32 rr) 1082130432 (W3.drewN nn))) (w' := W3.drewN (nn + fcnt .quo (floatOfInt .f32 rr) 1082130432)) rfl (by simp [execOp, e1, kn.con, run_fquo, go_sem]) ⟨_, rfl⟩ trivial ⟨_, rfl, by rw [cn_res, fop_eq rfl rfl, cn_fop]⟩
        refine ⟨step_go rfl fun ev w1 hC kn => ?_, ?_⟩
        · have e1 : ev (.tmp 26) = .float .f32 (G.gai c) := kn.inn 26 rfl rfl
          obtain ⟨b2, e2, h2⟩ : ∃ fb, ev (.tmp 30) = .float .f32 fb ∧ cn fb = cn (fop .quo (floatOfInt .f32 rr) 1082130432) := kn.inn 30 rfl rfl
          obtain ⟨nn, rfl⟩ := hC
          exact good_of (v := .float .f32 (fres .sub (G.gai c) b2 (W3.drewN nn))) (w' := W3.drewN (nn + fcnt .sub (G.gai c) b2)) rfl (by simp [execOp, e1, e2, kn.con, run_fsub, go_sem]) ⟨_, rfl⟩ trivial ⟨_, rfl, by rw [cn_res, fop_eq rfl h2, cn_fop]⟩
        refine ⟨step_go rfl fun ev w1 hC kn => ?_, ?_⟩
        · have e1 : ev (.tmp 6) = .pointer (some ⟨r, 0, none⟩) := kn.out 6 rfl rfl rfl
          exact good_of (v := .pointer (some ⟨r, 66, none⟩)) rfl (by simp only [execOp, e1]; rfl) hC trivial rfl
        refine ⟨step_go rfl fun ev w1 hC kn => ?_, ?_⟩
        · have e1 : ev (.tmp 32) = .pointer (some ⟨r, 66, none⟩) := kn.inn 32 rfl rfl
          have e2 : ev (.tmp 23) = .int .i8 c := kn.inn 23 rfl rfl
          exact good_of (v := .pointer (some ⟨r, 66 + c, none⟩)) rfl (by simp [execOp, e1, e2, kn.con, go_sem, bl, bk]) hC trivial rfl
        exact trivial
      rintro xv w1 hxv hC
      obtain ⟨b31, y31, g31⟩ : ∃ fb, xv 31 = .float .f32 fb ∧ cn fb = cn (fop .sub (G.gai c) (fop .quo (floatOfInt .f32 rr) 1082130432)) := hxv 31 (by decide)
      have y33 : xv 33 = .pointer (some ⟨r, 66 + c, none⟩) := hxv 33 (by decide)
      obtain ⟨n, rfl⟩ := hC
      simp only [fill, dstsOf, List.filterMap_cons, List.filterMap_nil, List.foldl_cons, List.foldl_nil, List.set_cons_succ, List.set_cons_zero, y31, y33]
      clear hxv y31 y33
      refine ⟨(W3.drewN n).setCell ⟨r, 66 + c, none⟩ (.float .f32 b31), by simp [execOp, Act.eval, go_sem, c1, f1], ?_⟩
      have hG31 : cn b31 = cn (lessX G c rr) := g31
      have hO4 : Blk ((W3.drewN n).setCell ⟨r, 66 + c, none⟩ (.float .f32 b31)) r ({ G with gai := upd G.gai c b31 } : Gr).cells 30 := by
        have := (hO.drewN n).setCell (66 + c) (.float .f32 b31)
        rw [Gr.setG _ _ _ hc64] at this
        exact this
      have hX4 := (hX.drewN n).setOther (a := ⟨r, 66 + c, none⟩) (.float .f32 b31) (by show q ≠ r; omega)
      have hS4 := (hS.drewN n).setOther (a := ⟨r, 66 + c, none⟩) (.float .f32 b31) (by show w.heap.size ≠ r; omega)
      have hbel4 := (below_drewN hbel n).setCell (p := ⟨r, 66 + c, none⟩) (by show w.heap.size ≤ r; omega) (.float .f32 b31)
      generalize (W3.drewN n).setCell ⟨r, 66 + c, none⟩ (.float .f32 b31) = W4 at *
      have z1 : W4.cell? ⟨q, 1, none⟩ = some (.int .i8 c) := hX4.cell 1
      have z2 : W4.cell? ⟨r, 66 + c, none⟩ = some (.float .f32 b31) := (hO4.gat.getG c hc64).trans (by show some (Value.float FloatKind.f32 (upd G.gai c b31 c)) = _; unfold Go.Proofs.YtdnnjahdcabdmaaGreatDoor.upd; rw [if_pos rfl])
      have hpl := fun w' => isPlain_any b31 w'
      rw [plain_al hG31] at hpl
      clear hS hO hX hbel x1 x2 c1 f1 g31
      cases hp : plain (lessX G c rr)
      · rw [hp] at hpl
        have HF := Lib.hid (HBAD.out hp)
        go_wp2_with (first | (go_at_call 34; refine (hpl _).mono ?_; rintro e w' ⟨rfl, hw⟩; rw [hw]; clear hw w') | (refine wpList_zero rfl rfl built66 ?_) | (refine wpList_store_blk rfl rfl rfl rfl row66 hS4 zeroG.size zeroG.size zeroG.one ?_))
        refine bodyPost_row2 rfl rfl row66 (hS4.setRow _) zeroG.size rfl ⟨?_, below_setRow hbel4 (by omega) _⟩
        rw [HF.out.1, HF.out.2]; rfl
      · rw [hp] at hpl
        obtain rfl : b31 = lessX G c rr := al_eq hG31 (plain_num hp)
        go_wp2_with (go_at_call 34; refine (hpl _).mono ?_; rintro e w' ⟨rfl, hw⟩; rw [hw]; clear hw w')
        go_roundw
        case rel => exact ⟨j + 1, { G with gai := upd G.gai c (lessX G c rr) }, by omega, by go_num, Lib.hid (by rw [← HL.out.1]; exact HUN.out hp), ⟨hg.wide, hg.high, hg.fix⟩, by rw [← HL.out.1, HL.out.2]; exact hp, hcc, hS4, hO4, hbel4⟩
        case measure => (simp [intOf]; try omega)
    · obtain rfl : j = m := by omega
      have HF := Lib.hid (FIN.out ((settT 981467136 1000 0 G).1, (settT 981467136 1000 0 G).2.2) (by rw [hun.out, Nat.sub_self]; rfl))
      have hse : Calls Tryz.prog 108 #[.agg G.cells, .float .f32 981467136, .int .i64 1000] wr fun e w' => e = .returned (.tuple #[.agg (settT 981467136 1000 0 G).1.cells, .int .i64 (settT 981467136 1000 0 G).2.1, .int .i64 (settT 981467136 1000 0 G).2.2]) ∧ Below wr.heap.size wr w' := settle_any G 981467136 1000 hg hv (by omega) wr
      generalize settT 981467136 1000 0 G = T at *
      obtain ⟨T1, T2, T3⟩ := T
      have lS := hS.lt
      go_upto_region 10 with (first | (refine wpList_load_blk rfl rfl rfl row66 hO (Gr.size _) ?_) | (go_at_call 108; refine hse.mono ?_; rintro e w5 ⟨rfl, hb5⟩) | (refine wpList_alloc_as rfl rfl zero66z ?_) | (refine wpList_store_last rfl rfl rfl rfl rfl (by rw [Gr.size]; kernel_rfl) (by rw [Gr.size, Gr.size]) (List.all_eq_true.2 (Gr.one _)) ?_))
      have hN5 := Blk.new w5 T1.cells 30
      have hS5 := (hS.below hb5 lS).alloc (.cells T1.cells 30)
      have hbel5 := hbel.trans (hb5.mono hbel.size)
      have hbel5 := hbel5.alloc hbel5.size (.cells T1.cells 30)
      generalize w5.alloc (.cells T1.cells 30) = W5 at *
      generalize w5.heap.size = q5 at *
      go_wp2_with (first | (refine wpList_load_blk rfl rfl rfl row66 hN5 (Gr.size _) ?_) | (refine wpList_store_blk rfl rfl rfl rfl row66 hS5 zeroG.size (Gr.size _) (Gr.one _) ?_))
      refine bodyPost_row2 rfl rfl row66 (hS5.setRow _) (Gr.size _) rfl ⟨?_, below_setRow hbel5 (by omega) _⟩
      rw [HF.out.1, HF.out.2]; rfl

set_option maxRecDepth 100000 in
set_option maxHeartbeats 400000 in
theorem l07Ground_any (g : Gr) (b : Nat) (u : Value) (m : Nat) (Q : Nat → Pm) (hg : g.ok) (hv : validG g = true) (hQ : cellsIn g m Q) (w : World) (hb : GAt w b g) (hu : PSl w u m Q) :
    Calls Tryz.prog 54 #[.pointer (some ⟨b, 0, none⟩), u] w fun e w' => e = .returned (.tuple #[.agg (withT Q m 0 g).1.cells, .int .i64 (withT Q m 0 g).2]) ∧ Below w.heap.size w w' := by
  obtain ⟨a, c', rfl, hc1, hc2, hcell⟩ := hu
  unfold maxLen at hc2
  have HC := Lib.hid hcell
  clear hcell
  obtain ⟨T, hT⟩ : ∃ T, T = withT Q m 0 g := ⟨_, rfl⟩
  obtain ⟨R, hR⟩ : ∃ R, R = T.1.cells := ⟨_, rfl⟩
  obtain ⟨V, hV⟩ : ∃ V, V = T.2 := ⟨_, rfl⟩
  rw [← hT, ← hR, ← hV]
  have FIN : Hid (∀ X : Gr × Int, withT Q m 0 g = X → R = X.1.cells ∧ V = X.2) := Lib.hid fun X h => by rw [hR, hV, hT, h]; exact ⟨rfl, rfl⟩
  have HQ := Lib.hid hQ
  clear hT hR hV hQ
  have cv := fun (n : Int) (w : World) => run_convert_int_float (P := Tryz.prog) w 57 25 .i16 .f32 n (by kernel_rfl) Tryz.underlying25
  have lb := hb.lt
  go_enter Tryz.func54, Tryz.ntmps54
  go_upto_region 1 with (refine wpList_alloc_as rfl rfl zero66z ?_)
  have hS := Blk.new w zeroG.cells 30
  have hb := hb.alloc (.cells zeroG.cells 30)
  have hbel := below1 w (.cells zeroG.cells 30)
  generalize w.alloc (.cells zeroG.cells 30) = W at *
  have lS := hS.lt
  go_upto_region 2 with (first | (refine wpList_load_gat rfl rfl rfl row66 hb ?_) | (refine wpList_alloc_as rfl rfl zero66z ?_) | (refine wpList_store_last rfl rfl rfl rfl rfl (by rw [g.size]; kernel_rfl) (by rw [g.size, zeroG.size]) (List.all_eq_true.2 g.one) ?_))
  have hO := Blk.new W g.cells 30
  have hS := hS.alloc (.cells g.cells 30)
  have hbel := hbel.alloc hbel.size (.cells g.cells 30)
  generalize W.alloc (.cells g.cells 30) = W2 at *
  generalize W.heap.size = r at *
  clear hb
  go_upto_region 3 with fail
  go_loopw [7] (fun i wr => ∃ (j : Nat) (G : Gr), j ≤ m ∧ i = .int .i64 j ∧ Hid (withT Q m 0 g = withT Q (m - j) j G) ∧ G.ok ∧ validG G = true ∧ Hid (∀ k, isC G k = isC g k) ∧ Blk wr w.heap.size zeroG.cells 30 ∧ Blk wr r G.cells 30 ∧ Below w.heap.size w wr) (fun i _ => m - (intOf i).toNat)
  case atStart => exact ⟨0, g, by omega, rfl, Lib.hid rfl, hg, hv, Lib.hid fun _ => rfl, hS, hO, hbel⟩
  case round =>
    clear hS hO hbel hg hv
    obtain ⟨j, G, hj, rfl, hun, hg, hv, hcc, hS, hO, hbel⟩ := hrel
    by_cases hlt : j < m
    · obtain ⟨b', o, rfl, hb', hcell⟩ := HC.out.resolve_left (by omega)
      obtain ⟨c, hc, hc64, hcis⟩ := isCI_parts (HQ.out j hlt)
      rw [← hcc.out c] at hcis
      have e1 : wr.cell? ⟨b', o + j * 3 + 1, none⟩ = some (.int .i8 c) := (hbel.cell (p := ⟨b', _, none⟩) hb').trans ((hcell j 1 hlt (by omega)).trans ((Q j).get1.trans (by rw [hc])))
      have e2 : wr.cell? ⟨b', o + j * 3 + 2, none⟩ = some (.int .i16 (Q j).rat) := (hbel.cell (p := ⟨b', _, none⟩) hb').trans ((hcell j 2 hlt (by omega)).trans (Q j).get2)
      clear hcell
      have hmk : m - j = (m - (j + 1)) + 1 := by omega
      have hL : lessG G (Q j) = { G with gai := upd G.gai c (lessX G c (Q j).rat) } := by unfold lessG; rw [hc]; rfl
      have hVL := validG_less (x := lessX G c (Q j).rat) hv hcis hc64
      rw [← hL] at hVL
      have HUN : Hid (plain (lessX G c (Q j).rat) = true → withT Q m 0 g = withT Q (m - (j + 1)) (j + 1) (lessG G (Q j))) := Lib.hid fun h => by
        rw [hun.out, hmk, withT_on (hVL.trans h)]
      have HBAD : Hid (plain (lessX G c (Q j).rat) = false → R = zeroG.cells ∧ V = 4) := Lib.hid fun h => FIN.out (zeroG, 4) (by
        rw [hun.out, hmk, withT_bad (hVL.trans h)])
      have HL := Lib.hid (And.intro hL hVL)
      have HIS := Lib.hid hcis
      clear hL hVL hun hc hcis
      have bj : (0 : Int) ≤ j := by omega
      have bm : (j : Int) < m := by omega
      have bk : (0 : Int) ≤ c := by omega
      have bl : (c : Int) < 64 := by omega
      go_upto_region 6 with fail
      generalize (Q j).rat = rr at *
      have c1 : wr.cell? ⟨r, 66 + c, none⟩ = some (.float .f32 (G.gai c)) := hO.gat.getG c hc64
      have f1 := hO.free (66 + c)
      refine wp_tailL rfl (C := fun w' => ∃ n, w' = wr.drewN n) (R := fun _ _ => True) (F := fun _ dd vv => match dd, vv with
        | 27, vv => vv = .int .i8 c
        | 28, vv => vv = .int .i8 c
        | 29, vv => vv = .pointer (some ⟨r, 66, none⟩)
        | 30, vv => vv = .pointer (some ⟨r, 66 + c, none⟩)
        | 31, vv => vv = .float .f32 (G.gai c)
        | 32, vv => vv = .slice (some ⟨b', o, none⟩) m c'
        | 33, vv => vv = .int .i64 j
        | 34, vv => vv = .pointer (some ⟨b', o + j * 3, none⟩)
        | 35, vv => vv = .pointer (some ⟨b', o + j * 3 + 2, none⟩)
        | 36, vv => vv = .int .i16 rr
        | 37, vv => vv = .float .f32 (floatOfInt .f32 rr)
        | 38, vv => ∃ fb, vv = .float .f32 fb ∧ cn fb = cn (fop .quo (floatOfInt .f32 rr) 1082130432)
        | 39, vv => ∃ fb, vv = .float .f32 fb ∧ cn fb = cn (fop .sub (G.gai c) (fop .quo (floatOfInt .f32 rr) 1082130432))
        | 40, vv => vv = .pointer (some ⟨r, 66, none⟩)
        | 41, vv => vv = .pointer (some ⟨r, 66 + c, none⟩)
        | _, _ => True) (fun _ _ _ _ _ h => h) (by kernel_rfl) (by kernel_rfl) rfl rfl (by kernel_rfl) ⟨1, rfl⟩ ?_ ?_
      · refine ⟨step_go rfl fun ev w1 hC kn => ?_, ?_⟩
        · have e1 : ev (.tmp 8) = .int .i8 c := kn.out 8 rfl rfl rfl
          exact good_of (v := .int .i8 c) rfl (by simp [execOp, e1, kn.con, go_sem]) hC trivial rfl
        refine ⟨step_go rfl fun ev w1 hC kn => ?_, ?_⟩
        · have e1 : ev (.tmp 8) = .int .i8 c := kn.out 8 rfl rfl rfl
          exact good_of (v := .int .i8 c) rfl (by simp [execOp, e1, kn.con, go_sem]) hC trivial rfl
        refine ⟨step_go rfl fun ev w1 hC kn => ?_, ?_⟩
        · have e1 : ev (.tmp 6) = .pointer (some ⟨r, 0, none⟩) := kn.out 6 rfl rfl rfl
          exact good_of (v := .pointer (some ⟨r, 66, none⟩)) rfl (by simp only [execOp, e1]; rfl) hC trivial rfl
        refine ⟨step_go rfl fun ev w1 hC kn => ?_, ?_⟩
        · have e1 : ev (.tmp 29) = .pointer (some ⟨r, 66, none⟩) := kn.inn 29 rfl rfl
          have e2 : ev (.tmp 28) = .int .i8 c := kn.inn 28 rfl rfl
          exact good_of (v := .pointer (some ⟨r, 66 + c, none⟩)) rfl (by simp [execOp, e1, e2, kn.con, go_sem, bl, bk, bj, bm]) hC trivial rfl
        refine ⟨step_go rfl fun ev w1 hC kn => ?_, ?_⟩
        · have e1 : ev (.tmp 30) = .pointer (some ⟨r, 66 + c, none⟩) := kn.inn 30 rfl rfl
          obtain ⟨nn, rfl⟩ := hC
          exact good_of (v := .float .f32 (G.gai c)) rfl (by simp [execOp, e1, go_sem, c1]) ⟨nn, rfl⟩ trivial rfl
        refine ⟨step_go rfl fun ev w1 hC kn => ?_, ?_⟩
        · have e1 : ev (.tmp 1) = .slice (some ⟨b', o, none⟩) m c' := kn.out 1 rfl rfl rfl
          exact good_of (v := .slice (some ⟨b', o, none⟩) m c') rfl (by simp [execOp, e1, kn.con, go_sem]) hC trivial rfl
        refine ⟨step_go rfl fun ev w1 hC kn => ?_, ?_⟩
        · have e1 : ev (.tmp 7) = .int .i64 j := kn.out 7 rfl rfl rfl
          exact good_of (v := .int .i64 j) rfl (by simp [execOp, e1, kn.con, go_sem]) hC trivial rfl
        refine ⟨step_go rfl fun ev w1 hC kn => ?_, ?_⟩
        · have e1 : ev (.tmp 32) = .slice (some ⟨b', o, none⟩) m c' := kn.inn 32 rfl rfl
          have e2 : ev (.tmp 33) = .int .i64 j := kn.inn 33 rfl rfl
          exact good_of (v := .pointer (some ⟨b', o + j * 3, none⟩)) rfl (by simp [execOp, e1, e2, kn.con, go_sem, bl, bk, bj, bm]) hC trivial rfl
        refine ⟨step_go rfl fun ev w1 hC kn => ?_, ?_⟩
        · have e1 : ev (.tmp 34) = .pointer (some ⟨b', o + j * 3, none⟩) := kn.inn 34 rfl rfl
          exact good_of (v := .pointer (some ⟨b', o + j * 3 + 2, none⟩)) rfl (by simp only [execOp, e1]; rfl) hC trivial rfl
        refine ⟨step_go rfl fun ev w1 hC kn => ?_, ?_⟩
        · have e1 : ev (.tmp 35) = .pointer (some ⟨b', o + j * 3 + 2, none⟩) := kn.inn 35 rfl rfl
          obtain ⟨nn, rfl⟩ := hC
          exact good_of (v := .int .i16 rr) rfl (by simp [execOp, e1, go_sem, e2]) ⟨nn, rfl⟩ trivial rfl
        refine ⟨step_go rfl fun ev w1 hC kn => ?_, ?_⟩
        · have e1 : ev (.tmp 36) = .int .i16 rr := kn.inn 36 rfl rfl
          exact good_of (v := .float .f32 (floatOfInt .f32 rr)) rfl (by simp [execOp, e1, go_sem, cv]) hC trivial rfl
        refine ⟨step_go rfl fun ev w1 hC kn => ?_, ?_⟩
        · have e1 : ev (.tmp 37) = .float .f32 (floatOfInt .f32 rr) := kn.inn 37 rfl rfl
          obtain ⟨nn, rfl⟩ := hC
          exact good_of (v := .float .f32 (fres .quo (floatOfInt .f32 rr) 1082130432 (wr.drewN nn))) (w' := wr.drewN (nn + fcnt .quo (floatOfInt .f32 rr) 1082130432)) rfl (by simp [execOp, e1, kn.con, run_fquo, go_sem]) ⟨_, rfl⟩ trivial ⟨_, rfl, by rw [cn_res, fop_eq rfl rfl, cn_fop]⟩
        refine ⟨step_go rfl fun ev w1 hC kn => ?_, ?_⟩
        · have e1 : ev (.tmp 31) = .float .f32 (G.gai c) := kn.inn 31 rfl rfl
          obtain ⟨b2, e2, h2⟩ : ∃ fb, ev (.tmp 38) = .float .f32 fb ∧ cn fb = cn (fop .quo (floatOfInt .f32 rr) 1082130432) := kn.inn 38 rfl rfl
          obtain ⟨nn, rfl⟩ := hC
          exact good_of (v := .float .f32 (fres .sub (G.gai c) b2 (wr.drewN nn))) (w' := wr.drewN (nn + fcnt .sub (G.gai c) b2)) rfl (by simp [execOp, e1, e2, kn.con, run_fsub, go_sem]) ⟨_, rfl⟩ trivial ⟨_, rfl, by rw [cn_res, fop_eq rfl h2, cn_fop]⟩
        refine ⟨step_go rfl fun ev w1 hC kn => ?_, ?_⟩
        · have e1 : ev (.tmp 6) = .pointer (some ⟨r, 0, none⟩) := kn.out 6 rfl rfl rfl
          exact good_of (v := .pointer (some ⟨r, 66, none⟩)) rfl (by simp only [execOp, e1]; rfl) hC trivial rfl
        refine ⟨step_go rfl fun ev w1 hC kn => ?_, ?_⟩
        · have e1 : ev (.tmp 40) = .pointer (some ⟨r, 66, none⟩) := kn.inn 40 rfl rfl
          have e2 : ev (.tmp 27) = .int .i8 c := kn.inn 27 rfl rfl
          exact good_of (v := .pointer (some ⟨r, 66 + c, none⟩)) rfl (by simp [execOp, e1, e2, kn.con, go_sem, bl, bk, bj, bm]) hC trivial rfl
        exact trivial
      rintro xv w1 hxv hC
      obtain ⟨b39, y39, g39⟩ : ∃ fb, xv 39 = .float .f32 fb ∧ cn fb = cn (fop .sub (G.gai c) (fop .quo (floatOfInt .f32 rr) 1082130432)) := hxv 39 (by decide)
      have y41 : xv 41 = .pointer (some ⟨r, 66 + c, none⟩) := hxv 41 (by decide)
      obtain ⟨n, rfl⟩ := hC
      simp only [fill, dstsOf, List.filterMap_cons, List.filterMap_nil, List.foldl_cons, List.foldl_nil, List.set_cons_succ, List.set_cons_zero, y39, y41]
      clear hxv y39 y41
      refine ⟨(wr.drewN n).setCell ⟨r, 66 + c, none⟩ (.float .f32 b39), by simp [execOp, Act.eval, go_sem, c1, f1], ?_⟩
      have hG31 : cn b39 = cn (lessX G c rr) := g39
      have hO4 : Blk ((wr.drewN n).setCell ⟨r, 66 + c, none⟩ (.float .f32 b39)) r ({ G with gai := upd G.gai c b39 } : Gr).cells 30 := by
        have := (hO.drewN n).setCell (66 + c) (.float .f32 b39)
        rw [Gr.setG _ _ _ hc64] at this
        exact this
      have hS4 := (hS.drewN n).setOther (a := ⟨r, 66 + c, none⟩) (.float .f32 b39) (by show w.heap.size ≠ r; omega)
      have hbel4 := (below_drewN hbel n).setCell (p := ⟨r, 66 + c, none⟩) (by show w.heap.size ≤ r; omega) (.float .f32 b39)
      generalize (wr.drewN n).setCell ⟨r, 66 + c, none⟩ (.float .f32 b39) = W4 at *
      have hok := l01Ok_any ({ G with gai := upd G.gai c b39 } : Gr) r ⟨hg.wide, hg.high, hg.fix⟩ W4 hO4.gat
      rw [validG_less hv HIS.out hc64, plain_al hG31] at hok
      clear hS hO hbel c1 f1 g39 e1 e2
      cases hp : plain (lessX G c rr)
      · rw [hp] at hok
        have HF := Lib.hid (HBAD.out hp)
        go_wp2_with (first | (go_at_call 78; refine hok.mono ?_; rintro e w4 ⟨rfl, m4, rfl⟩) | (refine wpList_zero rfl rfl built66 ?_) | (refine wpList_store_blk rfl rfl rfl rfl row66 (hS4.drewN _) zeroG.size zeroG.size zeroG.one ?_))
        refine bodyPost_row2 rfl rfl row66 ((hS4.drewN _).setRow _) zeroG.size rfl ⟨?_, below_setRow (below_drewN hbel4 _) (by omega) _⟩
        rw [HF.out.1, HF.out.2]; rfl
      · rw [hp] at hok
        obtain rfl : b39 = lessX G c rr := al_eq hG31 (plain_num hp)
        go_wp2_with (go_at_call 78; refine hok.mono ?_; rintro e w4 ⟨rfl, m4, rfl⟩)
        go_roundw
        case rel => exact ⟨j + 1, { G with gai := upd G.gai c (lessX G c rr) }, by omega, by go_num, Lib.hid (by rw [← HL.out.1]; exact HUN.out hp), ⟨hg.wide, hg.high, hg.fix⟩, by rw [← HL.out.1, HL.out.2]; exact hp, hcc, hS4.drewN _, hO4.drewN _, below_drewN hbel4 _⟩
        case measure => (simp [intOf]; try omega)
    · obtain rfl : j = m := by omega
      have HF := Lib.hid (FIN.out ((settT 981467136 1000 0 G).1, (settT 981467136 1000 0 G).2.2) (by rw [hun.out, Nat.sub_self]; rfl))
      have hse : Calls Tryz.prog 111 #[.pointer (some ⟨r, 0, none⟩), .float .f32 981467136, .int .i64 1000] wr fun e w' => e = .returned (.tuple #[.agg (settT 981467136 1000 0 G).1.cells, .int .i64 (settT 981467136 1000 0 G).2.1, .int .i64 (settT 981467136 1000 0 G).2.2]) ∧ Below wr.heap.size wr w' := l02Settle_any G r 981467136 1000 hg hv (by omega) wr hO.gat
      generalize settT 981467136 1000 0 G = T at *
      obtain ⟨T1, T2, T3⟩ := T
      have lS := hS.lt
      go_upto_region 10 with (first | (go_at_call 111; refine hse.mono ?_; rintro e w5 ⟨rfl, hb5⟩) | (refine wpList_alloc_as rfl rfl zero66z ?_) | (refine wpList_store_last rfl rfl rfl rfl rfl (by rw [Gr.size]; kernel_rfl) (by rw [Gr.size, Gr.size]) (List.all_eq_true.2 (Gr.one _)) ?_))
      have hN5 := Blk.new w5 T1.cells 30
      have hS5 := (hS.below hb5 lS).alloc (.cells T1.cells 30)
      have hbel5 := hbel.trans (hb5.mono hbel.size)
      have hbel5 := hbel5.alloc hbel5.size (.cells T1.cells 30)
      generalize w5.alloc (.cells T1.cells 30) = W5 at *
      generalize w5.heap.size = q5 at *
      go_wp2_with (first | (refine wpList_load_blk rfl rfl rfl row66 hN5 (Gr.size _) ?_) | (refine wpList_store_blk rfl rfl rfl rfl row66 hS5 zeroG.size (Gr.size _) (Gr.one _) ?_))
      refine bodyPost_row2 rfl rfl row66 (hS5.setRow _) (Gr.size _) rfl ⟨?_, below_setRow hbel5 (by omega) _⟩
      rw [HF.out.1, HF.out.2]; rfl
end Go.Proofs.YtdnnjahdcabdmaaGreatDoor
