import Derived.Test.YtdnnjahdcabdmaaGreatDoorMD05
/- ValidGround, in the program and in the reference. -/
namespace Go.Proofs.YtdnnjahdcabdmaaGreatDoor
open Go.ChangeShapes Go.WideShapes Go.ChangeAt Go.RowKit
set_option linter.unusedVariables false
set_option linter.unusedSimpArgs false

theorem order_some {k : FloatKind} {x y : Nat} (hx : isN k x = false) (hy : isN k y = false) : ∃ o, k.format.order x y = some o := by
  unfold Ieee.Format.order
  unfold isN at hx hy
  cases hr : k.format.read x <;> cases hs : k.format.read y <;> simp_all [Ieee.Datum.order, Ieee.Datum.isNaN]
theorem fge_num {a b : Nat} (h : fge a b = true) : isN .f32 a = false := by
  cases hn : isN .f32 a
  · rfl
  · unfold fge at h; rw [order_nan_left hn] at h; simp at h
theorem plain_num {a : Nat} (h : plain a = true) : isN .f32 a = false := by
  unfold plain at h; exact fge_num (Bool.and_eq_true_iff.1 h).1
theorem zero_num : isN .f32 0 = false := by decide
theorem flt_fge {a b : Nat} (ha : isN .f32 a = false) (hb : isN .f32 b = false) : flt a b = !fge a b := by
  obtain ⟨o, ho⟩ := order_some ha hb
  unfold flt fge
  rw [ho]
  cases o <;> rfl
theorem feq_flt {a b : Nat} (h : feq a b = true) : flt a b = false := by
  unfold feq at h; unfold flt
  cases ho : FloatKind.f32.format.order a b with
  | none => rw [ho] at h; simp at h
  | some o => rw [ho] at h; cases o <;> simp_all

/-- Is one of the numbers less than nothing? -/
def anyNeg (f : Nat → Nat) : Bool := anyTo (fun x => flt x 0) f 64
theorem fieldIs_amount (g : Gr) : fieldIs amount g g.con = (fieldIs plain g g.con && !anyNeg g.con) := by
  apply Bool.eq_iff_iff.2
  unfold fieldIs anyNeg
  simp only [Bool.not_eq_true', Bool.and_eq_true, anyTo_false]
  constructor
  · intro h
    refine ⟨fun i hi => ?_, fun i hi => ?_⟩
    · have h1 := h i hi
      unfold badAt at h1 ⊢
      cases hc : isC g i <;> simp only [hc, Bool.false_eq_true, if_false, if_true] at h1 ⊢
      · exact h1
      · simp [amount] at h1; simp [h1.1]
    · have h1 := h i hi
      unfold badAt at h1
      cases hc : isC g i <;> simp only [hc, Bool.false_eq_true, if_false, if_true] at h1
      · exact feq_flt (by simpa using h1)
      · simp [amount] at h1
        rw [flt_fge (plain_num h1.1) zero_num, h1.2]; rfl
  · rintro ⟨h, h'⟩ i hi
    have h1 := h i hi
    have h2 := h' i hi
    unfold badAt at h1 ⊢
    cases hc : isC g i <;> simp only [hc, Bool.false_eq_true, if_false, if_true] at h1 ⊢
    · exact h1
    · have hp : plain (g.con i) = true := by simpa using h1
      rw [flt_fge (plain_num hp) zero_num] at h2
      simp [amount, hp]; simpa using h2

/-- May the fixed cells be these? -/
def fixOk (g : Gr) : Bool := (g.fix != 0) && (bits .andNot .u64 g.fix (maskOf (cellsTo g 64)) == 0)
/-- Is this a valid ground? -/
def validG (g : Gr) : Bool := (decide (2 ≤ g.wide) && decide (g.wide ≤ 8)) && ((decide (2 ≤ g.high) && decide (g.high ≤ 8)) && (fieldIs amount g g.con && (fieldIs plain g g.gai && (fieldIs plain g g.hea && fixOk g))))
attribute [local irreducible] Calls
theorem callAmount : Callable Tryz.prog 90 := ⟨_, Tryz.func90, by kernel_rfl, by kernel_rfl⟩
theorem cellU64 : CellTy Tryz.prog 28 := ⟨.int .u64, Tryz.underlying28, rfl, by kernel_rfl⟩
theorem callPlain : Callable Tryz.prog 34 := ⟨_, Tryz.func34, by kernel_rfl, by kernel_rfl⟩

set_option maxRecDepth 100000 in
set_option maxHeartbeats 400000 in
theorem validGround_any (g : Gr) (hg : g.ok) (w : World) :
    Calls Tryz.prog 32 #[.agg g.cells] w fun e w' => e = .returned (.bool (validG g)) ∧ Below w.heap.size w w' := by
  have ⟨hg1, hg2, hg3⟩ := hg
  obtain ⟨V, hV⟩ : ∃ V, V = validG g := ⟨_, rfl⟩
  rw [← hV]
  unfold validG at hV
  go_enter Tryz.func32, Tryz.ntmps32
  go_upto_region 1 with (refine wpList_box_as rfl rfl rfl ?_)
  have hb : Blk (w.alloc (.cells g.cells 30)) w.heap.size g.cells 30 := Blk.new _ _ _
  have hbel := below1 w (.cells g.cells 30)
  have hb := hb.gat
  generalize w.alloc (.cells g.cells 30) = W at *
  have c0 : W.cell? ⟨w.heap.size, 0, none⟩ = some (.int .i8 g.wide) := hb.get0
  have c1 : W.cell? ⟨w.heap.size, 1, none⟩ = some (.int .i8 g.high) := hb.get1
  have k1 := fun n => fieldOk_any amount 90 g w.heap.size g.con 2 hg (W.drewN n) (hb.drewN n) hb.getC callAmount isAmount_any
  have k2 := fun n => fieldOk_any plain 34 g w.heap.size g.gai 66 hg (W.drewN n) (hb.drewN n) hb.getG callPlain isPlain_any
  have k3 := fun n => fieldOk_any plain 34 g w.heap.size g.hea 130 hg (W.drewN n) (hb.drewN n) hb.getH callPlain isPlain_any
  generalize hq1 : (decide (2 ≤ g.wide) && decide (g.wide ≤ 8)) = q1 at *
  generalize hq2 : (decide (2 ≤ g.high) && decide (g.high ≤ 8)) = q2 at *
  generalize fieldIs amount g g.con = q3 at *
  generalize fieldIs plain g g.gai = q4 at *
  generalize fieldIs plain g g.hea = q5 at *
  cases q1
  · go_wp2_with (go_at_call 88; refine (in_any _ _ _ _).mono ?_; rw [hq1]; rintro e w' ⟨rfl, hw⟩; rw [hw]; clear hw w')
    go_ret
    exact ⟨bool_eq (by rw [hV]; rfl), hbel⟩
  cases q2
  · go_wp2_with (go_at_call 88; refine (in_any _ _ _ _).mono ?_; (first | rw [hq1] | rw [hq2]); rintro e w' ⟨rfl, hw⟩; rw [hw]; clear hw w')
    go_ret
    exact ⟨bool_eq (by rw [hV]; rfl), hbel⟩
  go_upto_region 3 with (go_at_call 88; refine (in_any _ _ _ _).mono ?_; (first | rw [hq1] | rw [hq2]); rintro e w' ⟨rfl, hw⟩; rw [hw]; clear hw w')
  clear hq1 hq2 c0 c1
  have k1 := k1 0
  cases q3
  · go_upto_region 4 with (go_at_call 89; refine k1.mono ?_; rintro e w' ⟨rfl, n1, rfl⟩)
    go_quiet (fail)
    go_wp2_with fail
    go_ret
    exact ⟨bool_eq (by rw [hV]; rfl), below_drewN (below_drewN hbel _) _⟩
  cases q4
  · go_upto_region 4 with (first | (go_at_call 89; refine k1.mono ?_; rintro e w' ⟨rfl, n1, rfl⟩) | (go_at_call 89; refine (k2 _).mono ?_; rintro e w' ⟨rfl, n2, rfl⟩))
    go_quiet (fail)
    go_wp2_with fail
    go_ret
    exact ⟨bool_eq (by rw [hV]; rfl), below_drewN (below_drewN hbel _) _⟩
  cases q5
  · go_upto_region 4 with (first | (go_at_call 89; refine k1.mono ?_; rintro e w' ⟨rfl, n1, rfl⟩) | (go_at_call 89; refine (k2 _).mono ?_; rintro e w' ⟨rfl, n2, rfl⟩) | (go_at_call 89; refine (k3 _).mono ?_; rintro e w' ⟨rfl, n3, rfl⟩))
    go_quiet (fail)
    go_wp2_with fail
    go_ret
    exact ⟨bool_eq (by rw [hV]; rfl), below_drewN (below_drewN hbel _) _⟩
  go_upto_region 4 with (first | (go_at_call 89; refine k1.mono ?_; rintro e w' ⟨rfl, n1, rfl⟩) | (go_at_call 89; refine (k2 _).mono ?_; rintro e w' ⟨rfl, n2, rfl⟩) | (go_at_call 89; refine (k3 _).mono ?_; rintro e w' ⟨rfl, n3, rfl⟩))
  clear k1 k2 k3
  have hb := hb.drewN (n1 + n2 + n3)
  have hbel := below_drewN hbel (n1 + n2 + n3)
  generalize W.drewN (n1 + n2 + n3) = W2 at *
  have c5 : W2.cell? ⟨w.heap.size, 194, none⟩ = some (.int .u64 g.fix) := hb.getF
  have lb := hb.lt
  cases hz : (g.fix != 0)
  · have HZ := Lib.hid hz
    go_quiet (fail)
    go_wp2_with fail
    go_ret
    exact ⟨bool_eq (by rw [hV]; unfold fixOk; rw [HZ.out]; rfl), below_drewN hbel _⟩
  · have HZ := Lib.hid hz
    have hbits := fun w' (hb' : Below W2.heap.size W2 w') => bits_any g w.heap.size hg w' (hb.below hb' lb)
    generalize hM : maskOf (cellsTo g 64) = M at *
    refine wp_region_below (by kernel_rfl) (by kernel_rfl) ?_
    refine quiet_move rfl rfl rfl rfl ?_
    refine quiet_move rfl rfl rfl rfl ?_
    refine quiet_run (v := .pointer (some ⟨w.heap.size, 194, none⟩)) rfl rfl (fun w' => by rfl) ?_
    refine quiet_cell rfl rfl rfl rfl cellU64 (fun w' hw' => (hw'.cell (p := ⟨w.heap.size, 194, none⟩) lb).trans c5) ?_
    refine quiet_run (v := .bool true) rfl rfl (fun w' => (show _ = Result.ok (Next.value (.bool (g.fix != 0))) w' from rfl).trans (by rw [hz])) ?_
    refine quiet_run (v := .bool true) rfl rfl (fun w' => by rfl) ?_
    refine quiet_move rfl rfl rfl rfl ?_
    refine quiet_run (v := .pointer (some ⟨w.heap.size, 194, none⟩)) rfl rfl (fun w' => by rfl) ?_
    refine quiet_cell rfl rfl rfl rfl cellU64 (fun w' hw' => (hw'.cell (p := ⟨w.heap.size, 194, none⟩) lb).trans c5) ?_
    refine quiet_call rfl rfl rfl Tryz.func91 (by kernel_rfl) (by kernel_rfl) rfl (fun w' hw' => (hbits w' hw').mono fun e w'' h => ⟨h.1, hw'.trans (h.2.mono hw'.size)⟩) ?_
    simp only [List.set_cons_succ, List.set_cons_zero]
    obtain ⟨x, hx⟩ : ∃ x, x = bits .andNot .u64 g.fix M := ⟨_, rfl⟩
    refine quiet_run (v := .int .u64 x) rfl rfl (fun w' => by simp [execOp, Act.eval, go_sem, hx]) ?_
    refine quiet_run (v := .bool (x == 0)) rfl rfl (fun w' => by rfl) ?_
    refine quiet_run (v := .bool (x == 0)) rfl rfl (fun w' => by rfl) ?_
    refine quiet_assign rfl rfl rfl rfl ?_
    refine wpQuiet_nil ?_
    intro w1 hw1
    simp only [List.set_cons_succ, List.set_cons_zero]
    go_wp2_with fail
    go_ret
    exact ⟨bool_eq (by rw [hV]; unfold fixOk; rw [HZ.out, hM, ← hx]; rfl), hbel.trans (hw1.mono hbel.size)⟩
set_option maxRecDepth 100000 in
set_option maxHeartbeats 400000 in
theorem l01Ok_any (g : Gr) (b : Nat) (hg : g.ok) (w : World) (hb : GAt w b g) :
    Calls Tryz.prog 78 #[.pointer (some ⟨b, 0, none⟩)] w fun e w' => e = .returned (.bool (validG g)) ∧ ∃ n, w' = w.drewN n := by
  have ⟨hg1, hg2, hg3⟩ := hg
  obtain ⟨V, hV⟩ : ∃ V, V = validG g := ⟨_, rfl⟩
  rw [← hV]
  unfold validG at hV
  rw [fieldIs_amount] at hV
  have c0 : w.cell? ⟨b, 0, none⟩ = some (.int .i8 g.wide) := hb.get0
  have c1 : w.cell? ⟨b, 1, none⟩ = some (.int .i8 g.high) := hb.get1
  have c5 : w.cell? ⟨b, 194, none⟩ = some (.int .u64 g.fix) := hb.getF
  have k1 := l01Field_any g b g.con 2 hg w hb hb.getC
  have k2 := l01Field_any g b g.gai 66 hg w hb hb.getG
  have k3 := l01Field_any g b g.hea 130 hg w hb hb.getH
  have hcs := fun n => l01Cells_any g b hg (w.drewN n) (hb.drewN n)
  go_enter Tryz.func78, Tryz.ntmps78
  generalize hq1 : (decide (2 ≤ g.wide) && decide (g.wide ≤ 8)) = q1 at *
  generalize hq2 : (decide (2 ≤ g.high) && decide (g.high ≤ 8)) = q2 at *
  generalize fieldIs plain g g.con = q3 at *
  generalize fieldIs plain g g.gai = q4 at *
  generalize fieldIs plain g g.hea = q5 at *
  cases q1
  · go_wp2_with (go_at_call 123; refine (l00In_any _ _ _ _).mono ?_; rw [hq1]; rintro e w' ⟨rfl, hw⟩; rw [hw]; clear hw w')
    go_ret
    exact ⟨bool_eq (by rw [hV]; rfl), 0, rfl⟩
  cases q2
  · go_wp2_with (go_at_call 123; refine (l00In_any _ _ _ _).mono ?_; (first | rw [hq1] | rw [hq2]); rintro e w' ⟨rfl, hw⟩; rw [hw]; clear hw w')
    go_ret
    exact ⟨bool_eq (by rw [hV]; rfl), 0, rfl⟩
  go_upto_region 3 with (go_at_call 123; refine (l00In_any _ _ _ _).mono ?_; (first | rw [hq1] | rw [hq2]); rintro e w' ⟨rfl, hw⟩; rw [hw]; clear hw w')
  clear hq1 hq2 c0 c1
  cases q3
  · go_wp2_with (go_at_call 124; refine k1.mono ?_; rintro e w' ⟨rfl, hw⟩; rw [hw]; clear hw w')
    go_ret
    exact ⟨bool_eq (by rw [hV]; rfl), 0, rfl⟩
  cases q4
  · go_wp2_with (first | (go_at_call 124; refine k1.mono ?_; rintro e w' ⟨rfl, hw⟩; rw [hw]; clear hw w') | (go_at_call 124; refine k2.mono ?_; rintro e w' ⟨rfl, hw⟩; rw [hw]; clear hw w'))
    go_ret
    exact ⟨bool_eq (by rw [hV]; simp), 0, rfl⟩
  cases q5
  · go_wp2_with (first | (go_at_call 124; refine k1.mono ?_; rintro e w' ⟨rfl, hw⟩; rw [hw]; clear hw w') | (go_at_call 124; refine k2.mono ?_; rintro e w' ⟨rfl, hw⟩; rw [hw]; clear hw w') | (go_at_call 124; refine k3.mono ?_; rintro e w' ⟨rfl, hw⟩; rw [hw]; clear hw w'))
    go_ret
    exact ⟨bool_eq (by rw [hV]; simp), 0, rfl⟩
  go_wp2_with (first | (go_at_call 124; refine k1.mono ?_; rintro e w' ⟨rfl, hw⟩; rw [hw]; clear hw w') | (go_at_call 124; refine k2.mono ?_; rintro e w' ⟨rfl, hw⟩; rw [hw]; clear hw w') | (go_at_call 124; refine k3.mono ?_; rintro e w' ⟨rfl, hw⟩; rw [hw]; clear hw w'))
  clear k1 k2 k3
  have HV := Lib.hid hV
  clear hV
  go_loop [3] (fun i => ∃ k : Nat, k ≤ 64 ∧ i = .int .i64 k ∧ Hid (∀ j, j < k → flt (g.con j) 0 = false)) (fun i => 64 - (intOf i).toNat)
  case atStart => exact ⟨0, by omega, rfl, Lib.hid fun j hj => by omega⟩
  case round =>
    obtain ⟨k, hk, rfl, hq⟩ := hrel
    by_cases hlt : k < 64
    · have bk : (0 : Int) ≤ k := by omega
      have bl : (k : Int) < 64 := by omega
      have ck : w.cell? ⟨b, 2 + k, none⟩ = some (.float .f32 (g.con k)) := hb.getC k hlt
      have h1 := flt_eq (g.con k) 0
      cases hz : flt (g.con k) 0 <;> rw [hz] at h1
      · have HZ := Lib.hid hz
        clear hz
        go_wp2_with fail
        go_round
        case rel => exact ⟨k + 1, by omega, by go_num, Lib.hid (all_step hq.out HZ.out)⟩
        case measure => simp [intOf]; omega
      · have HZ := Lib.hid hz
        clear hz
        go_wp2_with fail
        go_ret
        exact ⟨bool_eq (by rw [HV.out]; unfold anyNeg; rw [anyTo_true (i := k) hlt HZ.out]; rfl), 0, rfl⟩
    · obtain rfl : k = 64 := by omega
      have hneg : anyNeg g.con = false := by unfold anyNeg; exact anyTo_false.2 hq.out
      have HN := Lib.hid hneg
      clear hneg
      cases hz : (g.fix != 0)
      · have HZ := Lib.hid hz
        go_wp2_with fail
        go_quiet (fail)
        go_wp2_with fail
        go_ret
        exact ⟨bool_eq (by rw [HV.out, HN.out]; unfold fixOk; rw [HZ.out]; rfl), _, rfl⟩
      · have HZ := Lib.hid hz
        go_wp2_with fail
        go_quiet ((go_at_call 125; exact Calls.quiet_of_same (hcs _)))
        go_wp2_with fail
        go_ret
        exact ⟨bool_eq (by rw [HV.out, HN.out]; unfold fixOk; rw [HZ.out]; rfl), _, rfl⟩
end Go.Proofs.YtdnnjahdcabdmaaGreatDoor
