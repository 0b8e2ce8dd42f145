import Derived.Test.YtcojgmgoiopboaaGreatDoorMR07
/- ValidGround, in the program and in the reference. -/
namespace Go.Proofs.YtcojgmgoiopboaaGreatDoor
open Go.ChangeShapes Go.WideShapes Go.ChangeAt Go.RowKit
set_option linter.unusedVariables false
set_option linter.unusedSimpArgs false

theorem order_some {k : FloatKind} {x y : Nat} (hx : isN k x = false) (hy : isN k y = false) : ∃ o, k.format.order x y = some o := by
  unfold Ieee.Format.order
  unfold isN at hx hy
  cases hr : k.format.read x <;> cases hs : k.format.read y <;> simp_all [Ieee.Datum.order, Ieee.Datum.isNaN]
theorem fge_num {a b : Nat} (h : fge a b = true) : isN .f32 a = false := by
  cases hn : isN .f32 a
  · rfl
  · unfold fge at h; rw [order_nan_left hn] at h; simp at h
theorem plain_num {a : Nat} (h : plain a = true) : isN .f32 a = false := by
  unfold plain at h; exact fge_num (Bool.and_eq_true_iff.1 h).1
theorem zero_num : isN .f32 0 = false := by decide
theorem flt_fge {a b : Nat} (ha : isN .f32 a = false) (hb : isN .f32 b = false) : flt a b = !fge a b := by
  obtain ⟨o, ho⟩ := order_some ha hb
  unfold flt fge
  rw [ho]
  cases o <;> rfl
theorem feq_flt {a b : Nat} (h : feq a b = true) : flt a b = false := by
  unfold feq at h; unfold flt
  cases ho : FloatKind.f32.format.order a b with
  | none => rw [ho] at h; simp at h
  | some o => rw [ho] at h; cases o <;> simp_all

/-- Is one of the numbers less than nothing? -/
def anyNeg (f : Nat → Nat) : Bool := anyTo (fun x => flt x 0) f 64
theorem fieldIs_amount (g : Gr) : fieldIs amount g g.con = (fieldIs plain g g.con && !anyNeg g.con) := by
  apply Bool.eq_iff_iff.2
  unfold fieldIs anyNeg
  simp only [Bool.not_eq_true', Bool.and_eq_true, anyTo_false]
  constructor
  · intro h
    refine ⟨fun i hi => ?_, fun i hi => ?_⟩
    · have h1 := h i hi
      unfold badAt at h1 ⊢
      cases hc : isC g i <;> simp only [hc, Bool.false_eq_true, if_false, if_true] at h1 ⊢
      · exact h1
      · simp [amount] at h1; simp [h1.1]
    · have h1 := h i hi
      unfold badAt at h1
      cases hc : isC g i <;> simp only [hc, Bool.false_eq_true, if_false, if_true] at h1
      · exact feq_flt (by simpa using h1)
      · simp [amount] at h1
        rw [flt_fge (plain_num h1.1) zero_num, h1.2]; rfl
  · rintro ⟨h, h'⟩ i hi
    have h1 := h i hi
    have h2 := h' i hi
    unfold badAt at h1 ⊢
    cases hc : isC g i <;> simp only [hc, Bool.false_eq_true, if_false, if_true] at h1 ⊢
    · exact h1
    · have hp : plain (g.con i) = true := by simpa using h1
      rw [flt_fge (plain_num hp) zero_num] at h2
      simp [amount, hp]; simpa using h2

/-- May the fixed cells be these? -/
def fixOk (g : Gr) : Bool := (g.fix != 0) && (bits .andNot .u64 g.fix (maskOf (cellsTo g 64)) == 0)
/-- Is this a valid ground? -/
def validG (g : Gr) : Bool := (decide (2 ≤ g.wide) && decide (g.wide ≤ 8)) && ((decide (2 ≤ g.high) && decide (g.high ≤ 8)) && (fieldIs amount g g.con && (fieldIs plain g g.gai && (fieldIs plain g g.hea && fixOk g))))
attribute [local irreducible] Calls
theorem callAmount : Callable Tryz.prog 82 := ⟨_, Tryz.func82, by kernel_rfl, by kernel_rfl⟩
theorem cellU64 : CellTy Tryz.prog 32 := ⟨.int .u64, Tryz.underlying32, rfl, by kernel_rfl⟩
theorem callPlain : Callable Tryz.prog 73 := ⟨_, Tryz.func73, by kernel_rfl, by kernel_rfl⟩

set_option maxRecDepth 100000 in
set_option maxHeartbeats 400000 in
theorem validGround_any (g : Gr) (hg : g.ok) (w : World) :
    Calls Tryz.prog 57 #[.agg g.cells] w fun e w' => e = .returned (.bool (validG g)) ∧ Below w.heap.size w w' := by
  have ⟨hg1, hg2, hg3⟩ := hg
  obtain ⟨V, hV⟩ : ∃ V, V = validG g := ⟨_, rfl⟩
  rw [← hV]
  unfold validG at hV
  go_enter Tryz.func57, Tryz.ntmps57
  go_upto_region 1 with (refine wpList_box_as rfl rfl rfl ?_)
  have hb : Blk (w.alloc (.cells g.cells 34)) w.heap.size g.cells 34 := Blk.new _ _ _
  have hbel := below1 w (.cells g.cells 34)
  have hb := hb.gat
  generalize w.alloc (.cells g.cells 34) = W at *
  have c0 : W.cell? ⟨w.heap.size, 0, none⟩ = some (.int .i8 g.wide) := hb.get0
  have c1 : W.cell? ⟨w.heap.size, 1, none⟩ = some (.int .i8 g.high) := hb.get1
  have k1 := fun n => fieldOk_any amount 82 g w.heap.size g.con 2 hg (W.drewN n) (hb.drewN n) hb.getC callAmount isAmount_any
  have k2 := fun n => fieldOk_any plain 73 g w.heap.size g.gai 66 hg (W.drewN n) (hb.drewN n) hb.getG callPlain isPlain_any
  have k3 := fun n => fieldOk_any plain 73 g w.heap.size g.hea 130 hg (W.drewN n) (hb.drewN n) hb.getH callPlain isPlain_any
  generalize hq1 : (decide (2 ≤ g.wide) && decide (g.wide ≤ 8)) = q1 at *
  generalize hq2 : (decide (2 ≤ g.high) && decide (g.high ≤ 8)) = q2 at *
  generalize fieldIs amount g g.con = q3 at *
  generalize fieldIs plain g g.gai = q4 at *
  generalize fieldIs plain g g.hea = q5 at *
  cases q1
  · go_wp2_with (go_at_call 44; refine (in_any _ _ _ _).mono ?_; rw [hq1]; rintro e w' ⟨rfl, hw⟩; rw [hw]; clear hw w')
    go_ret
    exact ⟨bool_eq (by rw [hV]; rfl), hbel⟩
  cases q2
  · go_wp2_with (go_at_call 44; refine (in_any _ _ _ _).mono ?_; (first | rw [hq1] | rw [hq2]); rintro e w' ⟨rfl, hw⟩; rw [hw]; clear hw w')
    go_ret
    exact ⟨bool_eq (by rw [hV]; rfl), hbel⟩
  go_upto_region 3 with (go_at_call 44; refine (in_any _ _ _ _).mono ?_; (first | rw [hq1] | rw [hq2]); rintro e w' ⟨rfl, hw⟩; rw [hw]; clear hw w')
  clear hq1 hq2 c0 c1
  have k1 := k1 0
  cases q3
  · go_upto_region 4 with (go_at_call 81; refine k1.mono ?_; rintro e w' ⟨rfl, n1, rfl⟩)
    go_quiet (fail)
    go_wp2_with fail
    go_ret
    exact ⟨bool_eq (by rw [hV]; rfl), below_drewN (below_drewN hbel _) _⟩
  cases q4
  · go_upto_region 4 with (first | (go_at_call 81; refine k1.mono ?_; rintro e w' ⟨rfl, n1, rfl⟩) | (go_at_call 81; refine (k2 _).mono ?_; rintro e w' ⟨rfl, n2, rfl⟩))
    go_quiet (fail)
    go_wp2_with fail
    go_ret
    exact ⟨bool_eq (by rw [hV]; rfl), below_drewN (below_drewN hbel _) _⟩
  cases q5
  · go_upto_region 4 with (first | (go_at_call 81; refine k1.mono ?_; rintro e w' ⟨rfl, n1, rfl⟩) | (go_at_call 81; refine (k2 _).mono ?_; rintro e w' ⟨rfl, n2, rfl⟩) | (go_at_call 81; refine (k3 _).mono ?_; rintro e w' ⟨rfl, n3, rfl⟩))
    go_quiet (fail)
    go_wp2_with fail
    go_ret
    exact ⟨bool_eq (by rw [hV]; rfl), below_drewN (below_drewN hbel _) _⟩
  go_upto_region 4 with (first | (go_at_call 81; refine k1.mono ?_; rintro e w' ⟨rfl, n1, rfl⟩) | (go_at_call 81; refine (k2 _).mono ?_; rintro e w' ⟨rfl, n2, rfl⟩) | (go_at_call 81; refine (k3 _).mono ?_; rintro e w' ⟨rfl, n3, rfl⟩))
  clear k1 k2 k3
  have hb := hb.drewN (n1 + n2 + n3)
  have hbel := below_drewN hbel (n1 + n2 + n3)
  generalize W.drewN (n1 + n2 + n3) = W2 at *
  have c5 : W2.cell? ⟨w.heap.size, 194, none⟩ = some (.int .u64 g.fix) := hb.getF
  have lb := hb.lt
  cases hz : (g.fix != 0)
  · have HZ := Lib.hid hz
    go_quiet (fail)
    go_wp2_with fail
    go_ret
    exact ⟨bool_eq (by rw [hV]; unfold fixOk; rw [HZ.out]; rfl), below_drewN hbel _⟩
  · have HZ := Lib.hid hz
    have hbits := fun w' (hb' : Below W2.heap.size W2 w') => bits_any g w.heap.size hg w' (hb.below hb' lb)
    generalize hM : maskOf (cellsTo g 64) = M at *
    refine wp_region_below (by kernel_rfl) (by kernel_rfl) ?_
    refine quiet_move rfl rfl rfl rfl ?_
    refine quiet_move rfl rfl rfl rfl ?_
    refine quiet_run (v := .pointer (some ⟨w.heap.size, 194, none⟩)) rfl rfl (fun w' => by rfl) ?_
    refine quiet_cell rfl rfl rfl rfl cellU64 (fun w' hw' => (hw'.cell (p := ⟨w.heap.size, 194, none⟩) lb).trans c5) ?_
    refine quiet_run (v := .bool true) rfl rfl (fun w' => (show _ = Result.ok (Next.value (.bool (g.fix != 0))) w' from rfl).trans (by rw [hz])) ?_
    refine quiet_run (v := .bool true) rfl rfl (fun w' => by rfl) ?_
    refine quiet_move rfl rfl rfl rfl ?_
    refine quiet_run (v := .pointer (some ⟨w.heap.size, 194, none⟩)) rfl rfl (fun w' => by rfl) ?_
    refine quiet_cell rfl rfl rfl rfl cellU64 (fun w' hw' => (hw'.cell (p := ⟨w.heap.size, 194, none⟩) lb).trans c5) ?_
    refine quiet_call rfl rfl rfl Tryz.func83 (by kernel_rfl) (by kernel_rfl) rfl (fun w' hw' => (hbits w' hw').mono fun e w'' h => ⟨h.1, hw'.trans (h.2.mono hw'.size)⟩) ?_
    simp only [List.set_cons_succ, List.set_cons_zero]
    obtain ⟨x, hx⟩ : ∃ x, x = bits .andNot .u64 g.fix M := ⟨_, rfl⟩
    refine quiet_run (v := .int .u64 x) rfl rfl (fun w' => by simp [execOp, Act.eval, go_sem, hx]) ?_
    refine quiet_run (v := .bool (x == 0)) rfl rfl (fun w' => by rfl) ?_
    refine quiet_run (v := .bool (x == 0)) rfl rfl (fun w' => by rfl) ?_
    refine quiet_assign rfl rfl rfl rfl ?_
    refine wpQuiet_nil ?_
    intro w1 hw1
    simp only [List.set_cons_succ, List.set_cons_zero]
    go_wp2_with fail
    go_ret
    exact ⟨bool_eq (by rw [hV]; unfold fixOk; rw [HZ.out, hM, ← hx]; rfl), hbel.trans (hw1.mono hbel.size)⟩
set_option maxRecDepth 100000 in
set_option maxHeartbeats 400000 in
theorem l01Ok_any (g : Gr) (b : Nat) (hg : g.ok) (w : World) (hb : GAt w b g) :
    Calls Tryz.prog 26 #[.pointer (some ⟨b, 0, none⟩)] w fun e w' => e = .returned (.bool (validG g)) ∧ ∃ n, w' = w.drewN n := by
  have ⟨hg1, hg2, hg3⟩ := hg
  obtain ⟨V, hV⟩ : ∃ V, V = validG g := ⟨_, rfl⟩
  rw [← hV]
  unfold validG at hV
  rw [fieldIs_amount] at hV
  have c0 : w.cell? ⟨b, 0, none⟩ = some (.int .i8 g.wide) := hb.get0
  have c1 : w.cell? ⟨b, 1, none⟩ = some (.int .i8 g.high) := hb.get1
  have c5 : w.cell? ⟨b, 194, none⟩ = some (.int .u64 g.fix) := hb.getF
  have k1 := l01Field_any g b g.con 2 hg w hb hb.getC
  have k2 := l01Field_any g b g.gai 66 hg w hb hb.getG
  have k3 := l01Field_any g b g.hea 130 hg w hb hb.getH
  have hcs := fun n => l01Cells_any g b hg (w.drewN n) (hb.drewN n)
  go_enter Tryz.func26, Tryz.ntmps26
  generalize hq1 : (decide (2 ≤ g.wide) && decide (g.wide ≤ 8)) = q1 at *
  generalize hq2 : (decide (2 ≤ g.high) && decide (g.high ≤ 8)) = q2 at *
  generalize fieldIs plain g g.con = q3 at *
  generalize fieldIs plain g g.gai = q4 at *
  generalize fieldIs plain g g.hea = q5 at *
  cases q1
  · go_wp2_with (go_at_call 23; refine (l00In_any _ _ _ _).mono ?_; rw [hq1]; rintro e w' ⟨rfl, hw⟩; rw [hw]; clear hw w')
    go_ret
    exact ⟨bool_eq (by rw [hV]; rfl), 0, rfl⟩
  cases q2
  · go_wp2_with (go_at_call 23; refine (l00In_any _ _ _ _).mono ?_; (first | rw [hq1] | rw [hq2]); rintro e w' ⟨rfl, hw⟩; rw [hw]; clear hw w')
    go_ret
    exact ⟨bool_eq (by rw [hV]; rfl), 0, rfl⟩
  go_upto_region 3 with (go_at_call 23; refine (l00In_any _ _ _ _).mono ?_; (first | rw [hq1] | rw [hq2]); rintro e w' ⟨rfl, hw⟩; rw [hw]; clear hw w')
  clear hq1 hq2 c0 c1
  cases q3
  · go_wp2_with (go_at_call 52; refine k1.mono ?_; rintro e w' ⟨rfl, hw⟩; rw [hw]; clear hw w')
    go_ret
    exact ⟨bool_eq (by rw [hV]; rfl), 0, rfl⟩
  cases q4
  · go_wp2_with (first | (go_at_call 52; refine k1.mono ?_; rintro e w' ⟨rfl, hw⟩; rw [hw]; clear hw w') | (go_at_call 52; refine k2.mono ?_; rintro e w' ⟨rfl, hw⟩; rw [hw]; clear hw w'))
    go_ret
    exact ⟨bool_eq (by rw [hV]; simp), 0, rfl⟩
  cases q5
  · go_wp2_with (first | (go_at_call 52; refine k1.mono ?_; rintro e w' ⟨rfl, hw⟩; rw [hw]; clear hw w') | (go_at_call 52; refine k2.mono ?_; rintro e w' ⟨rfl, hw⟩; rw [hw]; clear hw w') | (go_at_call 52; refine k3.mono ?_; rintro e w' ⟨rfl, hw⟩; rw [hw]; clear hw w'))
    go_ret
    exact ⟨bool_eq (by rw [hV]; simp), 0, rfl⟩
  go_wp2_with (first | (go_at_call 52; refine k1.mono ?_; rintro e w' ⟨rfl, hw⟩; rw [hw]; clear hw w') | (go_at_call 52; refine k2.mono ?_; rintro e w' ⟨rfl, hw⟩; rw [hw]; clear hw w') | (go_at_call 52; refine k3.mono ?_; rintro e w' ⟨rfl, hw⟩; rw [hw]; clear hw w'))
  clear k1 k2 k3
  have HV := Lib.hid hV
  clear hV
  go_loop [3] (fun i => ∃ k : Nat, k ≤ 64 ∧ i = .int .i64 k ∧ Hid (∀ j, j < k → flt (g.con j) 0 = false)) (fun i => 64 - (intOf i).toNat)
  case atStart => exact ⟨0, by omega, rfl, Lib.hid fun j hj => by omega⟩
  case round =>
    obtain ⟨k, hk, rfl, hq⟩ := hrel
    by_cases hlt : k < 64
    · have bk : (0 : Int) ≤ k := by omega
      have bl : (k : Int) < 64 := by omega
      have ck : w.cell? ⟨b, 2 + k, none⟩ = some (.float .f32 (g.con k)) := hb.getC k hlt
      have h1 := flt_eq (g.con k) 0
      cases hz : flt (g.con k) 0 <;> rw [hz] at h1
      · have HZ := Lib.hid hz
        clear hz
        go_wp2_with fail
        go_round
        case rel => exact ⟨k + 1, by omega, by go_num, Lib.hid (all_step hq.out HZ.out)⟩
        case measure => simp [intOf]; omega
      · have HZ := Lib.hid hz
        clear hz
        go_wp2_with fail
        go_ret
        exact ⟨bool_eq (by rw [HV.out]; unfold anyNeg; rw [anyTo_true (i := k) hlt HZ.out]; rfl), 0, rfl⟩
    · obtain rfl : k = 64 := by omega
      have hneg : anyNeg g.con = false := by unfold anyNeg; exact anyTo_false.2 hq.out
      have HN := Lib.hid hneg
      clear hneg
      cases hz : (g.fix != 0)
      · have HZ := Lib.hid hz
        go_wp2_with fail
        go_quiet (fail)
        go_wp2_with fail
        go_ret
        exact ⟨bool_eq (by rw [HV.out, HN.out]; unfold fixOk; rw [HZ.out]; rfl), _, rfl⟩
      · have HZ := Lib.hid hz
        go_wp2_with fail
        go_quiet ((go_at_call 53; exact Calls.quiet_of_same (hcs _)))
        go_wp2_with fail
        go_ret
        exact ⟨bool_eq (by rw [HV.out, HN.out]; unfold fixOk; rw [HZ.out]; rfl), _, rfl⟩
end Go.Proofs.YtcojgmgoiopboaaGreatDoor
/- Sizes of numbers: a narrow number made wide, its sign struck, made narrow again; and the same by a subtraction. Plain laws on words; no statement is proved here. -/
namespace Go.Proofs.YtcojgmgoiopboaaGreatDoor
open Go.ChangeShapes Go.WideShapes Go.ChangeAt Go.RowKit Ieee
set_option linter.unusedVariables false
set_option linter.unusedSimpArgs false

theorem log2_of {n k : Nat} (h1 : 2 ^ k ≤ n) (h2 : n < 2 ^ (k + 1)) : n.log2 = k := by
  have h0 : n ≠ 0 := by have := Nat.two_pow_pos k; omega
  have a := (Nat.le_log2 h0).2 h1
  have b := (Nat.log2_lt h0).2 h2
  omega
theorem log2_shl {n : Nat} (h0 : n ≠ 0) (k : Nat) : (n <<< k).log2 = n.log2 + k := by
  apply log2_of
  · rw [Nat.shiftLeft_eq, Nat.pow_add]; exact Nat.mul_le_mul_right _ (Nat.log2_self_le h0)
  · rw [Nat.shiftLeft_eq, show n.log2 + k + 1 = (n.log2 + 1) + k by omega, Nat.pow_add]; exact Nat.mul_lt_mul_of_pos_right Nat.lt_log2_self (Nat.two_pow_pos _)
/-- Digits that are all noughts are dropped without a trace. -/
theorem cut_shl (s : Bool) (n k : Nat) : Toward.even.cut s (n <<< k) k = n := by
  by_cases h0 : n = 0
  · subst h0
    unfold Toward.cut
    simp
  · unfold Toward.cut
    have hk : min k ((n <<< k).log2 + 2) = k := by rw [log2_shl h0]; omega
    simp only [hk]
    simp only [Nat.one_shiftLeft, Nat.shiftLeft_eq, Nat.mul_mod_left, Nat.mul_div_left _ (Nat.two_pow_pos k)]
    have := Nat.two_pow_pos k
    have h1 : (2 ^ k == 2 * 0) = false := by simp
    simp [h1, Nat.mul_div_cancel _ (Nat.two_pow_pos k)]
theorem nearest_of (f : Format) (s : Bool) (m : Nat) (e last : Int) (n : Nat) (h0 : m ≠ 0) (hl : max (e + m.log2 - f.fractionBits) f.leastPlace = last) (hk : Toward.even.cut s (m <<< (e - last).toNat) (last - e).toNat = n) :
    f.nearest s m e = f.word s (min ((last - f.leastPlace).toNat * f.binade + n) f.infRung) := by
  unfold Format.nearest
  rw [if_neg h0]
  simp only [hl, hk]
theorem binade_pos (f : Format) : 0 < f.binade := Nat.two_pow_pos _
/-- A number that a word stands for, written with more digits, is that word's again. -/
theorem nearest_word (f : Format) (hf : f.binade ≤ f.infRung) (b : Nat) (s s' : Bool) (m : Nat) (e : Int) (k : Nat) (h : f.read b = .number s m e) : f.nearest s' (m <<< k) (e - k) = f.word s' (b % f.signWeight) := by
  unfold Format.read at h
  generalize b % f.signWeight = r at *
  have hbp := binade_pos f
  have hb : f.binade = 2 ^ f.fractionBits := rfl
  by_cases h1 : r < f.binade
  · simp only [h1, if_true] at h
    injection h with _ hm he
    subst hm he
    by_cases h0 : r = 0
    · subst h0; simp [Format.nearest]
    · have hlog : r.log2 < f.fractionBits := (Nat.log2_lt h0).2 (by rw [← hb]; exact h1)
      rw [nearest_of f s' (r <<< k) (f.leastPlace - k) f.leastPlace r (by rw [Nat.shiftLeft_eq]; exact Nat.ne_of_gt (Nat.mul_pos (by omega) (Nat.two_pow_pos _))) (by rw [log2_shl h0]; omega) (by
        rw [show (f.leastPlace - (k : Int) - f.leastPlace).toNat = 0 by omega, show (f.leastPlace - (f.leastPlace - (k : Int))).toNat = k by omega, Nat.shiftLeft_zero]; exact cut_shl _ _ _)]
      rw [Int.sub_self]
      simp only [Int.toNat_zero, Nat.zero_mul, Nat.zero_add]
      rw [Nat.min_eq_left (by omega)]
  · by_cases h2 : r < f.infRung
    · simp only [h1, h2, if_true, if_false] at h
      injection h with _ hm he
      subst hm
      have hmod := Nat.mod_lt r hbp
      have hdm := Nat.div_add_mod r f.binade
      have hq : 1 ≤ r / f.binade := (Nat.le_div_iff_mul_le hbp).2 (by omega)
      have h0 : f.binade + r % f.binade ≠ 0 := by omega
      have hlog : (f.binade + r % f.binade).log2 = f.fractionBits := log2_of (by rw [← hb]; omega) (by rw [Nat.pow_succ, ← hb]; omega)
      rw [nearest_of f s' _ (e - k) e (f.binade + r % f.binade) (by rw [Nat.shiftLeft_eq]; exact Nat.ne_of_gt (Nat.mul_pos (by omega) (Nat.two_pow_pos _))) (by rw [log2_shl h0, hlog]; omega) (by
        rw [show (e - (k : Int) - e).toNat = 0 by omega, show (e - (e - (k : Int))).toNat = k by omega, Nat.shiftLeft_zero]; exact cut_shl _ _ _)]
      have e1 : (e - f.leastPlace).toNat = r / f.binade - 1 := by omega
      rw [e1]
      have e2 : (r / f.binade - 1) * f.binade + (f.binade + r % f.binade) = r := by
        have : (r / f.binade - 1) * f.binade + f.binade = r / f.binade * f.binade := by
          rw [← Nat.succ_mul]; congr 1; omega
        rw [Nat.mul_comm] at hdm
        omega
      rw [e2, Nat.min_eq_left (by omega)]
    · simp only [h1, h2, if_false] at h
      split at h <;> cases h
theorem single_facts : single.binade = 8388608 ∧ single.infRung = 2139095040 ∧ single.leastPlace = -149 ∧ single.signWeight = 2147483648 ∧ single.fractionBits = 23 := by decide
theorem double_facts : double.binade = 4503599627370496 ∧ double.infRung = 9218868437227405312 ∧ double.leastPlace = -1074 ∧ double.signWeight = 9223372036854775808 ∧ double.fractionBits = 52 := by decide

/-- The word of a sign and a rung, read. -/
theorem read_word (f : Format) (s : Bool) (r : Nat) (h : r < f.signWeight) : f.read (f.word s r) = (if r < f.binade then .number s r f.leastPlace else if r < f.infRung then .number s (f.binade + r % f.binade) (f.leastPlace + (r / f.binade - 1 : Nat)) else if r = f.infRung then .infinity s else .nan s (r - f.infRung)) := by
  unfold Format.read
  rw [word_mod f s r h]
  have hs : (f.word s r / f.signWeight % 2 == 1) = s := by
    have hp : 0 < f.signWeight := Nat.two_pow_pos _
    unfold Format.word
    cases s
    · simp [Nat.div_eq_of_lt h]
    · simp only [if_true]
      rw [show (f.signWeight + r) / f.signWeight = 1 by rw [Nat.add_div_left _ hp, Nat.div_eq_of_lt h]]
      rfl
  simp only [hs]

/-- What a narrow number's bits can be. -/
theorem single_range {b : Nat} {s : Bool} {m : Nat} {e : Int} (h : single.read b = .number s m e) : m < 16777216 ∧ -149 ≤ e ∧ e ≤ 104 := by
  unfold Format.read at h
  obtain ⟨hb, hi, hl, hs, hf⟩ := single_facts
  generalize b % single.signWeight = r at h
  simp only [hb, hi, hl] at h
  by_cases h1 : r < 8388608
  · simp only [h1, if_true] at h
    injection h with _ h2 h3
    omega
  · by_cases h2 : r < 2139095040
    · simp only [h1, h2, if_true, if_false] at h
      injection h with _ h3 h4
      omega
    · simp only [h1, h2, if_false] at h
      split at h <;> cases h

/-- A narrow number that is none of the NaNs, made wide, read. -/
theorem read_widen {b : Nat} {s : Bool} {m : Nat} {e : Int} (h : single.read b = .number s m e) (h0 : m ≠ 0) :
    ∃ r, double.nearest s m e = double.word s r ∧ r < double.infRung ∧ double.read (double.word s r) = .number s (m <<< (52 - m.log2)) (e - (52 - m.log2 : Nat)) := by
  obtain ⟨h1, h2, h3⟩ := single_range h
  obtain ⟨hb, hi, hl, hs, hf⟩ := double_facts
  have hL : m.log2 < 24 := (Nat.log2_lt h0).2 (by omega)
  have hlast : max (e + (m.log2 : Int) - (double.fractionBits : Int)) double.leastPlace = e - (52 - m.log2 : Nat) := by rw [hf, hl]; omega
  have hm1 : 2 ^ 52 ≤ m <<< (52 - m.log2) := by
    rw [Nat.shiftLeft_eq]
    calc 2 ^ 52 = 2 ^ m.log2 * 2 ^ (52 - m.log2) := by rw [← Nat.pow_add]; congr 1; omega
      _ ≤ m * 2 ^ (52 - m.log2) := Nat.mul_le_mul_right _ (Nat.log2_self_le h0)
  have hm2 : m <<< (52 - m.log2) < 2 ^ 53 := by
    rw [Nat.shiftLeft_eq]
    calc m * 2 ^ (52 - m.log2) < 2 ^ (m.log2 + 1) * 2 ^ (52 - m.log2) := Nat.mul_lt_mul_of_pos_right Nat.lt_log2_self (Nat.two_pow_pos _)
      _ = 2 ^ 53 := by rw [← Nat.pow_add]; congr 1; omega
  have hn := nearest_of double s m e (e - (52 - m.log2 : Nat)) (m <<< (52 - m.log2)) h0 hlast (by
    rw [show (e - (e - ((52 - m.log2 : Nat) : Int))).toNat = 52 - m.log2 by omega, show (e - ((52 - m.log2 : Nat) : Int) - e).toNat = 0 by omega]
    have := cut_shl s (m <<< (52 - m.log2)) 0
    simpa using this)
  generalize hM : m <<< (52 - m.log2) = M at *
  obtain ⟨q, hq⟩ : ∃ q : Nat, (e - ((52 - m.log2 : Nat) : Int) - double.leastPlace).toNat = q := ⟨_, rfl⟩
  rw [hq, hb, hi] at hn
  rw [hl] at hq
  have hq2 : q ≤ 1200 := by omega
  simp only [Nat.reducePow] at hm1 hm2
  rw [Nat.min_eq_left (by omega)] at hn
  refine ⟨q * 4503599627370496 + M, hn, by rw [hi]; omega, ?_⟩
  rw [read_word _ _ _ (by rw [hs]; omega), hb, hi, hl]
  rw [if_neg (by omega), if_pos (by omega)]
  have d1 : (q * 4503599627370496 + M) / 4503599627370496 = q + 1 := by omega
  have d2 : (q * 4503599627370496 + M) % 4503599627370496 = M - 4503599627370496 := by omega
  rw [d1, d2, show 4503599627370496 + (M - 4503599627370496) = M by omega, show (-1074 : Int) + ((q + 1 - 1 : Nat) : Int) = e - ((52 - m.log2 : Nat) : Int) by omega]
/-- A number with its sign struck. -/
def fab (b : Nat) : Nat := b % 2147483648
theorem fab_word (s : Bool) (r : Nat) (h : r < 2147483648) : fab (single.word s r) = r := by
  have := word_mod single s r (by rw [single_facts.2.2.2.1]; exact h)
  rw [single_facts.2.2.2.1] at this
  exact this
theorem single_inf {b : Nat} {s : Bool} (h : single.read b = .infinity s) : fab b = 2139095040 := by
  unfold Format.read at h
  obtain ⟨hb, hi, hl, hs, hf⟩ := single_facts
  unfold fab
  rw [hs] at h
  generalize b % 2147483648 = r at *
  simp only [hb, hi, hl] at h
  split at h
  · cases h
  · split at h
    · cases h
    · split at h
      · assumption
      · cases h
theorem zero_mag {b : Nat} {s : Bool} {e : Int} (h : single.read b = .number s 0 e) : fab b = 0 := by
  unfold Format.read at h
  obtain ⟨hb, hi, hl, hs, hf⟩ := single_facts
  unfold fab
  rw [hs] at h
  generalize b % 2147483648 = r at *
  simp only [hb, hi, hl] at h
  split at h
  · injection h
  · split at h
    · injection h with _ h2; omega
    · split at h <;> cases h

/-- 'float32(math.Abs(float64(a)))': the sign is struck. -/
theorem narrow_abs (b : Nat) (h : isN .f32 b = false) : floatToFloatBits .f64 (widen b % 9223372036854775808) .f32 = some (fab b) := by
  unfold floatToFloatBits
  rw [if_neg (by decide)]
  unfold widen
  rw [h]
  simp only [Bool.false_eq_true, if_false]
  unfold isN at h
  show (match FloatKind.f64.decode (FloatKind.f64.encode (single.read b) % 9223372036854775808) with | .nan _ _ => none | .infinity s => some (FloatKind.f32.encode (.infinity s)) | .number s m e => _) = _
  have hr0 : ∀ (s : Bool) (r : Nat), r < 9223372036854775808 → double.word s r % 9223372036854775808 = double.word false r := fun s r hr => by
    have := word_mod double s r (by rw [double_facts.2.2.2.1]; exact hr)
    rw [double_facts.2.2.2.1] at this
    rw [this]; rfl
  have h' : (single.read b).isNaN = false := h
  cases hr : single.read b with
  | nan s f => rw [hr] at h'; cases h'
  | infinity s =>
    have e1 : FloatKind.f64.encode (.infinity s) % 9223372036854775808 = double.word false double.infRung := hr0 s double.infRung (by rw [double_facts.2.1]; omega)
    rw [e1]
    have e2 : FloatKind.f64.decode (double.word false double.infRung) = .infinity false := by decide
    simp only [e2]
    rw [single_inf hr]
    rfl
  | number s m e =>
    by_cases h0 : m = 0
    · subst h0
      have e1 : FloatKind.f64.encode (.number s 0 e) % 9223372036854775808 = double.word false 0 := by
        show double.nearest s 0 e % _ = _
        rw [show double.nearest s 0 e = double.word s 0 by simp [Format.nearest]]
        exact hr0 s 0 (by omega)
      rw [e1]
      have e2 : FloatKind.f64.decode (double.word false 0) = .number false 0 (-1074) := by decide
      simp only [e2]
      rw [zero_mag hr]
      decide
    · obtain ⟨r, h1, h2, h3⟩ := read_widen hr h0
      have e1 : FloatKind.f64.encode (.number s m e) % 9223372036854775808 = double.word false r := by
        show double.nearest s m e % _ = _
        rw [h1]; exact hr0 s r (by rw [double_facts.2.1] at h2; omega)
      rw [e1]
      have e2 : FloatKind.f64.decode (double.word false r) = .number false (m <<< (52 - m.log2)) (e - (52 - m.log2 : Nat)) := by
        show double.read (double.word false r) = _
        rw [read_word _ _ _ (by have := double_facts.2.1; have := double_facts.2.2.2.1; omega)] at h3 ⊢
        split at h3
        · rename_i hlt; rw [if_pos hlt]; injection h3 with _ a b; rw [a, b]
        · rename_i hlt; rw [if_neg hlt, if_pos h2]; injection h3 with _ a b; rw [a, b]
      simp only [e2]
      have e3 : FloatKind.f32.encode (.number false (m <<< (52 - m.log2)) (e - (52 - m.log2 : Nat))) = single.word false (b % single.signWeight) := nearest_word single (by decide) b s false m e _ hr
      rw [e3]
      have e4 : single.word false (b % single.signWeight) = fab b := by rw [single_facts.2.2.2.1]; rfl
      rw [e4]
      have e5 : (FloatKind.f32.decode (fab b)).isInfinity = false := by
        show (single.read (fab b)).isInfinity = false
        unfold Format.read at hr ⊢
        have e6 : fab b % single.signWeight = b % single.signWeight := by rw [single_facts.2.2.2.1]; unfold fab; omega
        rw [e6]
        generalize b % single.signWeight = q at *
        simp only at hr ⊢
        split
        · rfl
        · split
          · rfl
          · rename_i q1 q2
            rw [if_neg q1, if_neg q2] at hr
            split at hr <;> cases hr
      rw [e5]; rfl
end Go.Proofs.YtcojgmgoiopboaaGreatDoor
/- Numbers of single precision: plain laws; no statement is proved here. -/
namespace Go.Proofs.YtcojgmgoiopboaaGreatDoor
open Go.ChangeShapes Go.WideShapes Go.ChangeAt Go.RowKit Ieee
set_option linter.unusedVariables false
set_option linter.unusedSimpArgs false

theorem run_widen_numW {P : Program} (src dst : TypeId) (b : Nat) (hs : P.underlying src = some (.float .f32)) (hd : P.underlying dst = some (.float .f64)) (h : isN .f32 b = false) (w : World) : (convert src dst (.float .f32 b)).run P w = .ok (.float .f64 (widen b)) w := by
  rw [run_convert_widen w src dst b hs hd]
  have h1 : fwid b w = widen b := by unfold fwid; rw [h]; rfl
  have h2 : wcnt b = 0 := by unfold wcnt; rw [h]; rfl
  rw [h1, h2, World.drewN_zero]
theorem read_f32W (b : Nat) : FloatKind.f32.format.read b = single.read b := rfl
theorem isN_wordW (s : Bool) (r : Nat) (h : r ≤ 2139095040) : isN .f32 (single.word s r) = false := by
  obtain ⟨hb, hi, hl, hs, hf⟩ := single_facts
  unfold isN
  rw [read_f32W, read_word _ _ _ (by rw [hs]; omega), hb, hi, hl]
  split
  · rfl
  · split
    · rfl
    · rw [if_pos (by omega)]; rfl
theorem isN_nearestW (s : Bool) (m : Nat) (e : Int) : isN .f32 (single.nearest s m e) = false := by
  unfold Format.nearest
  split
  · exact isN_wordW _ _ (by omega)
  · exact isN_wordW _ _ (Nat.min_le_right _ _)
theorem plain_numW {a : Nat} (h : plain a = true) : isN .f32 a = false := by
  unfold plain at h; exact fge_num (Bool.and_eq_true_iff.1 h).1
end Go.Proofs.YtcojgmgoiopboaaGreatDoor
