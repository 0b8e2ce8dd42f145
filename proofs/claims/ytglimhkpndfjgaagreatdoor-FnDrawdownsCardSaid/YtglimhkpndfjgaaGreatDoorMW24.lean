import Derived.Test.YtglimhkpndfjgaaGreatDoorMW23
import Derived.Test.YtglimhkpndfjgaaGreatDoorMW12
import Derived.Test.YtglimhkpndfjgaaGreatDoorMW06
import Derived.Test.YtglimhkpndfjgaaGreatDoorMW08
import Derived.Test.YtglimhkpndfjgaaGreatDoorMW15
import Derived.Test.YtglimhkpndfjgaaGreatDoorMW21
/- The strongest well: both walks. -/
namespace Go.Proofs.YtglimhkpndfjgaaGreatDoor
open Go.ChangeShapes Go.WideShapes Go.ChangeAt Go.RowKit
set_option linter.unusedVariables false
set_option linter.unusedSimpArgs false
attribute [local irreducible] Calls
theorem fgt_fab {a b : Nat} (ha : Mg a 240) (hb : Mg b 240) : fgt (fab a) (fab b) = decide (b % 2147483648 < a % 2147483648) := fgt_fin (ha.fin (by omega)) (hb.fin (by omega))
theorem bestTo_step (F : Nat → Nat) (k : Nat) (hk : 0 < k) : bestTo F (k + 1) = if F (bestTo F k) % 2147483648 < F k % 2147483648 then k else bestTo F k := by
  rw [bestTo, if_neg (by omega)]
set_option maxRecDepth 100000 in
set_option maxHeartbeats 1000000 in
theorem strongest_any (g : Nat) (v : Value) (n : Nat) (F : Nat → Nat) (hn : n ≤ 12) (hF : ∀ i, i < n → Mg (F i) 240) (w : World) (hO : Own w g 24 1 v n (fls n F)) :
    Calls Tryz.prog 81 #[v] w fun e w' => e = .returned (.int .i64 (if n = 0 then -1 else (bestTo F n : Nat))) ∧ ∃ k, w' = w.drewN k := by
  obtain ⟨R, hR⟩ : ∃ R, (if n = 0 then (-1 : Int) else (bestTo F n : Nat)) = R := ⟨_, rfl⟩
  rw [hR]
  obtain ⟨c, rfl, hc1, hc2⟩ := hO.form
  unfold maxLen at hc2
  have hcl : ∀ i, i < n → w.cell? ⟨g, i, none⟩ = some (.float .f32 (F i)) := fun i hi => (hO.cell i (by omega)).trans (fls_get n F i hi)
  have HC := Lib.hid hcl
  have HF := Lib.hid hF
  clear hcl hF hO
  go_enter Tryz.func81, Tryz.ntmps81
  go_wp2_with fail
  go_loopw [3, 8] (fun b i wr => ∃ k : Nat, k ≤ n ∧ i = .int .i64 k ∧ b = .int .i64 (if k = 0 then -1 else (bestTo F k : Nat)) ∧ ∃ m, wr = w.drewN m) (fun _ i _ => n - (intOf i).toNat)
  case atStart => exact ⟨0, by omega, rfl, rfl, 0, rfl⟩
  case round =>
    obtain ⟨k, hk, rfl, rfl, m, rfl⟩ := hrel
    have bk : (0 : Int) ≤ k := by omega
    by_cases hlt : k < n
    · have bl : (k : Int) < n := by omega
      have e0 := HC.out k hlt
      by_cases hk0 : k = 0
      · subst hk0
        rw [if_pos rfl]
        go_wp2_with fail
        go_quiet (fail)
        go_wp2_with fail
        go_roundw
        case rel => exact ⟨1, by omega, by go_num, rfl, _, rfl⟩
        case measure => simp [intOf]; omega
      · rw [if_neg hk0]
        have hb := bestTo_lt F k (by omega)
        have hstep := bestTo_step F k (by omega)
        have e1 := HC.out (bestTo F k) (by omega)
        have m0 := HF.out k hlt
        have m1 := HF.out (bestTo F k) (by omega)
        have hs1 := fun w' => size_any (F k) (m0.num (by omega)) w'
        have hs2 := fun w' => size_any (F (bestTo F k)) (m1.num (by omega)) w'
        have hcmp := fgt_eq (fab (F k)) (fab (F (bestTo F k)))
        rw [fgt_fab m0 m1] at hcmp
        by_cases hgt : F (bestTo F k) % 2147483648 < F k % 2147483648
        · rw [if_pos hgt] at hstep
          rw [decide_eq_true hgt] at hcmp
          clear m0 m1 hgt
          obtain ⟨b, hbb⟩ : ∃ b, bestTo F k = b := ⟨_, rfl⟩
          rw [hbb] at hb e1 hs2 hcmp ⊢
          have bb : (0 : Int) ≤ b := by omega
          have bb2 : (b : Int) < n := by omega
          clear hbb
          have e0 : (w.drewN m).cell? ⟨g, k, none⟩ = some (.float .f32 (F k)) := e0
          have e1 : (w.drewN m).cell? ⟨g, b, none⟩ = some (.float .f32 (F b)) := e1
          generalize hW : w.drewN m = W at *
          go_wp2_with fail
          go_quiet ((go_at_call 134; first | exact Calls.quiet_of_same (hs1 _) | exact Calls.quiet_of_same (hs2 _)))
          go_wp2_with fail
          go_roundw
          case rel => exact ⟨k + 1, by omega, by go_num, by rw [if_neg (by omega), hstep], _, by rw [← hW]; exact World.drewN_drewN _ _ _⟩
          case measure => simp [intOf]; omega
        · rw [if_neg hgt] at hstep
          rw [decide_eq_false hgt] at hcmp
          clear m0 m1 hgt
          obtain ⟨b, hbb⟩ : ∃ b, bestTo F k = b := ⟨_, rfl⟩
          rw [hbb] at hb e1 hs2 hcmp hstep ⊢
          have bb : (0 : Int) ≤ b := by omega
          have bb2 : (b : Int) < n := by omega
          clear hbb
          have e0 : (w.drewN m).cell? ⟨g, k, none⟩ = some (.float .f32 (F k)) := e0
          have e1 : (w.drewN m).cell? ⟨g, b, none⟩ = some (.float .f32 (F b)) := e1
          generalize hW : w.drewN m = W at *
          go_wp2_with fail
          go_quiet ((go_at_call 134; first | exact Calls.quiet_of_same (hs1 _) | exact Calls.quiet_of_same (hs2 _)))
          go_wp2_with fail
          go_roundw
          case rel => exact ⟨k + 1, by omega, by go_num, by rw [if_neg (by omega), hstep], _, by rw [← hW]; exact World.drewN_drewN _ _ _⟩
          case measure => simp [intOf]; omega
    · obtain rfl : k = n := by omega
      rw [hR]
      clear hR
      go_wp2_with fail
      go_ret
      exact ⟨rfl, m, rfl⟩
/-- What the strongest well is told with. -/
def bestR (n : Nat) (F : Nat → Nat) : Value := if n = 0 then .tuple #[.int .i64 0, .float .f32 0, .int .i64 6] else .tuple #[.int .i64 (bestTo F n : Nat), .float .f32 (F (bestTo F n)), .int .i64 0]
set_option maxRecDepth 100000 in
set_option maxHeartbeats 1000000 in
theorem strongestWell_any (T S : Nat) (hA : AqD T S) (n : Nat) (hn : n ≤ 12) (P : Nat → Wl) (hP : ∀ i, i < n → WlD (P i)) (v : Value) (x y : Int) (hx : 0 ≤ x ∧ x ≤ 7) (hy : 0 ≤ y ∧ y ≤ 7) (time : Nat) (h1 : 1 ≤ time) (h2 : time ≤ 100000) (w : World) (hv : LSl w v n P) :
    Calls Tryz.prog 28 #[.agg #[.float .f32 T, .float .f32 S], v, .int .i64 x, .int .i64 y, .int .i64 time] w fun e w' => e = .returned (bestR n (ddF T S P x y time)) ∧ Below w.heap.size w w' := by
  have hA0 := (Blk.new w #[.float .f32 T, .float .f32 S] 26)
  have hbel := below1 w (.cells #[.float .f32 T, .float .f32 S] 26)
  have hv := hv.below hbel
  have hmf := fun w' u hv' hu' => momentsFault_any T S hA.ok n hn P hP v x y (by omega) (by omega) 1 (fun _ => (time : Int)) (fun i hi => by omega) u w' hv' hu'
  have hdd := fun w' hv' => drawdowns_any T S hA.aq n hn P hP v x y hx hy time h1 h2 w' hv'
  have hm := ddF_mg hA.aq hP hx hy h1 h2
  generalize ddF T S P x y time = F at *
  have hst := fun g v w' hO => strongest_any g v n F hn hm w' hO
  clear hP hm
  have hlt := bestTo_lt F n
  by_cases h0 : n = 0
  · subst h0
    rw [if_pos rfl] at hst
    have hR : bestR 0 F = .tuple #[.int .i64 0, .float .f32 0, .int .i64 6] := rfl
    rw [hR]
    clear hR hlt
    go_enter Tryz.func28, Tryz.ntmps28
    go_upto_region 1 with fail
    generalize w.alloc (.cells #[.float .f32 T, .float .f32 S] 26) = W at *
    have hA1 := hA0.alloc (.cells #[.int .i64 time] 2)
    have hu := isl_one (Blk.new W #[.int .i64 (time : Int)] 2)
    have hv1 := hv.below (below1 W (.cells #[.int .i64 time] 2))
    have hb1 := hbel.alloc hbel.size (.cells #[.int .i64 time] 2)
    go_upto_region 2 with (first | (refine wpList_load_blk rfl rfl rfl rowAq hA0 rfl ?_) | (go_at_call 65; refine (hmf _ _ hv1 hu).mono ?_; rintro e w2 ⟨rfl, hb2⟩; replace hv := hv1.below hb2; replace hA1 := hA1.below hb2 hA1.lt; replace hb1 := hb1.trans (hb2.mono hb1.size)))
    go_wp2_with (first | (refine wpList_load_blk rfl rfl rfl rowAq hA1 rfl ?_) | (go_at_call 66; refine (hdd _ hv).mono ?_; rintro e w3 ⟨v', g, rfl, hg, hO, hb3⟩) | (go_at_call 81; refine (hst _ _ _ hO).mono ?_; rintro e w' ⟨rfl, kk, rfl⟩))
    go_ret3
    exact ⟨rfl, below_drewN (hb1.trans (hb3.mono hb1.size)) _⟩
  · rw [if_neg h0] at hst
    have hR : bestR n F = .tuple #[.int .i64 (bestTo F n : Nat), .float .f32 (F (bestTo F n)), .int .i64 0] := by unfold bestR; rw [if_neg h0]
    rw [hR]
    have hlt := hlt (by omega)
    clear hR
    obtain ⟨b, hb⟩ : ∃ b, bestTo F n = b := ⟨_, rfl⟩
    rw [hb] at hst hlt ⊢
    clear hb
    have bb : (0 : Int) ≤ b := by omega
    have bb2 : (b : Int) < n := by omega
    go_enter Tryz.func28, Tryz.ntmps28
    go_upto_region 1 with fail
    generalize w.alloc (.cells #[.float .f32 T, .float .f32 S] 26) = W at *
    have hA1 := hA0.alloc (.cells #[.int .i64 time] 2)
    have hu := isl_one (Blk.new W #[.int .i64 (time : Int)] 2)
    have hv1 := hv.below (below1 W (.cells #[.int .i64 time] 2))
    have hb1 := hbel.alloc hbel.size (.cells #[.int .i64 time] 2)
    go_upto_region 2 with (first | (refine wpList_load_blk rfl rfl rfl rowAq hA0 rfl ?_) | (go_at_call 65; refine (hmf _ _ hv1 hu).mono ?_; rintro e w2 ⟨rfl, hb2⟩; replace hv := hv1.below hb2; replace hA1 := hA1.below hb2 hA1.lt; replace hb1 := hb1.trans (hb2.mono hb1.size)))
    go_upto_region 5 with (first | (refine wpList_load_blk rfl rfl rfl rowAq hA1 rfl ?_) | (go_at_call 66; refine (hdd _ hv).mono ?_; rintro e w3 ⟨v', g, rfl, hg, hO, hb3⟩))
    obtain ⟨c, rfl, hc1, hc2⟩ := hO.form
    have e0 : w3.cell? ⟨g, b, none⟩ = some (.float .f32 (F b)) := (hO.cell b (by omega)).trans (fls_get n F b hlt)
    go_upto_region 8 with (go_at_call 81; refine (hst _ _ _ hO).mono ?_; rintro e w' ⟨rfl, kk, rfl⟩)
    have e0 : (w3.drewN kk).cell? ⟨g, b, none⟩ = some (.float .f32 (F b)) := e0
    have hb4 := below_drewN (hb1.trans (hb3.mono hb1.size)) kk
    generalize w3.drewN kk = W4 at *
    go_quiet (fail)
    go_wp2_with fail
    go_ret3
    exact ⟨rfl, below_drewN hb4 _⟩
end Go.Proofs.YtglimhkpndfjgaaGreatDoor
/- The head of a tide at an hour, in the program and in the reference, up to the bits of a number that is none. -/
namespace Go.Proofs.YtglimhkpndfjgaaGreatDoor
open Go.ChangeShapes Go.WideShapes Go.ChangeAt Go.RowKit
set_option linter.unusedVariables false
set_option linter.unusedSimpArgs false
attribute [local irreducible] Calls
/-- The first part of a product. -/
def reT (a b c d : Nat) : Nat := fop .sub (fop .mul a c) (fop .mul b d)
/-- The head at an hour. -/
def headT (m a b : Nat) (h : Int) : Nat := fop .add m (reT a b (cosT (h % 12).toNat) (sinT (h % 12).toNat))
theorem cn_headT (m a b : Nat) (h : Int) : cn (headT m a b h) = headT m a b h := cn_fop _ _ _
theorem cn_reT (a b c d : Nat) : cn (reT a b c d) = reT a b c d := cn_fop _ _ _
end Go.Proofs.YtglimhkpndfjgaaGreatDoor
/- A tide step, in the program ((*Ground).tide) and in the reference (l06Tidal). -/
namespace Go.Proofs.YtglimhkpndfjgaaGreatDoor
open Go.ChangeShapes Go.WideShapes Go.ChangeAt Go.RowKit
set_option linter.unusedVariables false
set_option linter.unusedSimpArgs false
/-! ### A fixed cell is a cell. -/
theorem bv_pow {k i : Nat} (hk : k < 64) (hi : i < 64) : (bv (IntKind.u64.wrap (2 ^ k))).getLsbD i = decide (i = k) := by
  have h1 : (2 : Int) ^ k = ((2 ^ k : Nat) : Int) := by simp
  have h2 : (2 : Nat) ^ k < 2 ^ 64 := Nat.pow_lt_pow_right (by decide) hk
  have h3 : ∀ x : Nat, x < 2 ^ 64 → IntKind.u64.wrap (x : Int) = (x : Int) := fun x hx => by rw [IntKind.wrap_u64]; omega
  have h3 := h3 _ h2
  rw [h1, h3]
  unfold bv
  rw [BitVec.ofInt_natCast, BitVec.getLsbD_ofNat, decide_eq_true hi, Bool.true_and, Nat.testBit_two_pow]
  by_cases h : k = i
  · subst h; simp
  · simp [h, Ne.symm h]
theorem mask_lsb : ∀ (L : List Nat) (x : Int) (i : Nat), (∀ k, k ∈ L → k < 64) → i < 64 → (bv (L.foldl orB x)).getLsbD i = ((bv x).getLsbD i || decide (i ∈ L))
  | [], x, i, _, _ => by simp
  | k :: L, x, i, h, hi => by
    rw [List.foldl_cons, mask_lsb L _ i (fun j hj => h j (List.mem_cons_of_mem _ hj)) hi, orB_bv, bv_nat, BitVec.getLsbD_or, bv_pow (h k List.mem_cons_self) hi]
    simp [Bool.or_assoc]
theorem fx_lsb {g : Gr} (hg : g.ok) {k : Nat} (hk : k < 64) : isFx g k = (bv g.fix).getLsbD k := by
  obtain ⟨n, hn⟩ : ∃ n : Nat, (n : Int) = g.fix := ⟨g.fix.toNat, by have := hg.fix; omega⟩
  have hlt : n < 18446744073709551616 := by have := hg.fix; omega
  unfold isFx bv
  rw [← hn, BitVec.ofInt_natCast, BitVec.getLsbD_ofNat, decide_eq_true hk, Bool.true_and, Nat.testBit_eq_decide_div_mod_eq]
  have e : (n : Int) / 2 ^ k % 2 = ((n / 2 ^ k % 2 : Nat) : Int) := by simp
  rw [e]
  by_cases h : n / 2 ^ k % 2 = 1
  · simp [h]
  · have : n / 2 ^ k % 2 = 0 := by omega
    simp [this]
theorem fx_cell {g : Gr} (hg : g.ok) (hv : validG g = true) {k : Nat} (hk : k < 64) (h : isFx g k = true) : isC g k = true := by
  have hf := (validG_parts hv).2.2.2.2.2
  unfold fixOk at hf
  rw [Bool.and_eq_true] at hf
  have h1 := lsb_and (andNot_zero.1 hf.2) k hk
  rw [← fx_lsb hg hk, h, Bool.true_and] at h1
  unfold maskOf at h1
  rw [mask_lsb _ _ _ (fun j hj => (cellsTo_mem.1 hj).1) hk] at h1
  have h2 : (bv 0).getLsbD k = false := by unfold bv; simp
  rw [h2, Bool.false_or, Bool.not_eq_false', decide_eq_true_eq] at h1
  exact (cellsTo_mem.1 h1).2
/-- The heads with a tide at the fixed cells. -/
def tidH (g : Gr) (H : Nat) (k : Nat) : Nat := if (decide (k < 64) && isC g k) && isFx g k then H else g.hea k
def tidG (g : Gr) (H : Nat) : Gr := { g with hea := tidH g H }
/-- What a tide step gives. -/
def tidR (g : Gr) (H part : Nat) : Gr := if plain H then stepR (tidG g H) part else zeroG
def tidC (g : Gr) (H part : Nat) : Int := if plain H then stepC (tidG g H) part else 4
/-- .. up to some of the cells. -/
def tidA (g : Gr) (H : Nat) (L : List Nat) (k : Nat) : Nat := if decide (k ∈ L) && isFx g k then H else g.hea k
theorem tidA_nil (g : Gr) (H : Nat) : tidA g H [] = g.hea := by funext k; simp [tidA]
theorem tidA_snoc (g : Gr) (H : Nat) (L : List Nat) (k : Nat) (h : isFx g k = true) : tidA g H (L ++ [k]) = upd (tidA g H L) k H := by
  funext i
  unfold upd tidA
  by_cases hik : i = k
  · subst hik; simp [h]
  · rw [if_neg hik]; simp [hik]
theorem tidA_stay (g : Gr) (H : Nat) (L : List Nat) (k : Nat) (h : isFx g k = false) : tidA g H (L ++ [k]) = tidA g H L := by
  funext i
  unfold tidA
  by_cases hik : i = k
  · subst hik; simp [h]
  · simp [hik]
theorem tidA_all (g : Gr) (H : Nat) : tidA g H (cellsTo g 64) = tidH g H := by
  funext i
  unfold tidA tidH
  have : decide (i ∈ cellsTo g 64) = (decide (i < 64) && isC g i) := by
    rw [Bool.eq_iff_iff]
    simp [cellsTo_mem]
  rw [this]
def tidB (g : Gr) (H : Nat) (j k : Nat) : Nat := if decide (k < j) && isFx g k then H else g.hea k
theorem tidB_zero (g : Gr) (H : Nat) : tidB g H 0 = g.hea := by funext k; simp [tidB]
theorem tidB_set (g : Gr) (H : Nat) (j : Nat) (h : isFx g j = true) : tidB g H (j + 1) = upd (tidB g H j) j H := by
  funext i
  unfold upd tidB
  by_cases hik : i = j
  · subst hik; simp [h]
  · rw [if_neg hik]
    have : decide (i < j + 1) = decide (i < j) := by by_cases h : i < j <;> simp [h] <;> omega
    rw [this]
theorem tidB_stay (g : Gr) (H : Nat) (j : Nat) (h : isFx g j = false) : tidB g H (j + 1) = tidB g H j := by
  funext i
  unfold tidB
  by_cases hik : i = j
  · subst hik; simp [h]
  · have : decide (i < j + 1) = decide (i < j) := by by_cases h : i < j <;> simp [h] <;> omega
    rw [this]
theorem tidB_all {g : Gr} (hg : g.ok) (hv : validG g = true) (H : Nat) : tidB g H 64 = tidH g H := by
  funext i
  unfold tidB tidH
  by_cases hi : i < 64
  · cases hf : isFx g i
    · simp
    · rw [fx_cell hg hv hi hf]; simp
  · simp [hi]
attribute [local irreducible] Calls
section
variable {P : Program}
theorem alloc_run {ev : Operand → Value} {w : World} {t : TypeId} {Z : Array Value} {pos : String} {dst : Option Tmp} {tt : TypeId} {af : Array Edge} {gd : Option (Nat × Bool)} (hz : ZeroTy P t Z) : (execOp ev { dst := dst, op := .alloc t, type := tt, pos := pos, after := af, guard := gd }).run P w = .ok (.value (.pointer (some ⟨w.heap.size, 0, none⟩))) (w.alloc (.cells Z t)) := by
  unfold ZeroTy at hz
  cases hq : P.info? t with
  | none => simp [hq] at hz
  | some i =>
    have hz' : i.zero = some (.agg Z) := by simpa [hq] using hz
    have hr : (Instr.alloc t true (.tuple #[])).run P w = .ok (.pointer (some ⟨w.heap.size, 0, none⟩)) (w.alloc (.cells Z t)) := by
      simp [Instr.alloc, zeroValue, typeInfo, hq, hz', newVar, newRow, Value.cells]
    simp [execOp, hr]
theorem load_gat {ev : Operand → Value} {w : World} {ty : TypeId} {x : Operand} {b : Nat} {g : Gr} {pos : String} {dst : Option Tmp} {tt : TypeId} {af : Array Edge} {gd : Option (Nat × Bool)} (hx : ev x = .pointer (some ⟨b, 0, none⟩)) (hr : RowTy P ty 195) (hb : GAt w b g) : (execOp ev { dst := dst, op := .load ty x, type := tt, pos := pos, after := af, guard := gd }).run P w = .ok (.value (.agg g.cells)) w := by
  obtain ⟨d, hu, hd, hi⟩ := hr
  have hl := run_loadVar_mid (P := P) w b 0 ty g.cells.toList d (fun j u hj => by
    have hj2 : j < 195 := by
      rcases Nat.lt_or_ge j g.cells.toList.length with h2 | h2
      · simpa [g.size] using h2
      · rw [List.getElem?_eq_none h2] at hj; cases hj
    have := hb.mem j hj2
    rw [Array.getElem?_toList, g.get j hj2] at hj
    rw [Nat.zero_add, this, hj]) hu hd (by rw [hi]; simp [g.size])
  rw [Array.toArray_toList] at hl
  simp [execOp, hx, Instr.loadAt, Instr.sureAddr, hl]
end
end Go.Proofs.YtglimhkpndfjgaaGreatDoor
/- TideStep and TideRun where all is valid, in the program and in the reference. -/
namespace Go.Proofs.YtglimhkpndfjgaaGreatDoor
open Go.ChangeShapes Go.WideShapes Go.ChangeAt Go.RowKit
set_option linter.unusedVariables false
set_option linter.unusedSimpArgs false
attribute [local irreducible] Calls
/-- A ground and the numbers of a tide, all valid. -/
structure TOk (g : Gr) (m a b part : Nat) : Prop where
  ok : g.ok
  valid : validG g = true
  pm : plain m = true
  pa : plain a = true
  pb : plain b = true
  pp : plain part = true
theorem hour_in {h : Int} (h0 : 0 ≤ h) (h1 : h ≤ 100000) : (decide (0 ≤ h) && decide (h ≤ 100000)) = true := by simp; omega
end Go.Proofs.YtglimhkpndfjgaaGreatDoor
/- Tide steps one after the other, with what is seen behind each (tides), and TideRun. -/
namespace Go.Proofs.YtglimhkpndfjgaaGreatDoor
open Go.ChangeShapes Go.WideShapes Go.ChangeAt Go.RowKit
set_option linter.unusedVariables false
set_option linter.unusedSimpArgs false
attribute [local irreducible] Calls
/-- The ground behind k tide steps, and the code. -/
def tidTo (g : Gr) (m a b part : Nat) : Nat → Gr × Int
  | 0 => (g, 0)
  | k + 1 => if (tidTo g m a b part k).2 = 0 then (tidR (tidTo g m a b part k).1 (headT m a b k) part, tidC (tidTo g m a b part k).1 (headT m a b k) part) else tidTo g m a b part k
theorem tidTo_go {g : Gr} {m a b part k : Nat} (h : (tidTo g m a b part k).2 = 0) : tidTo g m a b part (k + 1) = (tidR (tidTo g m a b part k).1 (headT m a b k) part, tidC (tidTo g m a b part k).1 (headT m a b k) part) := by
  show (if _ then _ else _) = _
  rw [if_pos h]
theorem tidTo_stay {g : Gr} {m a b part k : Nat} (h : (tidTo g m a b part k).2 ≠ 0) : ∀ n, k ≤ n → tidTo g m a b part n = tidTo g m a b part k
  | 0, hn => by obtain rfl : k = 0 := by omega
                rfl
  | n + 1, hn => by
    by_cases hk : k = n + 1
    · rw [hk]
    · have e := tidTo_stay h n (by omega)
      have e2 : tidTo g m a b part (n + 1) = if (tidTo g m a b part n).2 = 0 then (tidR (tidTo g m a b part n).1 (headT m a b n) part, tidC (tidTo g m a b part n).1 (headT m a b n) part) else tidTo g m a b part n := rfl
      rw [e2, e, if_neg h]
theorem tidR_zero {g : Gr} {H part : Nat} (h : tidC g H part = 0) : plain H = true ∧ stepIs (tidG g H) part = true ∧ tidR g H part = stepG (tidG g H) part := by
  unfold tidC at h
  unfold tidR
  cases hp : plain H
  · rw [hp] at h; cases h
  · rw [hp, if_pos rfl] at h
    rw [if_pos rfl]
    unfold stepC at h
    unfold stepR
    cases hs : stepIs (tidG g H) part
    · rw [hs] at h; cases h
    · exact ⟨rfl, rfl, rfl⟩
theorem tidR_tok {g : Gr} {m a b part H : Nat} (ho : TOk g m a b part) (h : tidC g H part = 0) : TOk (tidR g H part) m a b part := by
  obtain ⟨h1, h2, h3⟩ := tidR_zero h
  rw [h3]
  refine ⟨⟨ho.ok.wide, ho.ok.high, ho.ok.fix⟩, ?_, ho.pm, ho.pa, ho.pb, ho.pp⟩
  unfold stepIs at h2
  exact (Bool.and_eq_true_iff.1 h2).2
theorem tidTo_tok {g : Gr} {m a b part : Nat} (ho : TOk g m a b part) : ∀ k, (tidTo g m a b part k).2 = 0 → TOk (tidTo g m a b part k).1 m a b part
  | 0, _ => ho
  | k + 1, h => by
    by_cases hk : (tidTo g m a b part k).2 = 0
    · rw [tidTo_go hk] at h ⊢
      exact tidR_tok (tidTo_tok ho k hk) h
    · rw [tidTo_stay hk (k + 1) (by omega)] at h; exact absurd h hk
/-- What a run gives. -/
def runG (g : Gr) (m a b part n : Nat) : Gr := if (tidTo g m a b part n).2 = 0 then (tidTo g m a b part n).1 else zeroG
def runC (g : Gr) (m a b part n : Nat) : Int := (tidTo g m a b part n).2
theorem stp_in {n : Nat} (h : n ≤ 400) : isStp n = true := by unfold isStp; simp; omega
end Go.Proofs.YtglimhkpndfjgaaGreatDoor
/- Appends that write into a row in place or make a new one: what of the memory they leave alone. Plain laws; no statement is proved here. -/
namespace Go.Proofs.YtglimhkpndfjgaaGreatDoor
open Go.ChangeShapes Go.WideShapes Go.ChangeAt Go.RowKit
set_option linter.unusedVariables false
set_option linter.unusedSimpArgs false

/-- The row C with the values news from p on. -/
def over_ (C : Array Value) (p : Nat) (news : List Value) : Array Value := (C.toList.take p ++ news ++ C.toList.drop (p + news.length)).toArray
theorem over_size {C : Array Value} {p : Nat} {news : List Value} (h : p + news.length ≤ C.size) : (over_ C p news).size = C.size := by
  unfold over_; simp; omega
theorem over_take {C : Array Value} {p : Nat} {news : List Value} (h : p + news.length ≤ C.size) (k : Nat) (hk : k ≤ p) : (over_ C p news).toList.take k = C.toList.take k := by
  unfold over_
  rw [List.toList_toArray, List.append_assoc, List.take_append_of_le_length (by simp; omega), List.take_take, Nat.min_eq_left hk]
theorem over_new {C : Array Value} {p : Nat} {news : List Value} (h : p + news.length ≤ C.size) : (over_ C p news).toList.take (p + news.length) = C.toList.take p ++ news := by
  unfold over_
  rw [List.toList_toArray, List.take_append_of_le_length (by simp; omega)]
  exact List.take_of_length_le (by simp; omega)
/-- Block g has news from p on; else it is as it was. -/
def PutAt (w w' : World) (g p : Nat) (news : List Value) : Prop := ∃ C t, w.heap[g]? = some (.cells C t (0, 0)) ∧ p + news.length ≤ C.size ∧ w'.heap[g]? = some (.cells (over_ C p news) t (0, 0))
theorem PutAt.old {w w' : World} {g p : Nat} {news : List Value} (h : PutAt w w' g p news) {e : TypeId} {s n : Nat} {v : Value} {xs : List Value} (ho : Own w g e s v n xs) (hp : n * s ≤ p) : Own w' g e s v n xs := by
  obtain ⟨C, t, h1, h2, h3⟩ := h
  obtain ⟨hx, cap, cur, rfl, hb, q1, q2, q3, q4⟩ := ho
  have hb' : w.heap[g]? = some (.cells cur e (0, 0)) := hb
  rw [hb'] at h1
  injection h1 with h1; injection h1 with h1 ht
  subst h1; subst ht
  exact ⟨hx, cap, over_ cur p news, rfl, h3, q1, q2, by rw [over_size h2, q3], by rw [over_take h2 _ hp, q4]⟩
theorem PutAt.again {w w' : World} {g p : Nat} {news : List Value} (h : PutAt w w' g p news) {e : TypeId} {s n : Nat} {v : Value} {xs : List Value} (ho : Own w g e s v n (xs ++ news)) (hp : xs.length = p) : Own w' g e s v n (xs ++ news) := by
  obtain ⟨C, t, h1, h2, h3⟩ := h
  obtain ⟨hx, cap, cur, rfl, hb, q1, q2, q3, q4⟩ := ho
  have hb' : w.heap[g]? = some (.cells cur e (0, 0)) := hb
  rw [hb'] at h1
  injection h1 with h1; injection h1 with h1 ht
  subst h1; subst ht
  have hns : n * s = p + news.length := by rw [← hx, List.length_append, hp]
  refine ⟨hx, cap, over_ cur p news, rfl, h3, q1, q2, by rw [over_size h2, q3], ?_⟩
  rw [hns, over_new h2]
  have h5 : cur.toList.take p = xs := by
    rw [hns] at q4
    have := congrArg (List.take p) q4
    rw [List.take_take, Nat.min_eq_left (by omega), List.take_append_of_le_length (by omega), ← hp, List.take_length] at this
    rw [← hp]; exact this
  rw [h5]
/-- An append onto an own row: a new row, or the old one written in place. -/
theorem run_app2 {P : Program} {w : World} {t ty e : TypeId} {s bytes : Nat} (hE : ElemTy P t e s bytes) {g n cap : Nat} {xs : List Value} (hown : Own w g e s (.slice (some ⟨g, 0, none⟩) n cap) n xs)
    {ad : Addr} {m c : Nat} {news : List Value} (hl : news.length = m * s) (hnews : ∀ j u, news[j]? = some u → w.cell? (ad.add j) = some u) (h1 : ∀ u ∈ news, u.oneCell' = true) (h63 : n + m ≤ maxLen) (hbytes : (n + m) * bytes ≤ 140737488355328) :
    ∃ g' cap' w', (Builtin.append_ #[t, t] ty #[.slice (some ⟨g, 0, none⟩) n cap, .slice (some ad) m c]).run P w = .ok (.slice (some ⟨g', 0, none⟩) (n + m) cap') w' ∧ Own w' g' e s (.slice (some ⟨g', 0, none⟩) (n + m) cap') (n + m) (xs ++ news) ∧
      w.grownBy w' (some g) ∧ ((g' = w.heap.size ∧ Below w.heap.size w w') ∨ (g' = g ∧ PutAt w w' g (n * s) news)) := by
  by_cases hroom : n + m ≤ cap
  · obtain ⟨ht, i, z, hi, hz, hsize, hby, hzs⟩ := hE
    obtain ⟨hx, cap2, cur, hv, hb, q1, q2, q3, q4⟩ := hown
    have e2 : cap = cap2 := by injection hv
    subst e2
    have hfit : n * s + news.length ≤ cur.size := by rw [hl, q3, ← Nat.add_mul]; exact Nat.mul_le_mul_right _ hroom
    have hr := run_append_room (P := P) w t ty e i ht hi g n cap cur hb ad m c news (by rw [hsize]; exact hl) hnews h1 hroom (by rw [hsize]; exact hfit)
    rw [hsize] at hr
    have hp : PutAt w (w.setRow g (over_ cur (n * s) news)) g (n * s) news := ⟨cur, e, hb, hfit, hb.setRow _⟩
    refine ⟨g, cap, w.setRow g (over_ cur (n * s) news), hr, ⟨by rw [List.length_append, hx, hl, Nat.add_mul], cap, _, rfl, hb.setRow _, hroom, q2, by rw [over_size hfit, q3], ?_⟩, ⟨rfl, rfl, rfl, by simp, fun j hj hne => setRow_other w g j _ (fun e => hne (by rw [e]))⟩, .inr ⟨rfl, hp⟩⟩
    rw [Nat.add_mul, ← hl, over_new hfit, q4]
  · obtain ⟨cap', w', hr, h2, h3⟩ := run_grow (P := P) (w := w) (ty := ty) (b := ⟨g, 0, none⟩) (n := n) (cap := cap) (c := c) (olds := xs) (ad := ad) hE hown.1 hown.at hl hnews (by omega) h63 hbytes
    exact ⟨_, cap', w', hr, h2, ⟨h3.os, h3.tape, h3.output, h3.size, fun b hb _ => h3.block b hb⟩, .inl ⟨rfl, h3⟩⟩
/-- Two rows may have been written in place; all else is as it was. -/
structure Two (go po : Nat) (lo : List Value) (gb pb : Nat) (lb : List Value) (w w' : World) : Prop where
  os : w'.os = w.os
  tape : w'.tape = w.tape
  output : w'.output = w.output
  size : w.heap.size ≤ w'.heap.size
  block : ∀ b, b < w.heap.size → w'.heap[b]? = w.heap[b]? ∨ (b = go ∧ PutAt w w' go po lo) ∨ (b = gb ∧ PutAt w w' gb pb lb)
section
variable {go po gb pb : Nat} {lo lb : List Value} {w w' : World}
theorem Two.of_below (h : Below w.heap.size w w') : Two go po lo gb pb lb w w' := ⟨h.os, h.tape, h.output, h.size, fun b hb => .inl (h.block b hb)⟩
theorem Two.refl : Two go po lo gb pb lb w w := Two.of_below (Below.refl _ _)
theorem Two.left (h : w.grownBy w' (some go)) (hp : PutAt w w' go po lo) : Two go po lo gb pb lb w w' := ⟨h.os, h.tape, h.output, h.size, fun b hb => by
  by_cases e : b = go
  · exact .inr (.inl ⟨e, hp⟩)
  · exact .inl (h.block b hb (fun e2 => e (Option.some.inj e2)))⟩
theorem Two.right (h : w.grownBy w' (some gb)) (hp : PutAt w w' gb pb lb) : Two go po lo gb pb lb w w' := ⟨h.os, h.tape, h.output, h.size, fun b hb => by
  by_cases e : b = gb
  · exact .inr (.inr ⟨e, hp⟩)
  · exact .inl (h.block b hb (fun e2 => e (Option.some.inj e2)))⟩
theorem Two.blk (h : Two go po lo gb pb lb w w') {b : Nat} {C : Array Value} {t : TypeId} (hb : Blk w b C t) (h1 : b ≠ go) (h2 : b ≠ gb) : Blk w' b C t := by
  rcases h.block b hb.lt with e | ⟨e, _⟩ | ⟨e, _⟩
  · exact e.trans hb
  · exact absurd e h1
  · exact absurd e h2
theorem Two.own (h : Two go po lo gb pb lb w w') {b : Nat} {e : TypeId} {s n : Nat} {v : Value} {xs : List Value} (ho : Own w b e s v n xs) (h1 : b = go → n * s ≤ po ∨ ∃ ys, xs = ys ++ lo ∧ ys.length = po) (h2 : b = gb → n * s ≤ pb ∨ ∃ ys, xs = ys ++ lb ∧ ys.length = pb) : Own w' b e s v n xs := by
  rcases h.block b ho.lt with e' | ⟨e', hp⟩ | ⟨e', hp⟩
  · exact ho.move e'
  · subst e'
    rcases h1 rfl with h1 | ⟨ys, rfl, h3⟩
    · exact hp.old ho h1
    · exact hp.again ho h3
  · subst e'
    rcases h2 rfl with h2 | ⟨ys, rfl, h3⟩
    · exact hp.old ho h2
    · exact hp.again ho h3
theorem Two.below (h : Two go po lo gb pb lb w w') {B : Nat} {a : World} (hb : Below B a w) (h1 : B ≤ go) (h2 : B ≤ gb) (hB : B ≤ w.heap.size) : Below B a w' :=
  hb.trans ⟨h.os, h.tape, h.output, h.size, fun k hk => by
    rcases h.block k (by omega) with e | ⟨e, _⟩ | ⟨e, _⟩
    · exact e
    · omega
    · omega⟩
end
/-- A store into one cell of a block: the world behind it by what it holds. -/
theorem wpList_store_cell {P : Program} {ops : Array Oper} {rest : List Oper} {o : Oper} {a : Act} {Q : Exit → Act → World → Prop} {w : World} {ty t : TypeId} {x y : Operand} {b f : Nat} {v : Value} {C : Array Value} (hgd : o.guard = none) (ho : o.op = .store ty x y) (hx : a.eval x = .pointer (some ⟨b, f, none⟩)) (hy : a.eval y = v) (hi : (P.info? ty).map (·.size) = some 1) (hv : v.cells = #[v]) (h1 : v.oneCell' = true) (hb : Blk w b C t) (hf : f < C.size)
    (h : ∀ W, Blk W b (C.setIfInBounds f v) t → w.grownBy W (some b) → wpList P ops Q rest (a.put o.dst undef) W) : wpList P ops Q (o :: rest) a w :=
  wpList_plain hgd fun K hK => by
    have hst := run_storeCells_at P b f t [v] 0 C w hb (by simp; omega) (by simpa using h1)
    unfold Oper.wp execOp
    cases hq : P.info? ty with
    | none => simp [hq] at hi
    | some i =>
      have hsz : i.size = 1 := by simpa [hq] using hi
      simp only [ho, hx, hy, Instr.storeAt, Instr.sureAddr, Sem.run_bind, Sem.run_pure, Result.andThen_ok]
      obtain ⟨W, hW, hB, hG⟩ : ∃ W, (storeVar ty ⟨b, f, none⟩ v).run P w = .ok () W ∧ Blk W b (C.setIfInBounds f v) t ∧ w.grownBy W (some b) := by
        refine ⟨w.setRow b (splice C f #[v]), ?_, ?_, ?_⟩
        · have hst' : (storeCells ⟨b, f, none⟩ [v] 0).run P w = .ok () (w.setRow b (splice C f #[v])) := by simpa [splice] using hst
          simp [storeVar, sizeOf, typeInfo, hq, hv, hsz, hst']
        · have := hb.setRow (splice C f #[v])
          have e : splice C f #[v] = C.setIfInBounds f v := by
            unfold splice
            apply Array.ext'
            simp only [Array.toList_setIfInBounds]
            rw [List.set_eq_take_append_cons_drop, if_pos (by simpa using hf)]
            simp
          rw [e] at this ⊢
          exact this
        · exact ⟨rfl, rfl, rfl, by simp, fun j hj hne => setRow_other w b j _ (fun e => hne (by rw [e]))⟩
      rw [hW]
      exact hK _ _ (h W hB hG)
theorem own_ne {w : World} {b g : Nat} {C : Array Value} {t e : TypeId} {s n : Nat} {v : Value} {xs : List Value} (hb : Blk w b C t) (ho : Own w g e s v n xs) (h : t ≠ e) : b ≠ g := by
  intro e1
  subst e1
  obtain ⟨_, cap, cur, _, hb2, _⟩ := ho
  have h1 : w.heap[b]? = some (.cells C t (0, 0)) := hb
  have h2 : w.heap[b]? = some (.cells cur e (0, 0)) := hb2
  rw [h1] at h2
  injection h2 with h2; injection h2 with _ h2
  exact h h2
theorem own_ne2 {w : World} {b g : Nat} {t e : TypeId} {s s' n n' : Nat} {v v' : Value} {xs xs' : List Value} (hb : Own w b t s' v' n' xs') (ho : Own w g e s v n xs) (h : t ≠ e) : b ≠ g := by
  obtain ⟨_, cap, cur, _, hb2, _⟩ := hb
  exact own_ne hb2 ho h
end Go.Proofs.YtglimhkpndfjgaaGreatDoor
/- An append onto nil. A plain law; no statement is proved here. -/
namespace Go.Proofs.YtglimhkpndfjgaaGreatDoor
open Go.ChangeShapes Go.WideShapes Go.ChangeAt Go.RowKit
set_option linter.unusedVariables false
theorem run_app_nil {P : Program} {w : World} {t ty e : TypeId} {s bytes : Nat} (hE : ElemTy P t e s bytes) (hs : 0 < s)
    {ad : Addr} {m c : Nat} {news : List Value} (hm : 0 < m) (hl : news.length = m * s) (hnews : ∀ j u, news[j]? = some u → w.cell? (ad.add j) = some u) (h1 : ∀ u ∈ news, u.oneCell' = true) (h63 : m ≤ maxLen) (hbytes : m * bytes ≤ 140737488355328) :
    ∃ g' cap' w', (Builtin.append_ #[t, t] ty #[.slice none 0 0, .slice (some ad) m c]).run P w = .ok (.slice (some ⟨g', 0, none⟩) m cap') w' ∧ Own w' g' e s (.slice (some ⟨g', 0, none⟩) m cap') m news ∧ Below w.heap.size w w' ∧ w.heap.size ≤ g' := by
  obtain ⟨ht, i, z, hi, hz, hsize, hby, hzs⟩ := hE
  have hrow : w.ownsRow w.heap.size e s (.slice none 0 0) 0 [] := ⟨by simp, .inl ⟨rfl, rfl⟩⟩
  obtain ⟨v', w', hr, h2, h3, h4⟩ := run_append_own (P := P) w w.heap.size t ty e i z s bytes ht hi hz hsize hby hzs hs (Value.slice none 0 0) 0 [] hrow ad m c news hl hnews h1 (by omega) (by rw [Nat.zero_add]; exact hbytes) (Nat.le_refl _)
  rw [Nat.zero_add, List.nil_append] at h2
  obtain ⟨hx, h5⟩ := h2
  rcases h5 with ⟨rfl, h6⟩ | ⟨g, cap, cur, rfl, hg, hb, q1, q2, q3, q4⟩
  · exfalso; omega
  · exact ⟨g, cap, w', hr, ⟨hx, cap, cur, rfl, hb, q1, q2, q3, q4⟩, ⟨h3.os, h3.tape, h3.output, h3.size, fun k hk => h3.block k hk (fun e => by cases e)⟩, hg⟩
end Go.Proofs.YtglimhkpndfjgaaGreatDoor
/- HeadsOverTime where all is valid, of the first cell, in the program and in the reference. -/
namespace Go.Proofs.YtglimhkpndfjgaaGreatDoor
open Go.ChangeShapes Go.WideShapes Go.ChangeAt Go.RowKit
set_option linter.unusedVariables false
set_option linter.unusedSimpArgs false
attribute [local irreducible] Calls
/-- The first cell's head behind each step. -/
def heaT (g : Gr) (m a b part i : Nat) : Nat := (tidTo g m a b part (i + 1)).1.hea 0
/-- How many heads are handed back. -/
def runN (g : Gr) (m a b part n : Nat) : Nat := if runC g m a b part n = 0 then n else 0
/-- What has been seen: k heads in a row of its own; a variable that holds the row. -/
def Seen (w0 : World) (q c : Nat) (F : Nat → Nat) (k : Nat) (w : World) : Prop := ∃ (r : Nat) (y : Value), Blk w q #[y] 34 ∧ Own w r 24 1 y k (fls k F) ∧ Blk w c #[.int .i64 0] 2 ∧ w0.heap.size ≤ r
theorem szFS : (Tryz.prog.info? 34).map (·.size) = some 1 := by kernel_rfl
theorem cell0 {g : Gr} (hv : validG g = true) : isC g 0 = true := isC_zero hv
end Go.Proofs.YtglimhkpndfjgaaGreatDoor
