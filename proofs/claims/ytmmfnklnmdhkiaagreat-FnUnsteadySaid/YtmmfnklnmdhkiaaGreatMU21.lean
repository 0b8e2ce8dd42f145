import Derived.Test.YtmmfnklnmdhkiaaGreatMU14
import Derived.Test.YtmmfnklnmdhkiaaGreatMU19
import Derived.Test.YtmmfnklnmdhkiaaGreatMU20
import Derived.Test.YtmmfnklnmdhkiaaGreatMU13
/- A tide step, in the program ((*Ground).tide) and in the reference (l06Tidal). -/
namespace Go.Proofs.YtmmfnklnmdhkiaaGreat
open Go.ChangeShapes Go.WideShapes Go.ChangeAt Go.RowKit
set_option linter.unusedVariables false
set_option linter.unusedSimpArgs false
/-! ### A fixed cell is a cell. -/
theorem bv_pow {k i : Nat} (hk : k < 64) (hi : i < 64) : (bv (IntKind.u64.wrap (2 ^ k))).getLsbD i = decide (i = k) := by
  have h1 : (2 : Int) ^ k = ((2 ^ k : Nat) : Int) := by simp
  have h2 : (2 : Nat) ^ k < 2 ^ 64 := Nat.pow_lt_pow_right (by decide) hk
  have h3 : ∀ x : Nat, x < 2 ^ 64 → IntKind.u64.wrap (x : Int) = (x : Int) := fun x hx => by rw [IntKind.wrap_u64]; omega
  have h3 := h3 _ h2
  rw [h1, h3]
  unfold bv
  rw [BitVec.ofInt_natCast, BitVec.getLsbD_ofNat, decide_eq_true hi, Bool.true_and, Nat.testBit_two_pow]
  by_cases h : k = i
  · subst h; simp
  · simp [h, Ne.symm h]
theorem mask_lsb : ∀ (L : List Nat) (x : Int) (i : Nat), (∀ k, k ∈ L → k < 64) → i < 64 → (bv (L.foldl orB x)).getLsbD i = ((bv x).getLsbD i || decide (i ∈ L))
  | [], x, i, _, _ => by simp
  | k :: L, x, i, h, hi => by
    rw [List.foldl_cons, mask_lsb L _ i (fun j hj => h j (List.mem_cons_of_mem _ hj)) hi, orB_bv, bv_nat, BitVec.getLsbD_or, bv_pow (h k List.mem_cons_self) hi]
    simp [Bool.or_assoc]
theorem fx_lsb {g : Gr} (hg : g.ok) {k : Nat} (hk : k < 64) : isFx g k = (bv g.fix).getLsbD k := by
  obtain ⟨n, hn⟩ : ∃ n : Nat, (n : Int) = g.fix := ⟨g.fix.toNat, by have := hg.fix; omega⟩
  have hlt : n < 18446744073709551616 := by have := hg.fix; omega
  unfold isFx bv
  rw [← hn, BitVec.ofInt_natCast, BitVec.getLsbD_ofNat, decide_eq_true hk, Bool.true_and, Nat.testBit_eq_decide_div_mod_eq]
  have e : (n : Int) / 2 ^ k % 2 = ((n / 2 ^ k % 2 : Nat) : Int) := by simp
  rw [e]
  by_cases h : n / 2 ^ k % 2 = 1
  · simp [h]
  · have : n / 2 ^ k % 2 = 0 := by omega
    simp [this]
theorem fx_cell {g : Gr} (hg : g.ok) (hv : validG g = true) {k : Nat} (hk : k < 64) (h : isFx g k = true) : isC g k = true := by
  have hf := (validG_parts hv).2.2.2.2.2
  unfold fixOk at hf
  rw [Bool.and_eq_true] at hf
  have h1 := lsb_and (andNot_zero.1 hf.2) k hk
  rw [← fx_lsb hg hk, h, Bool.true_and] at h1
  unfold maskOf at h1
  rw [mask_lsb _ _ _ (fun j hj => (cellsTo_mem.1 hj).1) hk] at h1
  have h2 : (bv 0).getLsbD k = false := by unfold bv; simp
  rw [h2, Bool.false_or, Bool.not_eq_false', decide_eq_true_eq] at h1
  exact (cellsTo_mem.1 h1).2
/-- The heads with a tide at the fixed cells. -/
def tidH (g : Gr) (H : Nat) (k : Nat) : Nat := if (decide (k < 64) && isC g k) && isFx g k then H else g.hea k
def tidG (g : Gr) (H : Nat) : Gr := { g with hea := tidH g H }
/-- What a tide step gives. -/
def tidR (g : Gr) (H part : Nat) : Gr := if plain H then stepR (tidG g H) part else zeroG
def tidC (g : Gr) (H part : Nat) : Int := if plain H then stepC (tidG g H) part else 4
/-- .. up to some of the cells. -/
def tidA (g : Gr) (H : Nat) (L : List Nat) (k : Nat) : Nat := if decide (k ∈ L) && isFx g k then H else g.hea k
theorem tidA_nil (g : Gr) (H : Nat) : tidA g H [] = g.hea := by funext k; simp [tidA]
theorem tidA_snoc (g : Gr) (H : Nat) (L : List Nat) (k : Nat) (h : isFx g k = true) : tidA g H (L ++ [k]) = upd (tidA g H L) k H := by
  funext i
  unfold upd tidA
  by_cases hik : i = k
  · subst hik; simp [h]
  · rw [if_neg hik]; simp [hik]
theorem tidA_stay (g : Gr) (H : Nat) (L : List Nat) (k : Nat) (h : isFx g k = false) : tidA g H (L ++ [k]) = tidA g H L := by
  funext i
  unfold tidA
  by_cases hik : i = k
  · subst hik; simp [h]
  · simp [hik]
theorem tidA_all (g : Gr) (H : Nat) : tidA g H (cellsTo g 64) = tidH g H := by
  funext i
  unfold tidA tidH
  have : decide (i ∈ cellsTo g 64) = (decide (i < 64) && isC g i) := by
    rw [Bool.eq_iff_iff]
    simp [cellsTo_mem]
  rw [this]
def tidB (g : Gr) (H : Nat) (j k : Nat) : Nat := if decide (k < j) && isFx g k then H else g.hea k
theorem tidB_zero (g : Gr) (H : Nat) : tidB g H 0 = g.hea := by funext k; simp [tidB]
theorem tidB_set (g : Gr) (H : Nat) (j : Nat) (h : isFx g j = true) : tidB g H (j + 1) = upd (tidB g H j) j H := by
  funext i
  unfold upd tidB
  by_cases hik : i = j
  · subst hik; simp [h]
  · rw [if_neg hik]
    have : decide (i < j + 1) = decide (i < j) := by by_cases h : i < j <;> simp [h] <;> omega
    rw [this]
theorem tidB_stay (g : Gr) (H : Nat) (j : Nat) (h : isFx g j = false) : tidB g H (j + 1) = tidB g H j := by
  funext i
  unfold tidB
  by_cases hik : i = j
  · subst hik; simp [h]
  · have : decide (i < j + 1) = decide (i < j) := by by_cases h : i < j <;> simp [h] <;> omega
    rw [this]
theorem tidB_all {g : Gr} (hg : g.ok) (hv : validG g = true) (H : Nat) : tidB g H 64 = tidH g H := by
  funext i
  unfold tidB tidH
  by_cases hi : i < 64
  · cases hf : isFx g i
    · simp
    · rw [fx_cell hg hv hi hf]; simp
  · simp [hi]
attribute [local irreducible] Calls
section
variable {P : Program}
theorem alloc_run {ev : Operand → Value} {w : World} {t : TypeId} {Z : Array Value} {pos : String} {dst : Option Tmp} {tt : TypeId} {af : Array Edge} {gd : Option (Nat × Bool)} (hz : ZeroTy P t Z) : (execOp ev { dst := dst, op := .alloc t, type := tt, pos := pos, after := af, guard := gd }).run P w = .ok (.value (.pointer (some ⟨w.heap.size, 0, none⟩))) (w.alloc (.cells Z t)) := by
  unfold ZeroTy at hz
  cases hq : P.info? t with
  | none => simp [hq] at hz
  | some i =>
    have hz' : i.zero = some (.agg Z) := by simpa [hq] using hz
    have hr : (Instr.alloc t true (.tuple #[])).run P w = .ok (.pointer (some ⟨w.heap.size, 0, none⟩)) (w.alloc (.cells Z t)) := by
      simp [Instr.alloc, zeroValue, typeInfo, hq, hz', newVar, newRow, Value.cells]
    simp [execOp, hr]
theorem load_gat {ev : Operand → Value} {w : World} {ty : TypeId} {x : Operand} {b : Nat} {g : Gr} {pos : String} {dst : Option Tmp} {tt : TypeId} {af : Array Edge} {gd : Option (Nat × Bool)} (hx : ev x = .pointer (some ⟨b, 0, none⟩)) (hr : RowTy P ty 195) (hb : GAt w b g) : (execOp ev { dst := dst, op := .load ty x, type := tt, pos := pos, after := af, guard := gd }).run P w = .ok (.value (.agg g.cells)) w := by
  obtain ⟨d, hu, hd, hi⟩ := hr
  have hl := run_loadVar_mid (P := P) w b 0 ty g.cells.toList d (fun j u hj => by
    have hj2 : j < 195 := by
      rcases Nat.lt_or_ge j g.cells.toList.length with h2 | h2
      · simpa [g.size] using h2
      · rw [List.getElem?_eq_none h2] at hj; cases hj
    have := hb.mem j hj2
    rw [Array.getElem?_toList, g.get j hj2] at hj
    rw [Nat.zero_add, this, hj]) hu hd (by rw [hi]; simp [g.size])
  rw [Array.toArray_toList] at hl
  simp [execOp, hx, Instr.loadAt, Instr.sureAddr, hl]
end
set_option maxRecDepth 100000 in
set_option maxHeartbeats 1000000 in
theorem tide_any (g : Gr) (b m a1 b1 : Nat) (h : Int) (part : Nat) (hg : g.ok) (hv : validG g = true) (h0 : 0 ≤ h) (h1 : h ≤ 100000) (w : World) (hb : GAt w b g) :
    Calls Tryz.prog 58 #[.pointer (some ⟨b, 0, none⟩), .float .f32 m, .complex .f32 a1 b1, .int .i64 h, .float .f32 part] w fun e w' => e = .returned (.tuple #[.agg (tidR g (headT m a1 b1 h) part).cells, .int .i64 (tidC g (headT m a1 b1 h) part)]) ∧ Below w.heap.size w w' := by
  have lb := hb.lt
  have hsm := validG_small hv
  have hh := fun w' => headAt_any m a1 b1 h h0 h1 w'
  have hcl := fun w' hb' => cells_any g b hg w' hb'
  have hfx := fun k hk w' hb' => fixed_any g b k hg hk w' hb'
  have hst := fun g' hg' hsm' q w' hb' => stepped_any g' q part hg' hsm' w' hb'
  obtain ⟨H, hH⟩ : ∃ H, H = headT m a1 b1 h := ⟨_, rfl⟩
  rw [← hH] at hh ⊢
  have hcH : cn H = H := by rw [hH, cn_headT]
  obtain ⟨R, hR⟩ : ∃ R, R = (tidR g H part).cells := ⟨_, rfl⟩
  obtain ⟨V, hV⟩ : ∃ V, V = tidC g H part := ⟨_, rfl⟩
  rw [← hR, ← hV]
  have HRV := Lib.hid (And.intro hR hV)
  clear hR hV hH
  go_enter Tryz.func58, Tryz.ntmps58
  go_upto_region 1 with (refine wpList_alloc_as rfl rfl zero66z ?_)
  have hS : Blk (w.alloc (.cells zeroG.cells 30)) w.heap.size zeroG.cells 30 := Blk.new _ _ _
  have hb1 := hb.alloc (.cells zeroG.cells 30)
  have hbel := below1 w (.cells zeroG.cells 30)
  generalize w.alloc (.cells zeroG.cells 30) = W at *
  have lS := hS.lt
  refine wp_splitK 9 (fun w' => Below W.heap.size W w') (fun w w' => Below w.heap.size w w') (fun wx d v => match d, v with
    | 16, v => v = .float .f32 m
    | 17, v => v = .complex .f32 a1 b1
    | 18, v => v = .int .i64 h
    | 19, v => ∃ r, v = .float .f32 r ∧ cn r = H
    | 20, v => v = .pointer (some ⟨b, 0, none⟩)
    | 21, v => v = .pointer (some ⟨b, 0, none⟩)
    | 22, v => v = .agg g.cells
    | 12, v => ∃ r, v = .float .f32 r ∧ cn r = H
    | 13, v => ∃ p : Nat, v = .pointer (some ⟨p, 0, none⟩) ∧ W.heap.size ≤ p ∧ Blk wx p zeroG.cells 30
    | _, _ => True) (fun w1 w2 d v hR hF => by split at hF <;> first | exact hF | (obtain ⟨p, q1, q2, q3⟩ := hF; exact ⟨p, q1, q2, q3.below hR q3.lt⟩)) (by kernel_rfl) (by kernel_rfl) (by kernel_rfl) (Below.refl _ _).drew ?_ ?_
  · refine ⟨step_go rfl fun ev w1 hC kn => ?_, ?_⟩
    · have e1 : ev (.tmp 1) = .float .f32 m := kn.out 1 rfl rfl rfl
      exact good_of (v := .float .f32 m) rfl (by simp [execOp, e1, go_sem]) hC (Below.refl _ _) rfl
    refine ⟨step_go rfl fun ev w1 hC kn => ?_, ?_⟩
    · have e1 : ev (.tmp 2) = .complex .f32 a1 b1 := kn.out 2 rfl rfl rfl
      exact good_of (v := .complex .f32 a1 b1) rfl (by simp [execOp, e1, go_sem]) hC (Below.refl _ _) rfl
    refine ⟨step_go rfl fun ev w1 hC kn => ?_, ?_⟩
    · have e1 : ev (.tmp 3) = .int .i64 h := kn.out 3 rfl rfl rfl
      exact good_of (v := .int .i64 h) rfl (by simp [execOp, e1, go_sem]) hC (Below.refl _ _) rfl
    refine ⟨step_go rfl fun ev w1 hC kn => ?_, ?_⟩
    · have e1 : ev (.tmp 16) = .float .f32 m := kn.inn 16 rfl rfl
      have e2 : ev (.tmp 17) = .complex .f32 a1 b1 := kn.inn 17 rfl rfl
      have e3 : ev (.tmp 18) = .int .i64 h := kn.inn 18 rfl rfl
      exact good_call (f := 69) (args := #[.float .f32 m, .complex .f32 a1 b1, .int .i64 h]) rfl (by simp [execOp, e1, e2, e3, kn.fn, go_sem]) ((hh w1).mono fun e w2 ⟨r, he, hr, h3⟩ => ⟨_, he, hC.trans (h3.mono hC.size), h3, r, rfl, hr⟩)
    refine ⟨step_go rfl fun ev w1 hC kn => ?_, ?_⟩
    · have e1 : ev (.tmp 0) = .pointer (some ⟨b, 0, none⟩) := kn.out 0 rfl rfl rfl
      exact good_of (v := .pointer (some ⟨b, 0, none⟩)) rfl (by simp [execOp, e1, go_sem]) hC (Below.refl _ _) rfl
    refine ⟨step_go rfl fun ev w1 hC kn => ?_, ?_⟩
    · have e1 : ev (.tmp 20) = .pointer (some ⟨b, 0, none⟩) := kn.inn 20 rfl rfl
      exact good_of (v := .pointer (some ⟨b, 0, none⟩)) rfl (by simp only [execOp, e1]; rfl) hC (Below.refl _ _) rfl
    refine ⟨step_go rfl fun ev w1 hC kn => ?_, ?_⟩
    · have e1 : ev (.tmp 21) = .pointer (some ⟨b, 0, none⟩) := kn.inn 21 rfl rfl
      exact good_of (v := .agg g.cells) rfl (load_gat e1 row66 (hb1.below hC hb1.lt)) hC (Below.refl _ _) rfl
    refine ⟨step_go rfl fun ev w1 hC kn => ?_, ?_⟩
    · have e2 := hC.size
      refine good_of (v := .pointer (some ⟨w1.heap.size, 0, none⟩)) (w' := w1.alloc (.cells zeroG.cells 30)) rfl (alloc_run zero66z) (hC.alloc e2 _) (below1 _ _) ⟨w1.heap.size, rfl, e2, Blk.new _ _ _⟩
    refine ⟨step_go rfl fun ev w1 hC kn => ?_, ?_⟩
    · obtain ⟨r, e1, hr⟩ : ∃ r, ev (.tmp 19) = .float .f32 r ∧ cn r = H := kn.inn 19 rfl rfl
      exact good_of (v := .float .f32 r) rfl (by simp [execOp, e1, go_sem]) hC (Below.refl _ _) ⟨r, rfl, hr⟩
    exact trivial
  · rintro xv w1 hxv hC
    have y22 : xv 22 = .agg g.cells := hxv 22 (by decide)
    obtain ⟨p, y13, hp1, hO⟩ : ∃ p : Nat, xv 13 = .pointer (some ⟨p, 0, none⟩) ∧ W.heap.size ≤ p ∧ Blk w1 p zeroG.cells 30 := hxv 13 (by decide)
    obtain ⟨r, y12, hr⟩ : ∃ r, xv 12 = .float .f32 r ∧ cn r = H := hxv 12 (by decide)
    simp only [fill, dstsOf, List.filterMap_cons, List.filterMap_nil, List.foldl_cons, List.foldl_nil, List.set_cons_succ, List.set_cons_zero, List.take_succ_cons, List.take_zero, List.drop_succ_cons, List.drop_zero, y22, y13, y12]
    clear hxv
    go_upto_region 2 with (refine wpList_store_blk (C' := g.cells) rfl rfl rfl rfl row66 hO zeroG.size g.size g.one ?_)
    have hS := (hS.below hC lS).rowOther (g := p) g.cells (by omega)
    have hb1 : GAt (w1.setRow p g.cells) b g := (hb1.below hC hb1.lt).move (setRow_other w1 p b _ (by omega))
    have hO := hO.setRow g.cells
    have hpw : w.heap.size ≤ p := by have := hbel.size; omega
    have hbel := below_setRow (hbel.trans (hC.mono hbel.size)) hpw g.cells
    change Code.wp _ _ _ _ (w1.setRow p g.cells)
    generalize w1.setRow p g.cells = W1 at *
    clear hC hh y22 y13 y12
    have hpl := fun w' => isPlain_any r w'
    rw [plain_al (hr.trans hcH.symm)] at hpl
    have lS := hS.lt
    cases hp : plain H <;> rw [hp] at hpl
    · have e1 : tidR g H part = zeroG ∧ tidC g H part = 4 := by unfold tidR tidC; rw [hp]; exact ⟨rfl, rfl⟩
      have HE := Lib.hid e1
      clear hp e1
      go_wp2_with (first | (go_at_call 34; refine (hpl _).mono ?_; rintro e w' ⟨rfl, hw⟩; rw [hw]; clear hw w') | (refine wpList_zero rfl rfl built66 ?_) | (refine wpList_store_blk rfl rfl rfl rfl row66 hS zeroG.size zeroG.size zeroG.one ?_))
      refine bodyPost_row2 rfl rfl row66 (hS.setRow _) zeroG.size rfl ⟨?_, below_setRow hbel (by omega) _⟩
      rw [HRV.out.1, HRV.out.2, HE.out.1, HE.out.2]; rfl
    · have hn := plain_num hp
      obtain rfl : r = H := al_eq (hr.trans hcH.symm) hn
      have e1 : tidR g r part = stepR (tidG g r) part ∧ tidC g r part = stepC (tidG g r) part := by unfold tidR tidC; rw [hp]; exact ⟨rfl, rfl⟩
      have HE := Lib.hid e1
      have HA := Lib.hid (tidA_all g r)
      have HM : Hid (∀ k, k ∈ cellsTo g 64 → k < 64) := Lib.hid fun k hk => (cellsTo_mem.1 hk).1
      have hlen := cellsTo_length g 64
      clear hp e1 hr hcH hn
      generalize hL : cellsTo g 64 = L at *
      clear hL
      have hp2 := hO.lt
      go_upto_region 5 with (first | (go_at_call 34; refine (hpl _).mono ?_; rintro e w' ⟨rfl, hw⟩; rw [hw]; clear hw w') | (go_at_call 51; refine (hcl _ hb1).mono ?_; rintro e w3 ⟨q, cap1, rfl, hq, hown, hbel3⟩))
      have hO := hO.below hbel3 hO.lt
      have hS := hS.below hbel3 lS
      have hb1 := hb1.below hbel3 hb1.lt
      have hbel := hbel.trans (hbel3.mono hbel.size)
      obtain ⟨_, hcap, hc1, hc2⟩ := hown.form
      injection hcap with _ _ hcap
      subst hcap
      have lO2 := hO.lt
      have hpq : p < q := Nat.lt_of_lt_of_le hp2 hq
      clear hbel3 hq hcl hpl lS
      go_loopw [30] (fun i wr => ∃ j : Nat, j ≤ L.length ∧ i = .int .i64 j ∧ Blk wr w.heap.size zeroG.cells 30 ∧ Blk wr p ({ g with hea := tidA g r (L.take j) } : Gr).cells 30 ∧ GAt wr b g ∧ Own wr q 3 1 (.slice (some ⟨q, 0, none⟩) L.length cap1) L.length (ils L) ∧ Below w.heap.size w wr) (fun i _ => L.length - (intOf i).toNat)
      case atStart => exact ⟨0, by omega, rfl, hS, by rw [List.take_zero, tidA_nil]; exact hO, hb1, hown, hbel⟩
      case round =>
        clear hS hO hb1 hown hbel
        obtain ⟨j, hj, rfl, hS, hO, hb1, hown, hbel⟩ := hrel
        by_cases hlt : j < L.length
        · obtain ⟨k, hk⟩ : ∃ k, L[j]? = some k := ⟨_, List.getElem?_eq_getElem hlt⟩
          have hk64 := HM.out k (List.mem_of_getElem? hk)
          have HT : Hid (L.take (j + 1) = L.take j ++ [k]) := Lib.hid (by rw [List.take_add_one, hk]; rfl)
          have c0 : wr.cell? ⟨q, j, none⟩ = some (.int .i64 k) := (hown.cell _ (by omega)).trans (ils_get _ _ _ hk)
          clear hk
          have bk : (0 : Int) ≤ k := by omega
          have bl : (k : Int) < 64 := by omega
          have bj : (0 : Int) ≤ j := by omega
          have bjl : (j : Int) < L.length := by omega
          have hfx := hfx k hk64 wr hb1
          cases hf : isFx g k <;> rw [hf] at hfx
          · have HX := Lib.hid (tidA_stay g r (L.take j) k hf)
            clear hf
            go_wp2_with (go_at_call 52; refine hfx.mono ?_; rintro e w' ⟨rfl, hw⟩; rw [hw]; clear hw w')
            go_roundw
            case rel => exact ⟨j + 1, by omega, by go_num, hS, by rw [HT.out, HX.out]; exact hO, hb1, hown, hbel⟩
            case measure => simp [intOf]; omega
          · have HX := Lib.hid (tidA_snoc g r (L.take j) k hf)
            clear hf
            have f1 := hO.free (130 + k)
            have c1 : wr.cell? ⟨p, 130 + k, none⟩ = some (.float .f32 (tidA g r (L.take j) k)) := hO.gat.getH k hk64
            have lq := hown.lt
            go_wp2_with (go_at_call 52; refine hfx.mono ?_; rintro e w' ⟨rfl, hw⟩; rw [hw]; clear hw w')
            go_roundw
            case rel =>
              refine ⟨j + 1, by omega, by go_num, hS.setOther _ (by show w.heap.size ≠ p; omega), ?_, hb1.move (heap_setCell_other wr ⟨p, 130 + k, none⟩ b _ (by show b ≠ p; omega)), hown.setOther _ (by show q ≠ p; omega), hbel.setCell (p := ⟨p, 130 + k, none⟩) (by show w.heap.size ≤ p; omega) _⟩
              rw [HT.out, HX.out]
              have h5 := hO.setCell (130 + k) (.float .f32 r)
              rw [Gr.setH _ _ _ hk64] at h5
              exact h5
            case measure => simp [intOf]; omega
        · obtain rfl : j = L.length := by omega
          rw [List.take_length, HA.out] at hO
          have hst := hst (tidG g r) ⟨hg.wide, hg.high, hg.fix⟩ ⟨hsm.1, hsm.2⟩ p wr hO.gat
          have lS := hS.lt
          go_wp2_with (first | (go_at_call 35; refine hst.mono ?_; rintro e w4 ⟨rfl, hb4⟩; have hS4 := hS.below hb4 lS) | (refine wpList_store_blk rfl rfl rfl rfl row66 hS4 zeroG.size (Gr.size _) (Gr.one _) ?_))
          refine bodyPost_row2 rfl rfl row66 (hS4.setRow _) (Gr.size _) rfl ⟨?_, below_setRow (hbel.trans (hb4.mono hbel.size)) (by omega) _⟩
          rw [HRV.out.1, HRV.out.2, HE.out.1, HE.out.2]; rfl
set_option maxRecDepth 100000 in
set_option maxHeartbeats 1000000 in
theorem l06Tidal_any (g : Gr) (b m a1 b1 : Nat) (h : Int) (part : Nat) (hg : g.ok) (hv : validG g = true) (h0 : 0 ≤ h) (h1 : h ≤ 100000) (w : World) (hb : GAt w b g) :
    Calls Tryz.prog 61 #[.pointer (some ⟨b, 0, none⟩), .float .f32 m, .complex .f32 a1 b1, .int .i64 h, .float .f32 part] w fun e w' => e = .returned (.tuple #[.agg (tidR g (headT m a1 b1 h) part).cells, .int .i64 (tidC g (headT m a1 b1 h) part)]) ∧ Below w.heap.size w w' := by
  have lb := hb.lt
  have hsm := validG_small hv
  have hh := fun w' => l06Head_any m a1 b1 h h0 h1 w'
  have hfx := fun k hk w' hb' => l01Fixed_any g b k hg hk w' hb'
  have hst := fun g' hg' hsm' q w' hb' => l06Stepped_any g' q part hg' hsm' w' hb'
  obtain ⟨H, hH⟩ : ∃ H, H = headT m a1 b1 h := ⟨_, rfl⟩
  rw [← hH] at hh ⊢
  have hcH : cn H = H := by rw [hH, cn_headT]
  obtain ⟨R, hR⟩ : ∃ R, R = (tidR g H part).cells := ⟨_, rfl⟩
  obtain ⟨V, hV⟩ : ∃ V, V = tidC g H part := ⟨_, rfl⟩
  rw [← hR, ← hV]
  have HRV := Lib.hid (And.intro hR hV)
  clear hR hV hH
  go_enter Tryz.func61, Tryz.ntmps61
  go_upto_region 1 with (refine wpList_alloc_as rfl rfl zero66z ?_)
  have hS : Blk (w.alloc (.cells zeroG.cells 30)) w.heap.size zeroG.cells 30 := Blk.new _ _ _
  have hb1 := hb.alloc (.cells zeroG.cells 30)
  have hbel := below1 w (.cells zeroG.cells 30)
  generalize w.alloc (.cells zeroG.cells 30) = W at *
  have lS := hS.lt
  go_upto_region 2 with (go_at_call 92; refine (hh _).mono ?_; rintro e w1 ⟨r, rfl, hr, hC⟩)
  have hS := hS.below hC lS
  have hb1 := hb1.below hC hb1.lt
  have hbel := hbel.trans (hC.mono hbel.size)
  clear hC hh
  have hpl := fun w' => l01Plain_any r w'
  rw [plain_al (hr.trans hcH.symm)] at hpl
  have lS := hS.lt
  cases hp : plain H <;> rw [hp] at hpl
  · have e1 : tidR g H part = zeroG ∧ tidC g H part = 4 := by unfold tidR tidC; rw [hp]; exact ⟨rfl, rfl⟩
    have HE := Lib.hid e1
    clear hp e1
    go_wp2_with (first | (go_at_call 47; refine (hpl _).mono ?_; rintro e w' ⟨rfl, hw⟩; rw [hw]; clear hw w') | (refine wpList_zero rfl rfl built66 ?_) | (refine wpList_store_blk rfl rfl rfl rfl row66 hS zeroG.size zeroG.size zeroG.one ?_))
    refine bodyPost_row2 rfl rfl row66 (hS.setRow _) zeroG.size rfl ⟨?_, below_setRow hbel (by omega) _⟩
    rw [HRV.out.1, HRV.out.2, HE.out.1, HE.out.2]; rfl
  · have hn := plain_num hp
    obtain rfl : r = H := al_eq (hr.trans hcH.symm) hn
    have e1 : tidR g r part = stepR (tidG g r) part ∧ tidC g r part = stepC (tidG g r) part := by unfold tidR tidC; rw [hp]; exact ⟨rfl, rfl⟩
    have HE := Lib.hid e1
    have HA := Lib.hid (tidB_all hg hv r)
    clear hp e1 hr hcH hn
    go_upto_region 5 with (first | (go_at_call 47; refine (hpl _).mono ?_; rintro e w' ⟨rfl, hw⟩; rw [hw]; clear hw w') | (refine wpList_load_gat rfl rfl rfl row66 hb1 ?_) | (refine wpList_alloc_as rfl rfl zero66z ?_) | (refine wpList_store_last rfl rfl rfl rfl rfl (by rw [g.size]; kernel_rfl) (by rw [g.size, zeroG.size]) (List.all_eq_true.2 g.one) ?_))
    have hO := Blk.new w1 g.cells 30
    have hS := hS.alloc (.cells g.cells 30)
    have lb1 := hb1.lt
    have hb1 := hb1.alloc (.cells g.cells 30)
    have hbel := hbel.alloc hbel.size (.cells g.cells 30)
    generalize w1.alloc (.cells g.cells 30) = W2 at *
    generalize w1.heap.size = p at *
    clear hpl
    go_upto_region 6 with fail
    go_loopw [14] (fun i wr => ∃ j : Nat, j ≤ 64 ∧ i = .int .i64 j ∧ Blk wr w.heap.size zeroG.cells 30 ∧ Blk wr p ({ g with hea := tidB g r j } : Gr).cells 30 ∧ GAt wr b g ∧ Below w.heap.size w wr) (fun i _ => 64 - (intOf i).toNat)
    case atStart => exact ⟨0, by omega, rfl, hS, by rw [tidB_zero]; exact hO, hb1, hbel⟩
    case round =>
      clear hS hO hb1 hbel
      obtain ⟨k, hj, rfl, hS, hO, hb1, hbel⟩ := hrel
      by_cases hlt : k < 64
      · have bk : (0 : Int) ≤ k := by omega
        have bl : (k : Int) < 64 := by omega
        have hfx := hfx k hlt wr hb1
        cases hf : isFx g k <;> rw [hf] at hfx
        · have HX := Lib.hid (tidB_stay g r k hf)
          clear hf
          go_wp2_with (go_at_call 78; refine hfx.mono ?_; rintro e w' ⟨rfl, hw⟩; rw [hw]; clear hw w')
          go_roundw
          case rel => exact ⟨k + 1, by omega, by go_num, hS, by rw [HX.out]; exact hO, hb1, hbel⟩
          case measure => simp [intOf]; omega
        · have HX := Lib.hid (tidB_set g r k hf)
          clear hf
          have f1 := hO.free (130 + k)
          have c1 : wr.cell? ⟨p, 130 + k, none⟩ = some (.float .f32 (tidB g r k k)) := hO.gat.getH k hlt
          go_wp2_with (go_at_call 78; refine hfx.mono ?_; rintro e w' ⟨rfl, hw⟩; rw [hw]; clear hw w')
          go_roundw
          case rel =>
            refine ⟨k + 1, by omega, by go_num, hS.setOther _ (by show w.heap.size ≠ p; omega), ?_, hb1.move (heap_setCell_other wr ⟨p, 130 + k, none⟩ b _ (by show b ≠ p; omega)), hbel.setCell (p := ⟨p, 130 + k, none⟩) (by show w.heap.size ≤ p; omega) _⟩
            rw [HX.out]
            have h5 := hO.setCell (130 + k) (.float .f32 r)
            rw [Gr.setH _ _ _ hlt] at h5
            exact h5
          case measure => simp [intOf]; omega
      · obtain rfl : k = 64 := by omega
        rw [HA.out] at hO
        have hst := hst (tidG g r) ⟨hg.wide, hg.high, hg.fix⟩ ⟨hsm.1, hsm.2⟩ p wr hO.gat
        have lS := hS.lt
        go_wp2_with (first | (go_at_call 37; refine hst.mono ?_; rintro e w4 ⟨rfl, hb4⟩; have hS4 := hS.below hb4 lS) | (refine wpList_store_blk rfl rfl rfl rfl row66 hS4 zeroG.size (Gr.size _) (Gr.one _) ?_))
        refine bodyPost_row2 rfl rfl row66 (hS4.setRow _) (Gr.size _) rfl ⟨?_, below_setRow (hbel.trans (hb4.mono hbel.size)) (by omega) _⟩
        rw [HRV.out.1, HRV.out.2, HE.out.1, HE.out.2]; rfl
end Go.Proofs.YtmmfnklnmdhkiaaGreat
