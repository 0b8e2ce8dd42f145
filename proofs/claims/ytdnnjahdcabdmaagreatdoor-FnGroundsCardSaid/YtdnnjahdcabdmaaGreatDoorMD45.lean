import Derived.Test.YtdnnjahdcabdmaaGreatDoorMD43
import Derived.Test.YtdnnjahdcabdmaaGreatDoorMD32
import Derived.Test.YtdnnjahdcabdmaaGreatDoorMD44
import Derived.Test.YtdnnjahdcabdmaaGreatDoorMD16
import Derived.Test.YtdnnjahdcabdmaaGreatDoorMD06
import Derived.Test.YtdnnjahdcabdmaaGreatDoorMD08
import Derived.Test.YtdnnjahdcabdmaaGreatDoorMD36
/- A mirrored ground: MirrorGround in the program and in the reference. -/
namespace Go.Proofs.YtdnnjahdcabdmaaGreatDoor
open Go.ChangeShapes Go.WideShapes Go.ChangeAt Go.RowKit
set_option linter.unusedVariables false
set_option linter.unusedSimpArgs false
attribute [local irreducible] Calls

theorem wrap_succ64 {j : Nat} (h : j < 64) : wrap64 ((j : Int) + 1) = ((j + 1 : Nat) : Int) := by
  rw [Int.natCast_add]
  unfold wrap64
  omega
theorem meas64 {n j : Nat} (h : j < n) (h64 : n ≤ 64) : n - (intOf (.int .i64 (wrap64 ((j : Int) + 1)))).toNat < n - (intOf (.int .i64 (j : Int))).toNat := by
  rw [wrap_succ64 (Nat.lt_of_lt_of_le h h64)]
  show n - (((j + 1 : Nat) : Int)).toNat < n - ((j : Int)).toNat
  omega
theorem measN {n j : Nat} (h : j < n) : n - (intOf (.int .i64 ((j : Int) + 1))).toNat < n - (intOf (.int .i64 (j : Int))).toNat := by
  show n - (((j + 1 : Nat) : Int)).toNat < n - ((j : Int)).toNat
  omega
/-- The cell opposite. -/
def mkN (g : Gr) (c : Nat) : Nat := c / 8 * 8 + (g.wide.toNat - 1 - c % 8)
theorem mk_cell {g : Gr} {c : Nat} (hc : c < 64) (h8 : g.wide ≤ 8) (h : isC g c = true) : (((mkN g c : Nat) : Int) = (c : Int) - 2 * ((c : Int) % 8) + g.wide - 1) ∧ mkN g c < 64 ∧ isC g (mkN g c) = true ∧ mkN g (mkN g c) = c := by
  unfold isC at h ⊢
  simp only [Bool.and_eq_true, decide_eq_true_eq] at h ⊢
  obtain ⟨h1, h2⟩ := h
  obtain ⟨W, hW⟩ : ∃ W : Nat, g.wide = W := ⟨g.wide.toNat, by omega⟩
  unfold mkN
  rw [hW] at h1 h8 ⊢
  rw [Int.toNat_natCast]
  omega
/-- A ground some of whose cells have gone over to the mirrored one. -/
def mirT (g : Gr) (L : List Nat) : Gr := { g with con := fun j => if isC g j && decide (mkN g j ∈ L) then g.con (mkN g j) else g.con j, gai := fun j => if isC g j && decide (mkN g j ∈ L) then g.gai (mkN g j) else g.gai j, hea := fun j => if isC g j && decide (mkN g j ∈ L) then g.hea (mkN g j) else g.hea j, fix := maskOf ((L.filter (isFxW g)).map (mkN g)) }
def mirG (g : Gr) : Gr := mirT g (cellsTo g 64)
theorem isC_lt {g : Gr} {j : Nat} (h8 : g.high ≤ 8) (h : isC g j = true) : j < 64 := by
  unfold isC at h
  simp only [Bool.and_eq_true, decide_eq_true_eq] at h
  omega
theorem mirF_snoc {g : Gr} {L : List Nat} {c d : Nat} (f : Nat → Nat) (hw : g.wide ≤ 8) (hh : g.high ≤ 8) (hd : isC g d = true) (hdc : mkN g d = c) (hcd : mkN g c = d) : (fun j => if isC g j && decide (mkN g j ∈ L ++ [c]) then f (mkN g j) else f j) = upd (fun j => if isC g j && decide (mkN g j ∈ L) then f (mkN g j) else f j) d (f c) := by
  funext j
  unfold upd
  by_cases e : j = d
  · subst e
    rw [if_pos rfl, hd, hdc]
    simp
  · rw [if_neg e]
    show (if isC g j && decide (mkN g j ∈ L ++ [c]) then f (mkN g j) else f j) = if isC g j && decide (mkN g j ∈ L) then f (mkN g j) else f j
    cases hj : isC g j
    · rfl
    · have hne : mkN g j ≠ c := fun h => by
        have := (mk_cell (isC_lt hh hj) hw hj).2.2.2
        rw [h, hcd] at this
        exact e this.symm
      have : decide (mkN g j ∈ L ++ [c]) = decide (mkN g j ∈ L) := decide_eq_decide.2 (by simp [hne])
      rw [this]
theorem mirT_snoc {g : Gr} {L : List Nat} {c d : Nat} (hw : g.wide ≤ 8) (hh : g.high ≤ 8) (hd : isC g d = true) (hdc : mkN g d = c) (hcd : mkN g c = d) : mirT g (L ++ [c]) = { mirT g L with con := upd (mirT g L).con d (g.con c), gai := upd (mirT g L).gai d (g.gai c), hea := upd (mirT g L).hea d (g.hea c), fix := if isFxW g c then orB (mirT g L).fix d else (mirT g L).fix } := by
  unfold mirT
  simp only [mirF_snoc g.con hw hh hd hdc hcd, mirF_snoc g.gai hw hh hd hdc hcd, mirF_snoc g.hea hw hh hd hdc hcd]
  congr 1
  rw [List.filter_append, List.map_append]
  cases hf : isFxW g c
  · simp [hf]
  · rw [if_pos rfl, show [c].filter (isFxW g) = [c] by simp [hf], List.map_cons, List.map_nil, hcd, maskOf_snoc]
theorem mirT_ok {g : Gr} (hg : g.ok) (L : List Nat) : (mirT g L).ok := by
  obtain ⟨h1, h2, h3⟩ := hg
  exact ⟨h1, h2, mask_rngV _ 0 (by decide)⟩
theorem or_zero64 {x : Int} (h0 : 0 ≤ x) (h1 : x < 18446744073709551616) : bits .or .u64 x 0 = x := by
  rw [bits_eq .or (· ||| ·) x 0 rfl]
  have e : bv 0 = 0#64 := by unfold bv; simp
  rw [e, BitVec.or_zero]
  unfold bv
  rw [BitVec.toNat_ofInt]
  omega
theorem bit_or {g : Gr} (hg : g.ok) (c d : Nat) {x : Int} (h0 : 0 ≤ x) (h1 : x < 18446744073709551616) : bits .or .u64 x (IntKind.u64.wrap (g.fix / 2 ^ c % 2 * 2 ^ d)) = if isFxW g c then orB x d else x := by
  have hm : g.fix / 2 ^ c % 2 = 0 ∨ g.fix / 2 ^ c % 2 = 1 := by omega
  unfold isFxW
  rcases hm with h | h
  · rw [h, Int.zero_mul, show IntKind.u64.wrap 0 = 0 by decide, or_zero64 h0 h1]; simp
  · rw [h, Int.one_mul, orB_eq]; simp
set_option maxRecDepth 100000 in
set_option maxHeartbeats 4000000 in
theorem mirrorGround_any (g : Gr) (hg : g.ok) (hv : validG g = true) (w : World) :
    Calls Tryz.prog 26 #[.agg g.cells] w fun e w' => e = .returned (.tuple #[.agg (mirG g).cells, .int .i64 0]) ∧ Below w.heap.size w w' := by
  have hvg := fun w' => validGround_any g hg w'
  rw [hv] at hvg
  have hB := Blk.new w g.cells 30
  have hbel := below1 w (.cells g.cells 30)
  go_enter Tryz.func26, Tryz.ntmps26
  go_upto_region 1 with (first | (refine wpList_box_as rfl rfl rfl ?_) | (refine wpList_alloc_as rfl rfl zero66 ?_))
  have hA := (Blk.new w g.cells 30).alloc (.cells zeroGr.cells 30)
  have hR : Blk ((w.alloc (.cells g.cells 30)).alloc (.cells zeroGr.cells 30)) (w.heap.size + 1) zeroGr.cells 30 := Blk.new1 _ _ _ _
  have hbel := below2 w (.cells g.cells 30) (.cells zeroGr.cells 30)
  change Code.wp _ _ _ _ ((w.alloc (.cells g.cells 30)).alloc (.cells zeroGr.cells 30))
  generalize (w.alloc (.cells g.cells 30)).alloc (.cells zeroGr.cells 30) = W at *
  have lA := hA.lt
  have lR := hR.lt
  go_upto_region 4 with (first | (refine wpList_load_blk rfl rfl rfl row66 hA (Gr.size _) ?_) | (go_at_call 32; refine (hvg _).mono ?_; rintro e w1 ⟨rfl, hb1⟩; replace hA := hA.below hb1 lA) | (refine wpList_alloc_as rfl rfl zero66 ?_) | (refine wpList_store_last (c' := g.cells) rfl rfl rfl rfl rfl (by rw [Gr.size]; kernel_rfl) (by rw [Gr.size, Gr.size]) (List.all_eq_true.2 (Gr.one _)) ?_))
  have hB1 := Blk.new w1 g.cells 30
  have hR1 := (hR.below hb1 lR).alloc (.cells g.cells 30)
  have hA1 := hA.alloc (.cells g.cells 30)
  have hbel1 := (hbel.trans (hb1.mono hbel.size)).alloc (Nat.le_trans hbel.size hb1.size) (.cells g.cells 30)
  have l1 : w.heap.size + 1 < w1.heap.size := by have := hb1.size; omega
  generalize w1.alloc (.cells g.cells 30) = W1 at *
  generalize w1.heap.size = q1 at *
  clear hA hR hbel hb1 hvg lA lR hB
  go_upto_region 5 with (refine wpList_store_abs (v := .int .u64 0) rfl rfl rfl rfl szU64 rfl rfl hB1 (by rw [Gr.size]; omega) ?_; intro w2 hBn hGn)
  rw [Gr.setF] at hBn
  have hbel2 := hbel1.grown hGn hbel1.size (fun k e => by injection e; omega)
  have hA2 := hA1.grown hGn (fun e => by injection e; omega)
  have hR2 := hR1.grown hGn (fun e => by injection e; omega)
  clear hbel1 hA1 hR1 hB1 hGn
  have hcl := cells_any g w.heap.size hg w2 hA2.gat
  have lA2 := hA2.lt
  go_upto_region 6 with (go_at_call 73; refine hcl.mono ?_; rintro e w3 ⟨r, cap, rfl, hr, hO, hb3⟩)
  obtain ⟨cur, hcc, hBr, hcur⟩ : ∃ cur, (cellsTo g 64).length ≤ cap ∧ Blk w3 r cur 3 ∧ ∀ j, j < (cellsTo g 64).length → cur[j]? = (ils (cellsTo g 64))[j]? := by
    obtain ⟨cap6, cur6, he6, h1, _, h2, h3⟩ := own_cur hO
    injection he6 with e1 e2 e3
    subst e3
    exact ⟨cur6, h1, h2, h3⟩
  have hm0 : ({ g with fix := 0 } : Gr) = mirT g [] := by unfold mirT; simp [maskOf]
  have hst : RG w w3 (w.heap.size + 1) q1 w.heap.size r g.cells cur 30 3 (mirT g ((cellsTo g 64).take 0)) := by
    rw [List.take_zero, ← hm0]
    exact ⟨hR2.below hb3 hR2.lt, hBn.below hb3 hBn.lt, hA2.below hb3 hA2.lt, hBr, hbel2.trans (hb3.mono hbel2.size), by omega, by omega, by have := hBn.lt; omega⟩
  have HC := Lib.hid fun j k (h : (cellsTo g 64)[j]? = some k) => (hcur j (List.getElem?_eq_some_iff.1 h).1).trans (ils_get _ j k h)
  have hp := validG_parts hv
  have h8 : g.wide ≤ 8 := by omega
  have hw2 : 2 ≤ g.wide := by omega
  have hh8 : g.high ≤ 8 := by omega
  clear hp hm0 hcur hBr hO hb3 hA2 hR2 hbel2 hBn hcl lA2 hbel
  go_loopw [16] (fun i wr => ∃ j : Nat, j ≤ (cellsTo g 64).length ∧ i = .int .i64 j ∧ RG w wr (w.heap.size + 1) q1 w.heap.size r g.cells cur 30 3 (mirT g ((cellsTo g 64).take j))) (fun i _ => (cellsTo g 64).length - (intOf i).toNat)
  case atStart => exact ⟨0, by omega, rfl, hst⟩
  case round =>
    clear hst
    obtain ⟨j, hj, rfl, hst⟩ := hrel
    have bj : (0 : Int) ≤ j := by omega
    by_cases hlt : j < (cellsTo g 64).length
    · have HLT := Lib.hid hlt
      have h64 := cellsTo_length g 64
      have E1 := Lib.hid (wrap_succ64 (j := j) (by omega))
      have E2 := Lib.hid (congrArg (Value.int .i64) E1.out)
      have E4 := Lib.hid (meas64 hlt h64)
      clear h64
      have bl : (j : Int) < (cellsTo g 64).length := by omega
      obtain ⟨c, hc⟩ : ∃ c, (cellsTo g 64)[j]? = some c := ⟨_, List.getElem?_eq_getElem hlt⟩
      have hcm := cellsTo_lt (List.mem_of_getElem? hc)
      have hc64 := hcm.1
      have e0 := (hst.bB.cell j).trans (HC.out j c hc)
      obtain ⟨hmi, hm64, hmc, hmm⟩ := mk_cell hc64 h8 hcm.2
      have HIS := Lib.hid (And.intro hcm.2 (And.intro hmc hmm))
      have HTK : Hid ((cellsTo g 64).take (j + 1) = (cellsTo g 64).take j ++ [c]) := Lib.hid (by rw [List.take_add_one, hc]; rfl)
      have ca := hst.bA.gat.get0
      have bc : (0 : Int) ≤ c := by omega
      have bc2 : (c : Int) < 64 := by omega
      have u1 := IntWalk.i64_in g.wide (by omega)
      clear hc hcm hmc hmm
      obtain ⟨d, hd⟩ : ∃ d, mkN g c = d := ⟨_, rfl⟩
      have HD := Lib.hid hd
      rw [hd] at hmi hm64 HIS
      clear hd
      generalize hG0 : mirT g ((cellsTo g 64).take j) = G0 at *
      have HG0 := Lib.hid hG0
      clear hG0
      go_upto_region 9 with fail
      rw [← hmi]
      clear hmi ca e0
      have bd : (0 : Int) ≤ d := by omega
      have bd2 : (d : Int) < 64 := by omega
      have r1 := hst.bA.gat.getC c hc64
      have r2 := hst.bA.gat.getG c hc64
      have r3 := hst.bA.gat.getH c hc64
      have s1 := hst.b1.gat.getC d hm64
      have s2 := hst.b1.gat.getG d hm64
      have s3 := hst.b1.gat.getH d hm64
      have f1 := hst.b1.free (2 + d)
      have f2 := hst.b1.free (66 + d)
      have f3 := hst.b1.free (130 + d)
      have nq : w.heap.size ≠ q1 := by have := hst.le; omega
      go_region
      replace hst := (((hst.cell (2 + d) (.float .f32 (g.con c)) (Gr.putC _ _ _ hm64)).cell (66 + d) (.float .f32 (g.gai c)) (Gr.putG _ _ _ hm64)).cell (130 + d) (.float .f32 (g.hea c)) (Gr.setH _ _ _ hm64)).drew
      clear r1 r2 r3 s1 s2 s3 f1 f2 f3
      generalize (((wr.setCell ⟨q1, 2 + d, none⟩ (.float .f32 (g.con c))).setCell ⟨q1, 66 + d, none⟩ (.float .f32 (g.gai c))).setCell ⟨q1, 130 + d, none⟩ (.float .f32 (g.hea c))).drew = w9 at *
      have cF := hst.b1.gat.getF
      have fF := hst.b1.free 194
      have cG := hst.bA.gat.getF
      go_upto_region 10 with fail
      go_region
      have hrg := mirT_ok hg ((cellsTo g 64).take j)
      rw [HG0.out] at hrg
      obtain ⟨_, _, hrg1, hrg2⟩ := hrg
      rw [u64_and1W (fix_divW hg c).1 (fix_divW hg c).2, bit_or hg c d hrg1 hrg2]
      replace hst := (hst.cell 194 (.int .u64 (if isFxW g c then orB G0.fix d else G0.fix)) (Gr.setF _ _)).drew
      clear cF fF cG hrg1 hrg2
      generalize (w9.setCell ⟨q1, 194, none⟩ (.int .u64 (if isFxW g c then orB G0.fix d else G0.fix))).drew = wX at *
      replace hst : RG w wX (w.heap.size + 1) q1 w.heap.size r g.cells cur 30 3 (mirT g ((cellsTo g 64).take (j + 1))) := by
        rw [HTK.out, mirT_snoc h8 hh8 HIS.out.2.1 HIS.out.2.2 HD.out, HG0.out]
        exact hst
      go_wp2_with fail
      go_roundw
      case rel => exact ⟨j + 1, HLT.out, E2.out, hst⟩
      case measure =>
        exact E4.out
    · obtain rfl : j = (cellsTo g 64).length := Nat.le_antisymm hj (Nat.le_of_not_lt hlt)
      rw [List.take_length] at hst
      go_wp2_with (first | (refine wpList_load_blk rfl rfl rfl row66 hst.b1 (Gr.size _) ?_) | (refine wpList_store_blk rfl rfl rfl rfl row66 hst.b0 zeroGr.size (Gr.size _) (Gr.one _) ?_))
      refine bodyPost_row2 rfl rfl row66 (hst.b0.setRow _) (Gr.size _) rfl ?_
      exact ⟨rfl, below_setRow hst.bel (Nat.le_succ _) _⟩
end Go.Proofs.YtdnnjahdcabdmaaGreatDoor
/- What a mirrored ground has: plain laws. -/
namespace Go.Proofs.YtdnnjahdcabdmaaGreatDoor
open Go.ChangeShapes Go.WideShapes Go.ChangeAt Go.RowKit
set_option linter.unusedVariables false
set_option linter.unusedSimpArgs false
theorem mkN_mem {g : Gr} (h8 : g.wide ≤ 8) {k : Nat} (hk : k < 64) (hc : isC g k = true) : mkN g k ∈ cellsTo g 64 := cellsTo_memV.2 ⟨(mk_cell hk h8 hc).2.1, (mk_cell hk h8 hc).2.2.1⟩
theorem mirF_at {g : Gr} (f : Nat → Nat) (h8 : g.wide ≤ 8) {k : Nat} (hk : k < 64) : (if isC g k && decide (mkN g k ∈ cellsTo g 64) then f (mkN g k) else f k) = if isC g k then f (mkN g k) else f k := by
  cases hc : isC g k
  · rfl
  · rw [decide_eq_true (mkN_mem h8 hk hc)]; rfl
theorem mirG_con {g : Gr} (h8 : g.wide ≤ 8) {k : Nat} (hk : k < 64) : (mirG g).con k = if isC g k then g.con (mkN g k) else g.con k := mirF_at g.con h8 hk
theorem mirG_gai {g : Gr} (h8 : g.wide ≤ 8) {k : Nat} (hk : k < 64) : (mirG g).gai k = if isC g k then g.gai (mkN g k) else g.gai k := mirF_at g.gai h8 hk
theorem mirG_hea {g : Gr} (h8 : g.wide ≤ 8) {k : Nat} (hk : k < 64) : (mirG g).hea k = if isC g k then g.hea (mkN g k) else g.hea k := mirF_at g.hea h8 hk
theorem mirG_isC (g : Gr) (k : Nat) : isC (mirG g) k = isC g k := rfl
theorem mirG_mk (g : Gr) (k : Nat) : mkN (mirG g) k = mkN g k := rfl
theorem mirG_ok {g : Gr} (hg : g.ok) : (mirG g).ok := mirT_ok hg _
theorem bvV_zero (k : Nat) : (bvV 0).getLsbD k = false := by unfold bvV; simp
theorem mirG_fx {g : Gr} (hg : g.ok) (h8 : g.wide ≤ 8) {k : Nat} (hk : k < 64) : isFxW (mirG g) k = (isC g k && isFxW g (mkN g k)) := by
  rw [fx_lsbV (mirG_ok hg) hk]
  show (bvV (maskOf (((cellsTo g 64).filter (isFxW g)).map (mkN g)))).getLsbD k = _
  unfold maskOf
  rw [mask_lsbV _ _ _ (fun j hj => ?_) hk, bvV_zero, Bool.false_or]
  · cases hc : isC g k
    · rw [decide_eq_false]
      · rfl
      · intro h
        obtain ⟨j, hj, rfl⟩ := List.mem_map.1 h
        have hm := cellsTo_memV.1 (List.mem_filter.1 hj).1
        rw [(mk_cell hm.1 h8 hm.2).2.2.1] at hc
        cases hc
    · rw [Bool.true_and]
      have hm := mk_cell hk h8 hc
      cases hf : isFxW g (mkN g k)
      · rw [decide_eq_false]
        intro h
        obtain ⟨j, hj, e⟩ := List.mem_map.1 h
        have hj2 := List.mem_filter.1 hj
        have hj3 := cellsTo_memV.1 hj2.1
        rw [← e, (mk_cell hj3.1 h8 hj3.2).2.2.2, hj2.2] at hf
        cases hf
      · rw [decide_eq_true]
        exact List.mem_map.2 ⟨mkN g k, List.mem_filter.2 ⟨cellsTo_memV.2 ⟨hm.2.1, hm.2.2.1⟩, hf⟩, hm.2.2.2⟩
  · obtain ⟨i, hi, rfl⟩ := List.mem_map.1 hj
    have hm := cellsTo_memV.1 (List.mem_filter.1 hi).1
    exact (mk_cell hm.1 h8 hm.2).2.1
theorem fix_ext {g h : Gr} (hg : g.ok) (hh : h.ok) (e : ∀ k, k < 64 → isFxW g k = isFxW h k) : g.fix = h.fix := by
  have hb : bvV g.fix = bvV h.fix := by
    apply BitVec.eq_of_getLsbD_eq
    intro i hi
    rw [← fx_lsbV hg hi, ← fx_lsbV hh hi, e i hi]
  have hn : ∀ z : Int, 0 ≤ z → z < 18446744073709551616 → ((bvV z).toNat : Int) = z := fun z a b => by
    unfold bvV
    rw [BitVec.toNat_ofInt]
    omega
  rw [← hn g.fix hg.fix.1 hg.fix.2, ← hn h.fix hh.fix.1 hh.fix.2, hb]
theorem mirG_twice {g : Gr} (hg : g.ok) (hv : validG g = true) : (mirG (mirG g)).fix = g.fix ∧ ∀ k, k < 64 → (mirG (mirG g)).con k = g.con k ∧ (mirG (mirG g)).gai k = g.gai k ∧ (mirG (mirG g)).hea k = g.hea k := by
  have h8 : g.wide ≤ 8 := (validG_partsV hv).1.2
  have h8' : (mirG g).wide ≤ 8 := h8
  refine ⟨fix_ext (mirG_ok (mirG_ok hg)) hg fun k hk => ?_, fun k hk => ?_⟩
  · rw [mirG_fx (mirG_ok hg) h8' hk, mirG_isC, mirG_mk]
    cases hc : isC g k
    · cases hf : isFxW g k
      · rfl
      · rw [fx_cellV hg hv hk hf] at hc; cases hc
    · have hm := mk_cell hk h8 hc
      rw [mirG_fx hg h8 hm.2.1, hm.2.2.1, hm.2.2.2]; rfl
  · rw [mirG_con h8' hk, mirG_gai h8' hk, mirG_hea h8' hk, mirG_isC, mirG_mk]
    cases hc : isC g k
    · simp only [Bool.false_eq_true, if_false]
      rw [mirG_con h8 hk, mirG_gai h8 hk, mirG_hea h8 hk, hc]
      exact ⟨rfl, rfl, rfl⟩
    · have hm := mk_cell hk h8 hc
      simp only [if_true]
      rw [mirG_con h8 hm.2.1, mirG_gai h8 hm.2.1, mirG_hea h8 hm.2.1, hm.2.2.1, hm.2.2.2]
      exact ⟨rfl, rfl, rfl⟩
end Go.Proofs.YtdnnjahdcabdmaaGreatDoor
/- A mirrored valid ground is valid: plain laws. -/
namespace Go.Proofs.YtdnnjahdcabdmaaGreatDoor
open Go.ChangeShapes Go.WideShapes Go.ChangeAt Go.RowKit
set_option linter.unusedVariables false
set_option linter.unusedSimpArgs false
theorem fieldIs_mk {q : Nat → Bool} {g : Gr} {f : Nat → Nat} (h : ∀ k, k < 64 → (isC g k = true → q (f k) = true) ∧ (isC g k = false → feq (f k) 0 = true)) : fieldIs q g f = true := by
  unfold fieldIs
  rw [Bool.not_eq_true', anyTo_false]
  intro k hk
  unfold badAt
  cases hc : isC g k
  · simp [(h k hk).2 hc]
  · simp [(h k hk).1 hc]
theorem fieldIs_mir {q : Nat → Bool} {g : Gr} {f F : Nat → Nat} (h8 : g.wide ≤ 8) (h : fieldIs q g f = true) (hF : ∀ k, k < 64 → F k = if isC g k then f (mkN g k) else f k) : fieldIs q (mirG g) F = true := by
  refine fieldIs_mk fun k hk => ?_
  rw [mirG_isC, hF k hk]
  cases hc : isC g k
  · exact ⟨(fun e => nomatch e), fun _ => (fieldIs_at h k hk).2 hc⟩
  · have hm := mk_cell hk h8 hc
    exact ⟨fun _ => (fieldIs_at h _ hm.2.1).1 hm.2.2.1, fun e => nomatch e⟩
theorem fixOk_mk {g : Gr} (hg : g.ok) (h1 : ∃ k, k < 64 ∧ isFxW g k = true) (h2 : ∀ k, k < 64 → isFxW g k = true → isC g k = true) : fixOk g = true := by
  unfold fixOk
  rw [Bool.and_eq_true]
  constructor
  · obtain ⟨k, hk, hf⟩ := h1
    rw [bne_iff_ne]
    intro e
    rw [fx_lsbV hg hk, e, bvV_zero] at hf
    cases hf
  · rw [andNot_zeroV]
    apply BitVec.eq_of_getLsbD_eq
    intro i hi
    rw [BitVec.getLsbD_and, BitVec.getLsbD_not, ← fx_lsbV hg hi]
    unfold maskOf
    rw [mask_lsbV _ _ _ (fun j hj => (cellsTo_memV.1 hj).1) hi, bvV_zero, Bool.false_or]
    cases hf : isFxW g i
    · simp
    · rw [decide_eq_true (cellsTo_memV.2 ⟨hi, h2 i hi hf⟩)]
      simp
theorem fix_some {g : Gr} (hg : g.ok) (hv : validG g = true) : ∃ k, k < 64 ∧ isFxW g k = true := by
  have hf := (validG_partsV hv).2.2.2.2.2
  unfold fixOk at hf
  rw [Bool.and_eq_true, bne_iff_ne] at hf
  apply Classical.byContradiction
  intro hn
  apply hf.1
  have hz : ∀ k, k < 64 → isFxW g k = false := fun k hk => by
    cases h : isFxW g k
    · rfl
    · exact absurd ⟨k, hk, h⟩ hn
  have hb : bvV g.fix = 0#64 := by
    apply BitVec.eq_of_getLsbD_eq
    intro i hi
    rw [← fx_lsbV hg hi, hz i hi]; simp
  have := hg.fix
  have h2 : ((bvV g.fix).toNat : Int) = g.fix := by
    unfold bvV
    rw [BitVec.toNat_ofInt]
    omega
  rw [← h2, hb]; rfl
theorem mirG_valid {g : Gr} (hg : g.ok) (hv : validG g = true) : validG (mirG g) = true := by
  obtain ⟨p1, p2, p3, p4, p5, p6⟩ := validG_partsV hv
  have h8 := p1.2
  have q3 := fieldIs_mir h8 p3 (F := (mirG g).con) fun k hk => mirG_con h8 hk
  have q4 := fieldIs_mir h8 p4 (F := (mirG g).gai) fun k hk => mirG_gai h8 hk
  have q5 := fieldIs_mir h8 p5 (F := (mirG g).hea) fun k hk => mirG_hea h8 hk
  have q6 : fixOk (mirG g) = true := by
    refine fixOk_mk (mirG_ok hg) ?_ fun k hk h => ?_
    · obtain ⟨k, hk, hf⟩ := fix_some hg hv
      have hm := mk_cell hk h8 (fx_cellV hg hv hk hf)
      exact ⟨mkN g k, hm.2.1, by rw [mirG_fx hg h8 hm.2.1, hm.2.2.1, hm.2.2.2, hf]; rfl⟩
    · rw [mirG_fx hg h8 hk, Bool.and_eq_true] at h
      exact h.1
  unfold validG
  rw [q3, q4, q5, q6]
  show ((decide (2 ≤ g.wide) && decide (g.wide ≤ 8)) && ((decide (2 ≤ g.high) && decide (g.high ≤ 8)) && true)) = true
  simp only [Bool.and_eq_true, decide_eq_true_eq]
  exact ⟨p1, p2, trivial⟩
end Go.Proofs.YtdnnjahdcabdmaaGreatDoor
/- FnGrounds, plain laws: the opposite side, the ground read back, the number read back; no statement is proved here. -/
namespace Go.Proofs.YtdnnjahdcabdmaaGreatDoor
open Ieee
set_option linter.unusedVariables false
set_option linter.unusedSimpArgs false

/-- The side that looks back. -/
def opp (s : Nat) : Nat := (s + 2) % 4
theorem opp_lt (s : Nat) : opp s < 4 := Nat.mod_lt _ (by decide)
theorem nbr_back {g : Gr} (hsm : g.small) {c s : Nat} (hc : c < 64) (hcc : isC g c = true) (hs : s < 4) (hn : nbr g c s = true) : isC g (nx g c s) = true ∧ nbr g (nx g c s) (opp s) = true ∧ nx g (nx g c s) (opp s) = c := by
  obtain ⟨hw, hh⟩ := hsm
  unfold isC at hcc
  simp only [Bool.and_eq_true, decide_eq_true_eq] at hcc
  obtain ⟨c1, c2⟩ := hcc
  unfold nbr at hn
  rw [decide_eq_true_eq] at hn
  unfold bes at hn
  by_cases hb : besIn g c s = true
  · have hnx : nx g c s = (besX c s + 8 * besY c s).toNat := by unfold nx bes; rw [if_pos hb]
    unfold besIn at hb
    simp only [Bool.and_eq_true, decide_eq_true_eq] at hb
    obtain ⟨⟨x0, x1⟩, y0, y1⟩ := hb
    obtain ⟨k, hk⟩ : ∃ k : Nat, nx g c s = k := ⟨_, rfl⟩
    rw [hk] at hnx ⊢
    have hkz : (k : Int) = besX c s + 8 * besY c s := by omega
    have k1 : (k : Int) % 8 = besX c s := by omega
    have k2 : (k : Int) / 8 = besY c s := by omega
    have e1 : besX k (opp s) = (c : Int) % 8 := by
      unfold besX at k1 ⊢
      rw [k1]
      obtain rfl | rfl | rfl | rfl : s = 0 ∨ s = 1 ∨ s = 2 ∨ s = 3 := by omega
      all_goals (simp [opp]; try omega)
    have e2 : besY k (opp s) = (c : Int) / 8 := by
      unfold besY at k2 ⊢
      rw [k2]
      obtain rfl | rfl | rfl | rfl : s = 0 ∨ s = 1 ∨ s = 2 ∨ s = 3 := by omega
      all_goals (simp [opp]; try omega)
    have hin : besIn g k (opp s) = true := by
      unfold besIn
      rw [e1, e2]
      simp only [Bool.and_eq_true, decide_eq_true_eq]
      omega
    have hbes : bes g k (opp s) = (c : Int) := by
      unfold bes; rw [if_pos hin, e1, e2]; omega
    refine ⟨?_, ?_, ?_⟩
    · unfold isC
      simp only [Bool.and_eq_true, decide_eq_true_eq]
      omega
    · unfold nbr; rw [hbes]; simp
    · unfold nx; rw [hbes]; simp
  · rw [if_neg hb] at hn; omega
theorem IsDrawn.sm {g : Gr} (h : IsDrawn g) : g.small := by have := h.small; exact ⟨by omega, by omega⟩
theorem con_lt13 : ∀ x : Nat, x < 12 → conOf x < 4294967296 := by decide +kernel
theorem head_lt65 : ∀ x : Nat, x < 65 → headOf x < 4294967296 := by decide +kernel
/-- A drawn ground has a text. -/
theorem IsDrawn.text {g : Gr} (h : IsDrawn g) : HasText g := by
  refine ⟨h.ok, h.valid, fun k hk hc => ?_, fun k hk => ⟨?_, h.gai_lt k hk, ?_⟩⟩
  · refine ⟨?_, ?_, h.off k hk hc⟩
    · rcases h.con k hk with e | ⟨e, _⟩
      · exact e
      · rw [hc] at e; cases e
    · rcases h.gai k hk with e | ⟨e, _⟩
      · exact e
      · rw [hc] at e; cases e
  · rcases h.con k hk with e | ⟨_, x, hx, e⟩
    · rw [e]; decide
    · rw [e]; exact con_lt13 x hx
  · cases hc : isC g k
    · rw [h.off k hk hc]; decide
    · obtain ⟨x, hx, e⟩ := h.hea k hk hc
      rw [e]; exact head_lt65 x hx
/-- What is read back has the ground's cells. -/
theorem gdR_cells {g : Gr} (h : HasText g) : (gdR (txtGr g)).cells = g.cells := by
  obtain ⟨h0, h1, h2, h3⟩ := gdR_txt h
  exact Gr.cells_eq h0 h1 h2 (fun k hk => (h3 k hk).1) (fun k hk => (h3 k hk).2.1) (fun k hk => (h3 k hk).2.2)
theorem mirG_cells {g : Gr} (hg : g.ok) (hv : validG g = true) : (mirG (mirG g)).cells = g.cells := by
  obtain ⟨h2, h3⟩ := mirG_twice hg hv
  exact Gr.cells_eq rfl rfl h2 (fun k hk => (h3 k hk).1) (fun k hk => (h3 k hk).2.1) (fun k hk => (h3 k hk).2.2)
theorem headG_len {g : Gr} (h : HasText g) : (headG g).length ≤ 16 := by
  have hv := validG_partsV h.valid
  have h1 := itoa_len (z := g.wide) (by omega)
  have h2 := itoa_len (z := g.high) (by omega)
  unfold headG glue glue
  simp; omega
theorem txtGr_short {g : Gr} (h : HasText g) : (txtGr g).length ≤ 1048576 := by
  have h1 := rowsC_len g (cellsTo g 64)
  have h2 : (cellsTo g 64).length ≤ 64 := by
    have := List.length_filter_le (isC g) (List.range 64)
    rw [List.length_range] at this
    exact this
  have h3 := headG_len h
  unfold txtGr
  rw [List.length_append]
  omega
/-- A number's text, read back. -/
theorem numL_back {b : Nat} (h : b < 4294967296) : numB (txt b) = cn b ∧ numC (txt b) = 0 := by
  have hn := numL_txt h
  unfold numB numC
  rw [hn]
  exact ⟨rfl, rfl⟩
end Go.Proofs.YtdnnjahdcabdmaaGreatDoor
