import Derived.Test.YtdnnjahdcabdmaaGreatDoorMO36
import Derived.Test.YtdnnjahdcabdmaaGreatDoorMO03
import Derived.Test.YtdnnjahdcabdmaaGreatDoorMO02
import Derived.Test.YtdnnjahdcabdmaaGreatDoorMO11
import Derived.Test.YtdnnjahdcabdmaaGreatDoorMO31
import Derived.Test.YtdnnjahdcabdmaaGreatDoorMO14
import Derived.Lib.SliceRun
import Derived.Laws.IdiomCopy
/- An office drawn from bytes (A2Office). -/
namespace Go.Proofs.YtdnnjahdcabdmaaGreatDoor
open Go.ChangeShapes Go.WideShapes Go.ChangeAt Go.RowKit
set_option linter.unusedVariables false
set_option linter.unusedSimpArgs false
attribute [local irreducible] Calls
/-- What A2Office gives. -/
def GotO (w : World) (e : Ending) (w' : World) : Prop := ∃ (G : Gr) (u : Value) (n : Nat) (P : Nat → Wt), IsDrawn G ∧ n ≤ 3 ∧ (∀ i, i < n → goodW G (P i)) ∧ e = .returned (.agg (ofc G u)) ∧ WLB w' w.heap.size u n P ∧ Below w.heap.size w w'
theorem WLB.ge {w : World} {B B' : Nat} {v : Value} {n : Nat} {P : Nat → Wt} (h : WLB w B v n P) (hB : B' ≤ B) : WLB w B' v n P := by
  rcases h with h | ⟨g, c, h1, h2, h3⟩
  · exact .inl h
  · exact .inr ⟨g, c, h1, h2, by omega⟩
theorem WLB.one {w : World} {B : Nat} {v : Value} {n : Nat} {P : Nat → Wt} (h : WLB w B v n P) : v.oneCell' = true := by
  rcases h with ⟨_, rfl⟩ | ⟨g, c, rfl, _⟩ <;> rfl
set_option maxRecDepth 100000 in
set_option maxHeartbeats 400000 in
theorem a2Office_any (v : Value) (n : Nat) (w : World) (hv : Bytes w w.heap.size v n) :
    Calls Tryz.prog 6 #[v] w (GotO w) := by
  go_enter Tryz.func6, Tryz.ntmps6
  go_upto_region 1 with (refine wpList_alloc_as rfl rfl zero76 ?_)
  have hb0 := Blk.new w (ofc ⟨0, 0, fun _ => 0, fun _ => 0, fun _ => 0, 0⟩ (.slice none 0 0)) 33
  have hbel : Below w.heap.size w (w.alloc (.cells (ofc ⟨0, 0, fun _ => 0, fun _ => 0, fun _ => 0, 0⟩ (.slice none 0 0)) 33)) := below1 _ _
  have hv1 : Bytes (w.alloc (.cells (ofc ⟨0, 0, fun _ => 0, fun _ => 0, fun _ => 0, 0⟩ (.slice none 0 0)) 33)) (w.alloc (.cells (ofc ⟨0, 0, fun _ => 0, fun _ => 0, fun _ => 0, 0⟩ (.slice none 0 0)) 33)).heap.size v n := by
    obtain ⟨a, c, h1, h2, h3⟩ := hv.move (w' := w.alloc (.cells (ofc ⟨0, 0, fun _ => 0, fun _ => 0, fun _ => 0, 0⟩ (.slice none 0 0)) 33)) (fun r hr => heap_alloc_old w _ hr)
    refine ⟨a, c, h1, h2, fun j hj => ?_⟩
    obtain ⟨r, o, x, g1, g2, g3⟩ := h3 j hj
    exact ⟨r, o, x, g1, by simp; omega, g3⟩
  generalize w.alloc (.cells (ofc ⟨0, 0, fun _ => 0, fun _ => 0, fun _ => 0, 0⟩ (.slice none 0 0)) 33) = W at *
  have lW := hb0.lt
  have hs := src_new hv1
  have hfr := l00From_any v n W hv1
  have hbs : Below w.heap.size w (W.alloc (.cells #[v, .int .i64 0, .int .u64 0] 149)) := hbel.alloc (by omega) _
  have hb0 := hb0.alloc (.cells #[v, .int .i64 0, .int .u64 0] 149)
  generalize W.alloc (.cells #[v, .int .i64 0, .int .u64 0] 149) = W1 at *
  generalize hq : W.heap.size = q at *
  have hdr := l07Drawn_any q 0 (by omega) W1 hs
  have lq := hs.lt
  clear hs hv1 hv
  go_upto_region 9 with (first | (go_at_call 43; refine hfr.mono ?_; rintro e w1 ⟨rfl, hw⟩; subst hw) | (go_at_call 42; refine hdr.mono ?_; rintro e w2 ⟨G, u, n, P, hG, hn, hP, rfl, hL, hs2, hg2⟩; clear hdr) | (refine wpList_store_blk (C' := ofc G u) rfl rfl rfl rfl row76 (hb0.grown hg2 (fun e => by injection e; omega)) (ofc_size _ _) (ofc_size _ _) (ofc_one _ _ hL.one) ?_))
  have hb2 := hb0.grown hg2 (fun e => by injection e; omega)
  refine bodyPost_row rfl rfl row76 (hb2.setRow _) (ofc_size _ _) rfl ⟨G, u, n, P, hG, hn, hP, rfl, ?_, below_setRow (hbs.grown hg2 (by have := hbs.size; omega) (fun k e => by injection e; omega)) (Nat.le_refl _) _⟩
  rcases hL with h | ⟨g, c, h1, h2, h3⟩
  · exact .inl h
  · exact .inr ⟨g, c, h1, h2.move (setRow_other w2 w.heap.size g _ (by omega)), by omega⟩
end Go.Proofs.YtdnnjahdcabdmaaGreatDoor
/- The program's WaveFrom: the mean and the wave that are seen in twelve levels. -/
namespace Go.Proofs.YtdnnjahdcabdmaaGreatDoor
open Go.ChangeShapes Go.WideShapes Go.ChangeAt Go.RowKit
set_option linter.unusedVariables false

theorem cell16 : CellTy Tryz.prog 57 := ⟨.int .i16, Tryz.underlying57, rfl, by kernel_rfl⟩
theorem elF32 : ElemTy Tryz.prog 42 25 1 4 := elem_of (z := .float .f32 0) Tryz.underlying42 (by kernel_rfl) rfl

/-- The height of an hour. -/
def wfY (f : Nat → Int) (i : Nat) : Nat := fop .quo (cn (floatOfInt .f32 (f i))) (cn 1098907648)
/-- The mean of all hours. -/
def wfM (f : Nat → Int) : Nat := fop .quo (fsumTo (wfY f) 12) (cn 1094713344)
def wfA (f : Nat → Int) (i : Nat) : Nat := fop .mul (fop .sub (wfY f i) (wfM f)) (cn (cosT i))
def wfB (f : Nat → Int) (i : Nat) : Nat := fop .sub (cn 0) (fop .mul (fop .sub (wfY f i) (wfM f)) (cn (sinT i)))
def wfRe (f : Nat → Int) : Nat := fop .quo (fsumTo (wfA f) 12) (cn 1086324736)
def wfIm (f : Nat → Int) : Nat := fop .quo (fsumTo (wfB f) 12) (cn 1086324736)

end Go.Proofs.YtdnnjahdcabdmaaGreatDoor
/- The reference's WaveFrom: the mean and the wave that are seen in twelve levels. -/
namespace Go.Proofs.YtdnnjahdcabdmaaGreatDoor
open Go.ChangeShapes Go.WideShapes Go.ChangeAt Go.RowKit
set_option linter.unusedVariables false

end Go.Proofs.YtdnnjahdcabdmaaGreatDoor
/- The head of a tide at an hour, in the program and in the reference, up to the bits of a number that is none. -/
namespace Go.Proofs.YtdnnjahdcabdmaaGreatDoor
open Go.ChangeShapes Go.WideShapes Go.ChangeAt Go.RowKit
set_option linter.unusedVariables false
set_option linter.unusedSimpArgs false
attribute [local irreducible] Calls
/-- The first part of a product. -/
def reT (a b c d : Nat) : Nat := fop .sub (fop .mul a c) (fop .mul b d)
/-- The head at an hour. -/
def headT (m a b : Nat) (h : Int) : Nat := fop .add m (reT a b (cosT (h % 12).toNat) (sinT (h % 12).toNat))
theorem cn_headT (m a b : Nat) (h : Int) : cn (headT m a b h) = headT m a b h := cn_fop _ _ _
theorem cn_reT (a b c d : Nat) : cn (reT a b c d) = reT a b c d := cn_fop _ _ _
end Go.Proofs.YtdnnjahdcabdmaaGreatDoor
/- A tide step, in the program ((*Ground).tide) and in the reference (l06Tidal). -/
namespace Go.Proofs.YtdnnjahdcabdmaaGreatDoor
open Go.ChangeShapes Go.WideShapes Go.ChangeAt Go.RowKit
set_option linter.unusedVariables false
set_option linter.unusedSimpArgs false
/-! ### A fixed cell is a cell. -/
theorem bv_pow {k i : Nat} (hk : k < 64) (hi : i < 64) : (bv (IntKind.u64.wrap (2 ^ k))).getLsbD i = decide (i = k) := by
  have h1 : (2 : Int) ^ k = ((2 ^ k : Nat) : Int) := by simp
  have h2 : (2 : Nat) ^ k < 2 ^ 64 := Nat.pow_lt_pow_right (by decide) hk
  have h3 : ∀ x : Nat, x < 2 ^ 64 → IntKind.u64.wrap (x : Int) = (x : Int) := fun x hx => by rw [IntKind.wrap_u64]; omega
  have h3 := h3 _ h2
  rw [h1, h3]
  unfold bv
  rw [BitVec.ofInt_natCast, BitVec.getLsbD_ofNat, decide_eq_true hi, Bool.true_and, Nat.testBit_two_pow]
  by_cases h : k = i
  · subst h; simp
  · simp [h, Ne.symm h]
theorem mask_lsb : ∀ (L : List Nat) (x : Int) (i : Nat), (∀ k, k ∈ L → k < 64) → i < 64 → (bv (L.foldl orB x)).getLsbD i = ((bv x).getLsbD i || decide (i ∈ L))
  | [], x, i, _, _ => by simp
  | k :: L, x, i, h, hi => by
    rw [List.foldl_cons, mask_lsb L _ i (fun j hj => h j (List.mem_cons_of_mem _ hj)) hi, orB_bv, bv_nat, BitVec.getLsbD_or, bv_pow (h k List.mem_cons_self) hi]
    simp [Bool.or_assoc]
theorem fx_lsb {g : Gr} (hg : g.ok) {k : Nat} (hk : k < 64) : isFx g k = (bv g.fix).getLsbD k := by
  obtain ⟨n, hn⟩ : ∃ n : Nat, (n : Int) = g.fix := ⟨g.fix.toNat, by have := hg.fix; omega⟩
  have hlt : n < 18446744073709551616 := by have := hg.fix; omega
  unfold isFx bv
  rw [← hn, BitVec.ofInt_natCast, BitVec.getLsbD_ofNat, decide_eq_true hk, Bool.true_and, Nat.testBit_eq_decide_div_mod_eq]
  have e : (n : Int) / 2 ^ k % 2 = ((n / 2 ^ k % 2 : Nat) : Int) := by simp
  rw [e]
  by_cases h : n / 2 ^ k % 2 = 1
  · simp [h]
  · have : n / 2 ^ k % 2 = 0 := by omega
    simp [this]
theorem fx_cell {g : Gr} (hg : g.ok) (hv : validG g = true) {k : Nat} (hk : k < 64) (h : isFx g k = true) : isC g k = true := by
  have hf := (validG_parts hv).2.2.2.2.2
  unfold fixOk at hf
  rw [Bool.and_eq_true] at hf
  have h1 := lsb_and (andNot_zero.1 hf.2) k hk
  rw [← fx_lsb hg hk, h, Bool.true_and] at h1
  unfold maskOf at h1
  rw [mask_lsb _ _ _ (fun j hj => (cellsTo_mem.1 hj).1) hk] at h1
  have h2 : (bv 0).getLsbD k = false := by unfold bv; simp
  rw [h2, Bool.false_or, Bool.not_eq_false', decide_eq_true_eq] at h1
  exact (cellsTo_mem.1 h1).2
/-- The heads with a tide at the fixed cells. -/
def tidH (g : Gr) (H : Nat) (k : Nat) : Nat := if (decide (k < 64) && isC g k) && isFx g k then H else g.hea k
def tidG (g : Gr) (H : Nat) : Gr := { g with hea := tidH g H }
/-- What a tide step gives. -/
def tidR (g : Gr) (H part : Nat) : Gr := if plain H then stepR (tidG g H) part else zeroG
def tidC (g : Gr) (H part : Nat) : Int := if plain H then stepC (tidG g H) part else 4
/-- .. up to some of the cells. -/
def tidA (g : Gr) (H : Nat) (L : List Nat) (k : Nat) : Nat := if decide (k ∈ L) && isFx g k then H else g.hea k
theorem tidA_nil (g : Gr) (H : Nat) : tidA g H [] = g.hea := by funext k; simp [tidA]
theorem tidA_snoc (g : Gr) (H : Nat) (L : List Nat) (k : Nat) (h : isFx g k = true) : tidA g H (L ++ [k]) = upd (tidA g H L) k H := by
  funext i
  unfold upd tidA
  by_cases hik : i = k
  · subst hik; simp [h]
  · rw [if_neg hik]; simp [hik]
theorem tidA_stay (g : Gr) (H : Nat) (L : List Nat) (k : Nat) (h : isFx g k = false) : tidA g H (L ++ [k]) = tidA g H L := by
  funext i
  unfold tidA
  by_cases hik : i = k
  · subst hik; simp [h]
  · simp [hik]
theorem tidA_all (g : Gr) (H : Nat) : tidA g H (cellsTo g 64) = tidH g H := by
  funext i
  unfold tidA tidH
  have : decide (i ∈ cellsTo g 64) = (decide (i < 64) && isC g i) := by
    rw [Bool.eq_iff_iff]
    simp [cellsTo_mem]
  rw [this]
def tidB (g : Gr) (H : Nat) (j k : Nat) : Nat := if decide (k < j) && isFx g k then H else g.hea k
theorem tidB_zero (g : Gr) (H : Nat) : tidB g H 0 = g.hea := by funext k; simp [tidB]
theorem tidB_set (g : Gr) (H : Nat) (j : Nat) (h : isFx g j = true) : tidB g H (j + 1) = upd (tidB g H j) j H := by
  funext i
  unfold upd tidB
  by_cases hik : i = j
  · subst hik; simp [h]
  · rw [if_neg hik]
    have : decide (i < j + 1) = decide (i < j) := by by_cases h : i < j <;> simp [h] <;> omega
    rw [this]
theorem tidB_stay (g : Gr) (H : Nat) (j : Nat) (h : isFx g j = false) : tidB g H (j + 1) = tidB g H j := by
  funext i
  unfold tidB
  by_cases hik : i = j
  · subst hik; simp [h]
  · have : decide (i < j + 1) = decide (i < j) := by by_cases h : i < j <;> simp [h] <;> omega
    rw [this]
theorem tidB_all {g : Gr} (hg : g.ok) (hv : validG g = true) (H : Nat) : tidB g H 64 = tidH g H := by
  funext i
  unfold tidB tidH
  by_cases hi : i < 64
  · cases hf : isFx g i
    · simp
    · rw [fx_cell hg hv hi hf]; simp
  · simp [hi]
attribute [local irreducible] Calls
section
variable {P : Program}
theorem alloc_run {ev : Operand → Value} {w : World} {t : TypeId} {Z : Array Value} {pos : String} {dst : Option Tmp} {tt : TypeId} {af : Array Edge} {gd : Option (Nat × Bool)} (hz : ZeroTy P t Z) : (execOp ev { dst := dst, op := .alloc t, type := tt, pos := pos, after := af, guard := gd }).run P w = .ok (.value (.pointer (some ⟨w.heap.size, 0, none⟩))) (w.alloc (.cells Z t)) := by
  unfold ZeroTy at hz
  cases hq : P.info? t with
  | none => simp [hq] at hz
  | some i =>
    have hz' : i.zero = some (.agg Z) := by simpa [hq] using hz
    have hr : (Instr.alloc t true (.tuple #[])).run P w = .ok (.pointer (some ⟨w.heap.size, 0, none⟩)) (w.alloc (.cells Z t)) := by
      simp [Instr.alloc, zeroValue, typeInfo, hq, hz', newVar, newRow, Value.cells]
    simp [execOp, hr]
theorem load_gat {ev : Operand → Value} {w : World} {ty : TypeId} {x : Operand} {b : Nat} {g : Gr} {pos : String} {dst : Option Tmp} {tt : TypeId} {af : Array Edge} {gd : Option (Nat × Bool)} (hx : ev x = .pointer (some ⟨b, 0, none⟩)) (hr : RowTy P ty 195) (hb : GAt w b g) : (execOp ev { dst := dst, op := .load ty x, type := tt, pos := pos, after := af, guard := gd }).run P w = .ok (.value (.agg g.cells)) w := by
  obtain ⟨d, hu, hd, hi⟩ := hr
  have hl := run_loadVar_mid (P := P) w b 0 ty g.cells.toList d (fun j u hj => by
    have hj2 : j < 195 := by
      rcases Nat.lt_or_ge j g.cells.toList.length with h2 | h2
      · simpa [g.size] using h2
      · rw [List.getElem?_eq_none h2] at hj; cases hj
    have := hb.mem j hj2
    rw [Array.getElem?_toList, g.get j hj2] at hj
    rw [Nat.zero_add, this, hj]) hu hd (by rw [hi]; simp [g.size])
  rw [Array.toArray_toList] at hl
  simp [execOp, hx, Instr.loadAt, Instr.sureAddr, hl]
end
end Go.Proofs.YtdnnjahdcabdmaaGreatDoor
/- TideStep and TideRun where all is valid, in the program and in the reference. -/
namespace Go.Proofs.YtdnnjahdcabdmaaGreatDoor
open Go.ChangeShapes Go.WideShapes Go.ChangeAt Go.RowKit
set_option linter.unusedVariables false
set_option linter.unusedSimpArgs false
attribute [local irreducible] Calls
/-- A ground and the numbers of a tide, all valid. -/
structure TOk (g : Gr) (m a b part : Nat) : Prop where
  ok : g.ok
  valid : validG g = true
  pm : plain m = true
  pa : plain a = true
  pb : plain b = true
  pp : plain part = true
theorem hour_in {h : Int} (h0 : 0 ≤ h) (h1 : h ≤ 100000) : (decide (0 ≤ h) && decide (h ≤ 100000)) = true := by simp; omega
end Go.Proofs.YtdnnjahdcabdmaaGreatDoor
/- Tide steps one after the other, with what is seen behind each (tides), and TideRun. -/
namespace Go.Proofs.YtdnnjahdcabdmaaGreatDoor
open Go.ChangeShapes Go.WideShapes Go.ChangeAt Go.RowKit
set_option linter.unusedVariables false
set_option linter.unusedSimpArgs false
attribute [local irreducible] Calls
/-- The ground behind k tide steps, and the code. -/
def tidTo (g : Gr) (m a b part : Nat) : Nat → Gr × Int
  | 0 => (g, 0)
  | k + 1 => if (tidTo g m a b part k).2 = 0 then (tidR (tidTo g m a b part k).1 (headT m a b k) part, tidC (tidTo g m a b part k).1 (headT m a b k) part) else tidTo g m a b part k
theorem tidTo_go {g : Gr} {m a b part k : Nat} (h : (tidTo g m a b part k).2 = 0) : tidTo g m a b part (k + 1) = (tidR (tidTo g m a b part k).1 (headT m a b k) part, tidC (tidTo g m a b part k).1 (headT m a b k) part) := by
  show (if _ then _ else _) = _
  rw [if_pos h]
theorem tidTo_stay {g : Gr} {m a b part k : Nat} (h : (tidTo g m a b part k).2 ≠ 0) : ∀ n, k ≤ n → tidTo g m a b part n = tidTo g m a b part k
  | 0, hn => by obtain rfl : k = 0 := by omega
                rfl
  | n + 1, hn => by
    by_cases hk : k = n + 1
    · rw [hk]
    · have e := tidTo_stay h n (by omega)
      have e2 : tidTo g m a b part (n + 1) = if (tidTo g m a b part n).2 = 0 then (tidR (tidTo g m a b part n).1 (headT m a b n) part, tidC (tidTo g m a b part n).1 (headT m a b n) part) else tidTo g m a b part n := rfl
      rw [e2, e, if_neg h]
theorem tidR_zero {g : Gr} {H part : Nat} (h : tidC g H part = 0) : plain H = true ∧ stepIs (tidG g H) part = true ∧ tidR g H part = stepG (tidG g H) part := by
  unfold tidC at h
  unfold tidR
  cases hp : plain H
  · rw [hp] at h; cases h
  · rw [hp, if_pos rfl] at h
    rw [if_pos rfl]
    unfold stepC at h
    unfold stepR
    cases hs : stepIs (tidG g H) part
    · rw [hs] at h; cases h
    · exact ⟨rfl, rfl, rfl⟩
theorem tidR_tok {g : Gr} {m a b part H : Nat} (ho : TOk g m a b part) (h : tidC g H part = 0) : TOk (tidR g H part) m a b part := by
  obtain ⟨h1, h2, h3⟩ := tidR_zero h
  rw [h3]
  refine ⟨⟨ho.ok.wide, ho.ok.high, ho.ok.fix⟩, ?_, ho.pm, ho.pa, ho.pb, ho.pp⟩
  unfold stepIs at h2
  exact (Bool.and_eq_true_iff.1 h2).2
theorem tidTo_tok {g : Gr} {m a b part : Nat} (ho : TOk g m a b part) : ∀ k, (tidTo g m a b part k).2 = 0 → TOk (tidTo g m a b part k).1 m a b part
  | 0, _ => ho
  | k + 1, h => by
    by_cases hk : (tidTo g m a b part k).2 = 0
    · rw [tidTo_go hk] at h ⊢
      exact tidR_tok (tidTo_tok ho k hk) h
    · rw [tidTo_stay hk (k + 1) (by omega)] at h; exact absurd h hk
/-- What a run gives. -/
def runG (g : Gr) (m a b part n : Nat) : Gr := if (tidTo g m a b part n).2 = 0 then (tidTo g m a b part n).1 else zeroG
def runC (g : Gr) (m a b part n : Nat) : Int := (tidTo g m a b part n).2
/-- Blocks that hold no ground are as they were. -/
def KeepNG (w w' : World) : Prop := ∀ (r : Nat) (C : Array Value) (t : TypeId), w.heap[r]? = some (.cells C t (0, 0)) → t ≠ 30 → w'.heap[r]? = some (.cells C t (0, 0))
/-- Blocks that hold a ground are as they were. -/
def KeepG (w w' : World) : Prop := ∀ (r : Nat) (C : Array Value), w.heap[r]? = some (.cells C 30 (0, 0)) → w'.heap[r]? = some (.cells C 30 (0, 0))
theorem KeepNG.below {w w' : World} (h : Below w.heap.size w w') : KeepNG w w' := fun r C t hr _ => (h.block r (lt_of_block hr)).trans hr
theorem KeepG.below {w w' : World} (h : Below w.heap.size w w') : KeepG w w' := fun r C hr => (h.block r (lt_of_block hr)).trans hr
theorem KeepNG.row {w : World} {q : Nat} {C : Array Value} (D : Array Value) (h : Blk w q C 30) : KeepNG w (w.setRow q D) := fun r C' t hr ht => by
  have hne : r ≠ q := fun e => by
    subst e
    have h2 : w.heap[r]? = some (.cells C 30 (0, 0)) := h
    rw [h2] at hr; injection hr with hr; injection hr with _ hr; exact ht hr.symm
  exact (setRow_other w q r D hne).trans hr
theorem KeepNG.trans {w w' w'' : World} (h : KeepNG w w') (h' : KeepNG w' w'') : KeepNG w w'' := fun r C t hr ht => h' r C t (h r C t hr ht) ht
theorem stp_in {n : Nat} (h : n ≤ 400) : isStp n = true := by unfold isStp; simp; omega
end Go.Proofs.YtdnnjahdcabdmaaGreatDoor
/- HeadsOverTime where all is valid, of the first cell, in the program and in the reference. -/
namespace Go.Proofs.YtdnnjahdcabdmaaGreatDoor
open Go.ChangeShapes Go.WideShapes Go.ChangeAt Go.RowKit
set_option linter.unusedVariables false
set_option linter.unusedSimpArgs false
attribute [local irreducible] Calls
/-- The first cell's head behind each step. -/
def heaT (g : Gr) (m a b part i : Nat) : Nat := (tidTo g m a b part (i + 1)).1.hea 0
/-- How many heads are handed back. -/
def runN (g : Gr) (m a b part n : Nat) : Nat := if runC g m a b part n = 0 then n else 0
theorem Own.keep {w w' : World} {g : Nat} {e : TypeId} {s n : Nat} {v : Value} {xs : List Value} (h : Own w g e s v n xs) (hk : KeepNG w w') (he : e ≠ 30) : Own w' g e s v n xs := by
  obtain ⟨h1, cap, cur, hv, hb, h2⟩ := h
  exact ⟨h1, cap, cur, hv, hk _ _ _ hb he, h2⟩
/-- What has been seen: k heads in a row of its own; a variable that holds the row. -/
def Seen (w0 : World) (q c : Nat) (F : Nat → Nat) (k : Nat) (w : World) : Prop := ∃ (r : Nat) (y : Value), Blk w q #[y] 42 ∧ Own w r 25 1 y k (fls k F) ∧ Blk w c #[.int .i64 0] 2 ∧ w0.heap.size ≤ r
theorem Seen.keep {w0 : World} {q c : Nat} {F : Nat → Nat} {k : Nat} {w w' : World} (h : Seen w0 q c F k w) (hk : KeepNG w w') : Seen w0 q c F k w' := by
  obtain ⟨r, y, h1, h2, h3, h4⟩ := h
  exact ⟨r, y, hk _ _ _ h1 (by decide), h2.keep hk (by decide), hk _ _ _ h3 (by decide), h4⟩
theorem szFS : (Tryz.prog.info? 42).map (·.size) = some 1 := by kernel_rfl
theorem keepG_grown {w w' : World} {r : Nat} {C : Array Value} {t : TypeId} (h : w.grownBy w' (some r)) (hb : Blk w r C t) (ht : t ≠ 30) : KeepG w w' := fun x D hx => by
  have hne : x ≠ r := fun e => by
    subst e
    have h2 : w.heap[x]? = some (.cells C t (0, 0)) := hb
    rw [h2] at hx; injection hx with hx; injection hx with _ hx; exact ht hx
  exact (h.block x (lt_of_block hx) (fun e => by injection e with e; exact hne (by omega))).trans hx
theorem KeepG.trans {w w' w'' : World} (h : KeepG w w') (h' : KeepG w' w'') : KeepG w w'' := fun r C hr => h' r C (h r C hr)
theorem cell0 {g : Gr} (hv : validG g = true) : isC g 0 = true := isC_zero hv
set_option maxRecDepth 100000 in
set_option maxHeartbeats 400000 in
theorem cellFault0_any (g : Gr) (q m a b part : Nat) (ho : TOk g m a b part) (w : World) (hb : GAt w q g) :
    Calls Tryz.prog 135 #[.pointer (some ⟨q, 0, none⟩), .int .i64 0] w fun e w' => e = .returned (.int .i64 0) ∧ Below w.heap.size w w' := by
  have hvg := fun w' => validGround_any g ho.ok w'
  have hh := fun w' hb' => has_any g q 0 ho.ok (by omega) w' hb'
  rw [ho.valid] at hvg
  rw [cell0 ho.valid] at hh
  have lb := hb.lt
  clear ho
  go_enter Tryz.func135, Tryz.ntmps135
  go_wp2_with (first | (refine wpList_load_gat rfl rfl rfl row66 hb ?_) | (go_at_call 32; refine (hvg _).mono ?_; rintro e w1 ⟨rfl, hb1⟩; have hb2 := hb.below hb1 lb) | (go_at_call 88; refine (in_any _ _ _ _).mono ?_; rintro e w' ⟨rfl, hw⟩; rw [hw]; clear hw w') | (go_at_call 60; refine (hh _ hb2).mono ?_; rintro e w' ⟨rfl, hw⟩; rw [hw]; clear hw w'))
  go_ret
  exact ⟨rfl, hb1⟩
end Go.Proofs.YtdnnjahdcabdmaaGreatDoor
/- slices.DeleteFunc over whole numbers: what is left are those of which the function says no, in their order. -/
namespace Go.Proofs.YtdnnjahdcabdmaaGreatDoor
open Go.ChangeShapes Go.WideShapes Go.ChangeAt Go.RowKit
set_option linter.unusedVariables false
set_option linter.unusedSimpArgs false
attribute [local irreducible] Calls
/-- A call of a function value with a receiver bound. -/
theorem wpList_callb {P : Program} {ops : Array Oper} {rest : List Oper} {o : Oper} {a : Act} {Q : Exit → Act → World → Prop} {w : World} {x : Operand} {xs : Array Operand} {ts : Array TypeId} {f : FuncId} {bd : Array Value} {l : List Value} (hgd : o.guard = none) (ho : o.op = .call { callee := .value x, args := xs, argTypes := ts }) (hx : a.eval x = .func (.func f) bd #[]) (ha : xs.toList.map a.eval = l) (hf : Callable P f)
    (h : Calls P f (bd ++ l.toArray) w fun e w' => ∃ v, e = .returned v ∧ wpList P ops Q rest (a.put o.dst v) w') : wpList P ops Q (o :: rest) a w :=
  wpList_plain hgd fun K hK => by
    obtain ⟨fn, hf, hn, hb⟩ := hf
    have e : xs.map a.eval = l.toArray := by rw [← ha, ← Array.toList_map, Array.toArray_toList]
    have hn' : fn.name ≠ "runtime.NumGoroutine" := by simpa using hn
    have hb' : ¬ fn.body = none := by intro h0; rw [h0] at hb; simp at hb
    have hr : (execOp a.eval o).run P w = .ok (.enter f (bd ++ l.toArray)) w := by
      simp [execOp, ho, resolve, e, hx, Deferred.ofValue, invoke, callFunc, hf, hn', hb']
    unfold Oper.wp
    rw [hr]
    exact h.mono fun e w' ⟨v, he, hv⟩ => by subst he; exact hK _ _ hv
/-- Those among the first j of which q says no. -/
def nots (q : Nat → Bool) (L : List Nat) (j : Nat) : List Nat := (L.take j).filter fun k => !q k
theorem nots_succ {q : Nat → Bool} {L : List Nat} {j : Nat} (h : j < L.length) : nots q L (j + 1) = if q (L.getD j 0) then nots q L j else nots q L j ++ [L.getD j 0] := by
  unfold nots
  rw [List.take_add_one, List.getElem?_eq_getElem h, List.filter_append]
  have e : L.getD j 0 = L[j] := by rw [List.getD_eq_getElem?_getD, List.getElem?_eq_getElem h]; rfl
  rw [e]
  cases hq : q L[j] <;> simp [hq]
theorem nots_le (q : Nat → Bool) (L : List Nat) (j : Nat) : (nots q L j).length ≤ j := Nat.le_trans (List.length_filter_le _ _) (by rw [List.length_take]; omega)
theorem nots_none {q : Nat → Bool} {L : List Nat} : ∀ {j : Nat}, j ≤ L.length → (∀ i, i < j → q (L.getD i 0) = false) → nots q L j = L.take j
  | 0, _, _ => by simp [nots]
  | j + 1, hj, h => by
    rw [nots_succ (by omega), h j (by omega), nots_none (by omega) fun i hi => h i (by omega)]
    rw [List.take_add_one, List.getElem?_eq_getElem (by omega : j < L.length), List.getD_eq_getElem?_getD, List.getElem?_eq_getElem (by omega : j < L.length)]
    rfl
theorem setCells_blk (b : Nat) (t : TypeId) : ∀ (vs : List Value) (o : Nat) (w : World) (C : Array Value), Blk w b C t → ∃ C', Blk (w.setCells b o vs) b C' t ∧ C'.size = C.size ∧ ∀ i, i < o → C'[i]? = C[i]?
  | [], o, w, C, h => ⟨C, h, rfl, fun _ _ => rfl⟩
  | v :: vs, o, w, C, h => by
    obtain ⟨C', h1, h2, h3⟩ := setCells_blk b t vs (o + 1) (w.setCell ⟨b, o, none⟩ v) (C.setIfInBounds o v) (h.setCell o v)
    refine ⟨C', h1, by simpa using h2, fun i hi => ?_⟩
    rw [h3 i (by omega), Array.getElem?_setIfInBounds, if_neg (by omega)]
theorem setCells_grown (b : Nat) : ∀ (vs : List Value) (o : Nat) (w : World), w.grownBy (w.setCells b o vs) (some b)
  | [], _, w => World.grownBy.refl _ _
  | v :: vs, o, w => (grown_set w b o v).trans (setCells_grown b vs (o + 1) _)
theorem Own.cut {w w' : World} {g : Nat} {e : TypeId} {n c i : Nat} {xs : List Value} (h : Own w g e 1 (.slice (some ⟨g, 0, none⟩) n c) n xs) (hi : i ≤ n) {C : Array Value} (hb : Blk w' g C e) (hs : C.size = c) (hC : C.toList.take i = xs.take i) : Own w' g e 1 (.slice (some ⟨g, 0, none⟩) i c) i (xs.take i) := by
  obtain ⟨h1, cap, cur, hv, hbk, h2, h3, h4, h5⟩ := h
  injection hv with _ _ hv
  subst hv
  refine ⟨by rw [List.length_take]; omega, c, C, rfl, hb, by omega, h3, by omega, ?_⟩
  rw [Nat.mul_one]; exact hC
theorem Own.size {w : World} {g : Nat} {e : TypeId} {n c : Nat} {xs : List Value} (h : Own w g e 1 (.slice (some ⟨g, 0, none⟩) n c) n xs) : ∃ cur, Blk w g cur e ∧ cur.size = c ∧ cur.toList.take n = xs := by
  obtain ⟨h1, cap, cur, hv, hbk, h2, h3, h4, h5⟩ := h
  injection hv with _ _ hv
  subst hv
  exact ⟨cur, hbk, by omega, by rw [Nat.mul_one] at h5; exact h5⟩
theorem ils_set (M : List Nat) (i k : Nat) : (ils M).set i (.int .i64 k) = ils (M.set i k) := by unfold ils; rw [List.map_set]
theorem take_set_succ {α : Type} {M : List α} {i : Nat} {k : α} (h : i < M.length) : (M.set i k).take (i + 1) = M.take i ++ [k] := by
  rw [List.take_add_one, List.take_set, List.getElem?_set_self h]
  congr 1
  exact List.set_eq_of_length_le (by simp; omega)
/-- 'clear(s[i:])': the cells from i on hold something else. -/
theorem wpList_clear {P : Program} {ops : Array Oper} {rest : List Oper} {o : Oper} {a : Act} {Q : Exit → Act → World → Prop} {w : World} {t e : TypeId} {x : Operand} {r i n c : Nat} {C : Array Value} (ht : P.underlying t = some (.slice e)) (hv : ∀ w, (zeroValue e).run P w = .ok (.int .i64 0) w) (hgd : o.guard = none) (ho : o.op = .call { callee := .builtin .clear, args := #[x], argTypes := #[t] }) (hx : a.eval x = .slice (some ⟨r, i, none⟩) n c) (hb : Blk w r C e) (hn : 0 < n) (hs : i + n ≤ C.size)
    (h : ∀ C' w', Blk w' r C' e → C'.size = C.size → (∀ k, k < i → C'[k]? = C[k]?) → w.grownBy w' (some r) → wpList P ops Q rest (a.put o.dst (.tuple #[])) w') : wpList P ops Q (o :: rest) a w :=
  wpList_plain hgd fun K hK => by
    have hr := Lib.run_clear_slice (P := P) w t e o.type (.int .i64 0) ht hv rfl rfl r i n c hn (fun j hj => by rw [hb.cell]; simp; omega) (fun j _ => hb.free _)
    obtain ⟨C', h1, h2, h3⟩ := setCells_blk r e (List.replicate n (.int .i64 0)) i w C hb
    unfold Oper.wp execOp
    simp only [ho, resolve, invoke, builtin, Sem.run_bind, Sem.run_pure, Result.andThen_ok, List.map_toArray, List.map_cons, List.map_nil, hx, hr]
    exact hK _ _ (h C' _ h1 h2 h3 (setCells_grown r _ _ _))
end Go.Proofs.YtdnnjahdcabdmaaGreatDoor
