import Derived.Test.YtdnnjahdcabdmaaGreatDoorMD42
import Derived.Test.YtdnnjahdcabdmaaGreatDoorMD06
import Derived.Test.YtdnnjahdcabdmaaGreatDoorMD39
import Derived.Test.YtdnnjahdcabdmaaGreatDoorMD05
import Derived.Test.YtdnnjahdcabdmaaGreatDoorMD38
/- The fixed cells of a ground, as bits and as a list: plain laws; no statement is proved here. -/
namespace Go.Proofs.YtdnnjahdcabdmaaGreatDoor
open Go.ChangeShapes Go.WideShapes Go.ChangeAt Go.RowKit
set_option linter.unusedVariables false
set_option linter.unusedSimpArgs false

theorem cellsTo_memV {g : Gr} {n k : Nat} : k ∈ cellsTo g n ↔ k < n ∧ isC g k = true := by unfold cellsTo; rw [List.mem_filter, List.mem_range]
theorem validG_partsV {g : Gr} (h : validG g = true) : (2 ≤ g.wide ∧ g.wide ≤ 8) ∧ (2 ≤ g.high ∧ g.high ≤ 8) ∧ fieldIs amount g g.con = true ∧ fieldIs plain g g.gai = true ∧ fieldIs plain g g.hea = true ∧ fixOk g = true := by
  unfold validG at h
  simp only [Bool.and_eq_true, decide_eq_true_eq] at h
  exact h
def bvV (z : Int) : BitVec 64 := BitVec.ofInt 64 z
theorem bv_natV (x : BitVec 64) : bvV (x.toNat : Int) = x := by unfold bvV; simp
theorem bits_eqV (op : BinOp) (f : BitVec 64 → BitVec 64 → BitVec 64) (a b : Int) (h : bits op .u64 a b = IntKind.u64.wrap ((f (bvV a) (bvV b)).toNat : Int)) : bits op .u64 a b = ((f (bvV a) (bvV b)).toNat : Int) := by
  rw [h, IntKind.wrap_u64]
  have := (f (bvV a) (bvV b)).isLt
  simp only [Nat.reducePow] at this
  omega
theorem orB_bvV (x : Int) (k : Nat) : orB x k = ((bvV x ||| bvV (IntKind.u64.wrap (2 ^ k))).toNat : Int) := by
  unfold orB; exact bits_eqV .or (· ||| ·) _ _ rfl
theorem andNot_bvV (x y : Int) : bits .andNot .u64 x y = ((bvV x &&& ~~~ bvV y).toNat : Int) := bits_eqV .andNot (fun x y => x &&& ~~~ y) _ _ rfl
theorem andNot_zeroV {x y : Int} : (bits .andNot .u64 x y == 0) = true ↔ bvV x &&& ~~~ bvV y = 0#64 := by
  rw [andNot_bvV, beq_iff_eq]
  constructor
  · intro h; apply BitVec.eq_of_toNat_eq; simp only [BitVec.toNat_ofNat]; omega
  · intro h; rw [h]; rfl
theorem lsb_andV {x m : BitVec 64} (h : x &&& ~~~ m = 0#64) (i : Nat) (hi : i < 64) : (x.getLsbD i && !m.getLsbD i) = false := by
  have h1 : (x &&& ~~~ m).getLsbD i = (0#64).getLsbD i := by rw [h]
  rw [BitVec.getLsbD_and, BitVec.getLsbD_not, decide_eq_true hi, Bool.true_and, BitVec.getLsbD_zero] at h1
  exact h1
theorem and_lsbV {x m : BitVec 64} (h : ∀ i, i < 64 → (x.getLsbD i && !m.getLsbD i) = false) : x &&& ~~~ m = 0#64 := by
  apply BitVec.eq_of_getLsbD_eq
  intro i hi
  rw [BitVec.getLsbD_and, BitVec.getLsbD_not, decide_eq_true hi, Bool.true_and, BitVec.getLsbD_zero]
  exact h i hi
theorem and_orV (x p m : BitVec 64) (h : x &&& ~~~ m = 0#64) (h' : p &&& ~~~ m = 0#64) : (x ||| p) &&& ~~~ m = 0#64 := and_lsbV fun i hi => by
  have h1 := lsb_andV h i hi
  have h2 := lsb_andV h' i hi
  rw [BitVec.getLsbD_or]
  generalize x.getLsbD i = a at *
  generalize p.getLsbD i = b at *
  generalize m.getLsbD i = c at *
  revert h1 h2
  cases a <;> cases b <;> cases c <;> decide
theorem and_moreV (p m q : BitVec 64) (h : p &&& ~~~ m = 0#64) : p &&& ~~~ (m ||| q) = 0#64 := and_lsbV fun i hi => by
  have h1 := lsb_andV h i hi
  rw [BitVec.getLsbD_or]
  generalize p.getLsbD i = a at *
  generalize m.getLsbD i = b at *
  generalize q.getLsbD i = c at *
  revert h1
  cases a <;> cases b <;> cases c <;> decide
theorem and_self_notV (p m : BitVec 64) : p &&& ~~~ (m ||| p) = 0#64 := and_lsbV fun i hi => by
  rw [BitVec.getLsbD_or]
  generalize p.getLsbD i = a at *
  generalize m.getLsbD i = b at *
  cases a <;> cases b <;> decide
theorem orB_bdV (x : Int) (k : Nat) : 0 ≤ orB x k ∧ orB x k < 18446744073709551616 := by
  rw [orB_bvV]
  have := (bvV x ||| bvV (IntKind.u64.wrap (2 ^ k))).isLt
  simp only [Nat.reducePow] at this
  omega
/-! ### A ground that is being drawn: up to cell k. -/
theorem bv_powV {k i : Nat} (hk : k < 64) (hi : i < 64) : (bvV (IntKind.u64.wrap (2 ^ k))).getLsbD i = decide (i = k) := by
  have h1 : (2 : Int) ^ k = ((2 ^ k : Nat) : Int) := by simp
  have h2 : (2 : Nat) ^ k < 2 ^ 64 := Nat.pow_lt_pow_right (by decide) hk
  have h3 : ∀ x : Nat, x < 2 ^ 64 → IntKind.u64.wrap (x : Int) = (x : Int) := fun x hx => by rw [IntKind.wrap_u64]; omega
  have h3 := h3 _ h2
  rw [h1, h3]
  unfold bvV
  rw [BitVec.ofInt_natCast, BitVec.getLsbD_ofNat, decide_eq_true hi, Bool.true_and, Nat.testBit_two_pow]
  by_cases h : k = i
  · subst h; simp
  · simp [h, Ne.symm h]
theorem mask_lsbV : ∀ (L : List Nat) (x : Int) (i : Nat), (∀ k, k ∈ L → k < 64) → i < 64 → (bvV (L.foldl orB x)).getLsbD i = ((bvV x).getLsbD i || decide (i ∈ L))
  | [], x, i, _, _ => by simp
  | k :: L, x, i, h, hi => by
    rw [List.foldl_cons, mask_lsbV L _ i (fun j hj => h j (List.mem_cons_of_mem _ hj)) hi, orB_bvV, bv_natV, BitVec.getLsbD_or, bv_powV (h k List.mem_cons_self) hi]
    simp [Bool.or_assoc]
theorem fx_lsbV {g : Gr} (hg : g.ok) {k : Nat} (hk : k < 64) : isFxW g k = (bvV g.fix).getLsbD k := by
  obtain ⟨n, hn⟩ : ∃ n : Nat, (n : Int) = g.fix := ⟨g.fix.toNat, by have := hg.fix; omega⟩
  have hlt : n < 18446744073709551616 := by have := hg.fix; omega
  unfold isFxW bvV
  rw [← hn, BitVec.ofInt_natCast, BitVec.getLsbD_ofNat, decide_eq_true hk, Bool.true_and, Nat.testBit_eq_decide_div_mod_eq]
  have e : (n : Int) / 2 ^ k % 2 = ((n / 2 ^ k % 2 : Nat) : Int) := by simp
  rw [e]
  by_cases h : n / 2 ^ k % 2 = 1
  · simp [h]
  · have : n / 2 ^ k % 2 = 0 := by omega
    simp [this]
theorem fx_cellV {g : Gr} (hg : g.ok) (hv : validG g = true) {k : Nat} (hk : k < 64) (h : isFxW g k = true) : isC g k = true := by
  have hf := (validG_partsV hv).2.2.2.2.2
  unfold fixOk at hf
  rw [Bool.and_eq_true] at hf
  have h1 := lsb_andV (andNot_zeroV.1 hf.2) k hk
  rw [← fx_lsbV hg hk, h, Bool.true_and] at h1
  unfold maskOf at h1
  rw [mask_lsbV _ _ _ (fun j hj => (cellsTo_memV.1 hj).1) hk] at h1
  have h2 : (bvV 0).getLsbD k = false := by unfold bvV; simp
  rw [h2, Bool.false_or, Bool.not_eq_false', decide_eq_true_eq] at h1
  exact (cellsTo_memV.1 h1).2
theorem mask_rngV : ∀ (L : List Nat) (x : Int), 0 ≤ x ∧ x < 18446744073709551616 → 0 ≤ L.foldl orB x ∧ L.foldl orB x < 18446744073709551616
  | [], x, h => h
  | k :: L, x, h => by
    rw [List.foldl_cons]
    apply mask_rngV L
    rw [orB_bvV]
    generalize (bvV x ||| bvV (IntKind.u64.wrap (2 ^ k))) = B
    have := B.isLt
    omega
/-- The fixed cells' bits are those of the list of them. -/
theorem fix_mask {g : Gr} (hg : g.ok) (hv : validG g = true) : maskOf ((cellsTo g 64).filter (isFxW g)) = g.fix := by
  have h1 := mask_rngV ((cellsTo g 64).filter (isFxW g)) 0 (by decide)
  have h2 := hg.fix
  have hb : bvV (maskOf ((cellsTo g 64).filter (isFxW g))) = bvV g.fix := by
    apply BitVec.eq_of_getLsbD_eq
    intro i hi
    unfold maskOf
    rw [mask_lsbV _ _ _ (fun j hj => (cellsTo_memV.1 (List.mem_filter.1 hj).1).1) hi, ← fx_lsbV hg hi]
    have h0 : (bvV 0).getLsbD i = false := by unfold bvV; simp
    rw [h0, Bool.false_or]
    cases hf : isFxW g i
    · rw [decide_eq_false (fun q => by have := (List.mem_filter.1 q).2; rw [hf] at this; cases this)]
    · rw [decide_eq_true (List.mem_filter.2 ⟨cellsTo_memV.2 ⟨hi, fx_cellV hg hv hi hf⟩, hf⟩)]
  have hn : ∀ z : Int, 0 ≤ z → z < 18446744073709551616 → ((bvV z).toNat : Int) = z := fun z a b => by
    unfold bvV
    rw [BitVec.toNat_ofInt]
    omega
  have e1 := hn _ h1.1 h1.2
  have e2 := hn _ h2.1 h2.2
  have e3 : maskOf ((cellsTo g 64).filter (isFxW g)) = List.foldl orB 0 ((cellsTo g 64).filter (isFxW g)) := rfl
  rw [← e3, hb, e2] at e1
  exact e1.symm
end Go.Proofs.YtdnnjahdcabdmaaGreatDoor
/- readSize: the number of a word of one digit: the walk, and what it has to do with the reference's numbers. -/
namespace Go.Proofs.YtdnnjahdcabdmaaGreatDoor
open Go.ChangeShapes Go.WideShapes Go.ChangeAt Go.RowKit
set_option linter.unusedVariables false
set_option linter.unusedSimpArgs false
attribute [local irreducible] Calls

def sizeZ (l : List UInt8) : Int := if l.length = 1 ∧ 50 ≤ (l.getD 0 0).toNat ∧ (l.getD 0 0).toNat ≤ 56 then ((l.getD 0 0).toNat : Int) - 48 else 0
set_option maxRecDepth 100000 in
set_option maxHeartbeats 4000000 in
theorem readSize_any (s : ByteArray) (hs : s.size ≤ 1048576) (w : World) :
    Calls Tryz.prog 72 #[.string s] w fun e w' => e = .returned (.int .i8 (sizeZ s.data.toList)) ∧ w' = w := by
  have hidx : ∀ (h : 0 < s.size) w', (Instr.index 9 (.string s) (.int .i64 0)).run Tryz.prog w' = .ok (.int .u8 ((s.data.toList.getD 0 0).toNat : Int)) w' := fun h w' => by
    rw [run_index_string w' 9 _ .i64 _ Tryz.underlying9, dif_pos ⟨by omega, by omega⟩]
    simp only [Int.toNat_zero]
    rw [List.getD_eq_getElem?_getD, List.getElem?_eq_getElem (show 0 < s.data.toList.length from h)]
    rfl
  have hl : s.data.toList.length = s.size := rfl
  by_cases h1 : s.size = 1
  · have hx := hidx (by omega)
    have i1 : ((s.size : Nat) : Int) = 1 := by omega
    have hc : (s.data.toList.getD 0 0).toNat < 256 := UInt8.toNat_lt _
    have hZ : sizeZ s.data.toList = if 50 ≤ (s.data.toList.getD 0 0).toNat ∧ (s.data.toList.getD 0 0).toNat ≤ 56 then ((s.data.toList.getD 0 0).toNat : Int) - 48 else 0 := by
      unfold sizeZ
      by_cases q : 50 ≤ (s.data.toList.getD 0 0).toNat ∧ (s.data.toList.getD 0 0).toNat ≤ 56
      · rw [if_pos ⟨by omega, q⟩, if_pos q]
      · rw [if_neg (fun r => q r.2), if_neg q]
    rw [hZ]
    clear hZ hidx hl h1
    generalize (s.data.toList.getD 0 0).toNat = c at *
    by_cases q : 50 ≤ c ∧ c ≤ 56
    · rw [if_pos q]
      have w1 : IntKind.u8.wrap ((c : Int) - 48) = (c : Int) - 48 := by rw [IntKind.wrap_u8]; omega
      have w2 : IntKind.i8.wrap ((c : Int) - 48) = (c : Int) - 48 := wrap8 _ (by omega)
      have w3 : IntKind.i64.wrap ((c : Int) - 48) = (c : Int) - 48 := IntWalk.i64_in _ (by omega)
      have hin := fun w' => in_any ((c : Int) - 48) 2 8 w'
      rw [show (decide ((2 : Int) ≤ (c : Int) - 48) && decide ((c : Int) - 48 ≤ 8)) = true by simp; omega] at hin
      clear q
      go_enter Tryz.func72, Tryz.ntmps72
      go_wp2_with (go_at_call 88; refine (hin _).mono ?_; rintro e w' ⟨rfl, hw⟩; rw [hw]; clear hw w')
      go_ret
      exact ⟨rfl, rfl⟩
    · rw [if_neg q]
      have hwb : 0 ≤ IntKind.u8.wrap ((c : Int) - 48) ∧ IntKind.u8.wrap ((c : Int) - 48) < 256 ∧ ¬ (2 ≤ IntKind.u8.wrap ((c : Int) - 48) ∧ IntKind.u8.wrap ((c : Int) - 48) ≤ 8) := by rw [IntKind.wrap_u8]; omega
      generalize hz : IntKind.u8.wrap ((c : Int) - 48) = z at *
      have w3 : IntKind.i64.wrap z = z := IntWalk.i64_in _ (by omega)
      have hin := fun w' => in_any z 2 8 w'
      rw [show (decide ((2 : Int) ≤ z) && decide (z ≤ 8)) = false by simp; omega] at hin
      clear q hwb
      go_enter Tryz.func72, Tryz.ntmps72
      go_wp2_with (go_at_call 88; refine (hin _).mono ?_; rintro e w' ⟨rfl, hw⟩; rw [hw]; clear hw w')
      go_ret
      exact ⟨rfl, rfl⟩
  · have i1 : ¬ ((s.size : Nat) : Int) = 1 := by omega
    have hZ : sizeZ s.data.toList = 0 := by unfold sizeZ; rw [if_neg (fun r => h1 (by omega))]
    rw [hZ]
    clear hZ hidx hl h1
    go_enter Tryz.func72, Tryz.ntmps72
    go_wp2_with fail
    go_ret
    exact ⟨rfl, rfl⟩
/-- A size's text, and its number: the program's reading of it. -/
theorem sizeZ_digit {a : Nat} (h : 2 ≤ a ∧ a ≤ 8) : sizeZ (Lib.decDigits a) = a := by
  rw [Lib.decDigits, dif_pos (by omega)]
  have hd := toNat_digit (n := a) (by omega)
  unfold sizeZ
  simp only [List.length_cons, List.length_nil, List.getD_cons_zero, hd]
  rw [if_pos ⟨by trivial, by omega, by omega⟩]
  omega
theorem sizeZ_some {l : List UInt8} (h : sizeZ l ≠ 0) : ∃ a : Nat, 2 ≤ a ∧ a ≤ 8 ∧ l = Lib.decDigits a ∧ sizeZ l = a := by
  unfold sizeZ at h
  split at h
  · rename_i hc
    obtain ⟨h1, h2, h3⟩ := hc
    match l, h1 with
    | [c], _ =>
      have h2 : 50 ≤ c.toNat := h2
      have h3 : c.toNat ≤ 56 := h3
      have e : Lib.decDigits (c.toNat - 48) = [c] := by
        rw [Lib.decDigits, dif_pos (by omega), ← digit_toNat (by omega)]
      exact ⟨c.toNat - 48, by omega, by omega, e.symm, by rw [← e]; exact sizeZ_digit (by omega)⟩
  · exact absurd rfl h
theorem cells_count : ∀ a, a ≤ 8 → ∀ b, b ≤ 8 → ((List.range 64).filter fun k : Nat => decide ((k : Int) % 8 < (a : Nat)) && decide ((k : Int) / 8 < (b : Nat))).length = a * b := by decide +kernel
/-- So many cells has a ground. -/
theorem cellsTo_count {g : Gr} {a b : Nat} (hw : g.wide = a) (hh : g.high = b) (ha : a ≤ 8) (hb : b ≤ 8) : (cellsTo g 64).length = a * b := by
  have h := cells_count a ha b hb
  unfold cellsTo isC
  rw [hw, hh]
  exact h
end Go.Proofs.YtdnnjahdcabdmaaGreatDoor
/- Grounds read from a text: plain laws, begun; no statement is proved here. -/
namespace Go.Proofs.YtdnnjahdcabdmaaGreatDoor
open Go.ChangeShapes Go.WideShapes Go.ChangeAt Go.RowKit
set_option linter.unusedVariables false

def headW (g : Gr) : List UInt8 := glue 32 [Lib.itoa g.wide, Lib.itoa g.high]
theorem txtGr_lined (g : Gr) : txtGr g = lined 10 (headW g :: (cellsTo g 64).map (rowC g)) := by
  have h : ∀ l : List Nat, rowsC g l = lined 10 (l.map (rowC g)) := fun l => by
    induction l with
    | nil => rfl
    | cons a l ih => show (rowC g a ++ [10]) ++ rowsC g l = _; rw [ih, List.map_cons, lined_cons]; simp
  unfold txtGr headG
  rw [h, lined_cons]
  simp [headW]
theorem wordG_not (g : Gr) (k : Nat) (c : UInt8) (hc : c.toNat < 48) : c ∉ wordG g k := by
  unfold wordG
  split <;> (intro q; simp at q; rcases q with rfl | rfl | rfl | rfl | rfl <;> revert hc <;> decide)
theorem headW_words (g : Gr) : splitL 32 (headW g) = [Lib.itoa g.wide, Lib.itoa g.high] := by
  unfold headW
  refine splitL_glue (by simp) fun a ha => ?_
  simp at ha
  rcases ha with rfl | rfl <;> exact itoa_not _ _ (by decide)
theorem headW_not (g : Gr) : (10 : UInt8) ∉ headW g := by
  have h := fun u => itoa_not u 10 (by decide)
  simp [headW, glue, h]
theorem rowC_words {g : Gr} (hF : Fits g) {k : Nat} (hk : k < 64) : splitL 32 (rowC g k) = [wordG g k, txt (g.con k), txt (g.gai k), txt (g.hea k)] := by
  obtain ⟨h1, h2, h3⟩ := hF k hk
  unfold rowC
  refine splitL_glue (by simp) fun a ha => ?_
  simp at ha
  rcases ha with rfl | rfl | rfl | rfl
  · exact wordG_not _ _ _ (by decide)
  · exact txt_not _ h1 _ (by decide)
  · exact txt_not _ h2 _ (by decide)
  · exact txt_not _ h3 _ (by decide)
theorem rowC_not {g : Gr} (hF : Fits g) {k : Nat} (hk : k < 64) : (10 : UInt8) ∉ rowC g k := by
  obtain ⟨h1, h2, h3⟩ := hF k hk
  have q0 := wordG_not g k 10 (by decide)
  have q1 := txt_not _ h1 10 (by decide)
  have q2 := txt_not _ h2 10 (by decide)
  have q3 := txt_not _ h3 10 (by decide)
  simp [rowC, glue, q0, q1, q2, q3]
/-- The lines of a ground's text. -/
theorem split_txtGr {g : Gr} (hF : Fits g) : splitL 10 (txtGr g) = (headW g :: (cellsTo g 64).map (rowC g)) ++ [[]] := by
  rw [txtGr_lined]
  refine splitL_lined fun a ha => ?_
  rcases List.mem_cons.1 ha with rfl | ha
  · exact headW_not g
  · rw [List.mem_map] at ha
    obtain ⟨k, hk, rfl⟩ := ha
    exact rowC_not hF (cellsTo_lt hk).1
end Go.Proofs.YtdnnjahdcabdmaaGreatDoor
/- Wells read from a text: plain laws; no statement is proved here. -/
namespace Go.Proofs.YtdnnjahdcabdmaaGreatDoor
open Go.ChangeShapes Go.WideShapes Go.ChangeAt Go.RowKit
set_option linter.unusedVariables false

def okWl (p : Wl) : Prop := (-100 ≤ p.px ∧ p.px ≤ 100) ∧ (-100 ≤ p.py ∧ p.py ≤ 100) ∧ plain p.rt = true ∧ p.rt < 4294967296
/-- Are wells valid? -/
def validL (n : Nat) (P : Nat → Wl) : Prop := n ≤ 12 ∧ ∀ i, i < n → okWl (P i)
theorem numL_plain {b : Nat} (h : plain b = true) (hb : b < 4294967296) : numL (txt b) = some b := by
  rw [numL_txt hb]
  unfold cn cnk
  rw [plain_numW h]
  rfl
theorem numB_txt {b : Nat} (h : plain b = true) (hb : b < 4294967296) : numB (txt b) = b ∧ numC (txt b) = 0 := by
  unfold numB numC; rw [numL_plain h hb]; exact ⟨rfl, rfl⟩
theorem numC_txt {l : List UInt8} (h : numC l = 0) : txt (numB l) = l ∧ numB l < 4294967296 := by
  unfold numC at h
  unfold numB
  cases hl : numL l with
  | none => rw [hl] at h; simp at h
  | some b =>
    have := numL_some hl
    exact ⟨this.2.2.2.2.symm, this.2.2.2.1⟩
theorem numB_lt (l : List UInt8) : numB l < 4294967296 := by
  unfold numB
  cases hl : numL l with
  | none => decide
  | some b => exact (numL_some hl).2.2.2.1
/-- A row's text without its end. -/
def rowV (p : Wl) : List UInt8 := glue 32 [Lib.itoa p.px, Lib.itoa p.py, txt p.rt]
def rowsV (P : Nat → Wl) (n : Nat) : List (List UInt8) := (List.range n).map fun i => rowV (P i)
def txtWl (P : Nat → Wl) : Nat → List UInt8
  | 0 => []
  | k + 1 => txtWl P k ++ (rowV (P k) ++ [10])
theorem txtWl_lined (P : Nat → Wl) : ∀ n, txtWl P n = lined 10 (rowsV P n)
  | 0 => rfl
  | n + 1 => by
    have ih := txtWl_lined P n
    unfold txtWl rowsV
    rw [List.range_succ, List.map_append]
    show _ = lined 10 (rowsV P n ++ [rowV (P n)])
    rw [lined_snoc, ih, List.append_assoc]
theorem txtWl_congr {P P' : Nat → Wl} : ∀ {n : Nat}, (∀ i, i < n → P i = P' i) → txtWl P n = txtWl P' n
  | 0, _ => rfl
  | n + 1, h => by unfold txtWl; rw [txtWl_congr (fun i hi => h i (by omega)), h n (by omega)]
theorem rowV_words {p : Wl} (h : p.rt < 4294967296) : splitL 32 (rowV p) = [Lib.itoa p.px, Lib.itoa p.py, txt p.rt] := by
  unfold rowV
  refine splitL_glue (by simp) fun a ha => ?_
  simp at ha
  rcases ha with rfl | rfl | rfl
  · exact itoa_not _ _ (by decide)
  · exact itoa_not _ _ (by decide)
  · exact txt_not _ h _ (by decide)
theorem rowV_not {p : Wl} (h : p.rt < 4294967296) : (10 : UInt8) ∉ rowV p := by
  have h1 := fun u => itoa_not u 10 (by decide)
  have h2 := txt_not p.rt h 10 (by decide)
  simp [rowV, glue, h1, h2]
theorem rowsV_not {P : Nat → Wl} {n : Nat} (h : ∀ i, i < n → (P i).rt < 4294967296) : ∀ a ∈ rowsV P n, (10 : UInt8) ∉ a := by
  intro a ha
  unfold rowsV at ha
  rw [List.mem_map] at ha
  obtain ⟨i, hi, rfl⟩ := ha
  exact rowV_not (h i (List.mem_range.1 hi))
theorem rowsV_len (P : Nat → Wl) (n : Nat) : (rowsV P n).length = n := by simp [rowsV]
theorem rowsV_get (P : Nat → Wl) (n i : Nat) (h : i < n) : (rowsV P n)[i]? = some (rowV (P i)) := by simp [rowsV, h]
theorem split_txtWl {P : Nat → Wl} {n : Nat} (h : ∀ i, i < n → (P i).rt < 4294967296) : splitL 10 (txtWl P n) = rowsV P n ++ [[]] := by
  rw [txtWl_lined]; exact splitL_lined (rowsV_not h)
def wlW (ws : List (List UInt8)) : Wl := ⟨sgV (ws.getD 0 []), sgV (ws.getD 1 []), numB (ws.getD 2 [])⟩
def rdL (l : List UInt8) (i : Nat) : Wl := wlW (wordsAt l i)
def in100 (z : Int) : Bool := decide (-100 ≤ z) && decide (z ≤ 100)
def okL (ws : List (List UInt8)) : Bool := sgB (ws.getD 0 []) && sgB (ws.getD 1 []) && in100 (sgV (ws.getD 0 [])) && in100 (sgV (ws.getD 1 [])) && decide (numC (ws.getD 2 []) = 0) && plain (numB (ws.getD 2 []))
def okLW (ws : List (List UInt8)) : Prop := ws.length = 3 ∧ okL ws = true
/-- Is a text that of wells? -/
def goodWl (l : List UInt8) : Prop := ∃ n P, validL n P ∧ l = txtWl P n
theorem wl_txt {P : Nat → Wl} {n : Nat} (h : validL n P) : rdN (txtWl P n) = n ∧ ∀ i, i < n → rdL (txtWl P n) i = P i ∧ okLW (wordsAt (txtWl P n) i) := by
  obtain ⟨h12, hp⟩ := h
  have hlt := fun i hi => (hp i hi).2.2.2
  refine ⟨by unfold rdN; rw [split_txtWl hlt]; simp [rowsV_len], fun i hi => ?_⟩
  have hw : wordsAt (txtWl P n) i = [Lib.itoa (P i).px, Lib.itoa (P i).py, txt (P i).rt] := by
    unfold wordsAt
    rw [split_txtWl hlt, List.getD_eq_getElem?_getD, List.getElem?_append_left (by rw [rowsV_len]; exact hi), rowsV_get _ _ _ hi]
    exact rowV_words (hlt i hi)
  obtain ⟨hx, hy, hpl, hlt'⟩ := hp i hi
  have s1 := sg_itoa (z := (P i).px) (by omega)
  have s2 := sg_itoa (z := (P i).py) (by omega)
  have s3 := numB_txt hpl hlt'
  refine ⟨?_, ?_⟩
  · unfold rdL wlW
    rw [hw]
    simp only [List.getD_cons_zero, List.getD_cons_succ, s1.1, s2.1, s3.1]
  · rw [hw]
    refine ⟨rfl, ?_⟩
    unfold okL in100
    simp only [List.getD_cons_zero, List.getD_cons_succ, s1.1, s1.2, s2.1, s2.2, s3.1, s3.2, hpl]
    simp; omega
theorem okLW_row {l : List UInt8} (h : okLW (splitL 32 l)) : rowV (wlW (splitL 32 l)) = l ∧ okWl (wlW (splitL 32 l)) := by
  have hg := glue_split 32 l
  obtain ⟨h1, h2⟩ := h
  generalize splitL 32 l = ws at *
  obtain ⟨a, b, c, rfl⟩ : ∃ a b c, ws = [a, b, c] := by
    match ws, h1 with
    | [a, b, c], _ => exact ⟨a, b, c, rfl⟩
  unfold okL in100 at h2
  simp only [List.getD_cons_zero, List.getD_cons_succ, Bool.and_eq_true, decide_eq_true_eq] at h2
  obtain ⟨⟨⟨⟨⟨s1, s2⟩, l1⟩, l2⟩, c3⟩, p3⟩ := h2
  have q1 := sg_some s1
  have q2 := sg_some s2
  have q3 := numC_txt c3
  unfold rowV wlW okWl
  simp only [List.getD_cons_zero, List.getD_cons_succ, q1, q2, q3.1]
  exact ⟨hg, l1, l2, p3, q3.2⟩
theorem goodWl_iff (l : List UInt8) : goodWl l ↔ ((splitL 10 l).getD (rdN l) [0] = [] ∧ (∀ i, i < rdN l → okLW (wordsAt l i)) ∧ rdN l ≤ 12) := by
  constructor
  · rintro ⟨n, P, h, rfl⟩
    obtain ⟨h1, h2⟩ := wl_txt h
    rw [h1]
    refine ⟨?_, fun i hi => (h2 i hi).2, h.1⟩
    rw [split_txtWl (fun i hi => (h.2 i hi).2.2.2), List.getD_eq_getElem?_getD, List.getElem?_append_right (by rw [rowsV_len]; exact Nat.le_refl _), rowsV_len, Nat.sub_self]; rfl
  · rintro ⟨h1, h2, h3⟩
    have hpos := List.length_pos_iff.2 (splitL_ne 10 l)
    have hn : rdN l + 1 = (splitL 10 l).length := by unfold rdN; omega
    have hrow := fun i (hi : i < rdN l) => okLW_row (l := (splitL 10 l).getD i []) (h2 i hi)
    refine ⟨rdN l, rdL l, ⟨h3, fun i hi => (hrow i hi).2⟩, ?_⟩
    rw [txtWl_lined]
    have hs : splitL 10 l = rowsV (rdL l) (rdN l) ++ [[]] := by
      apply List.ext_getElem?
      intro i
      by_cases hi : i < rdN l
      · rw [List.getElem?_append_left (by rw [rowsV_len]; exact hi), rowsV_get _ _ _ hi]
        have := (hrow i hi).1
        unfold rdL wordsAt
        rw [this, List.getD_eq_getElem?_getD, List.getElem?_eq_getElem (by omega)]; rfl
      · by_cases he : i = rdN l
        · subst he
          rw [List.getElem?_append_right (by rw [rowsV_len]; omega), rowsV_len, Nat.sub_self]
          rw [List.getD_eq_getElem?_getD, List.getElem?_eq_getElem (by omega)] at h1
          rw [List.getElem?_eq_getElem (by omega)]
          exact congrArg some h1
        · rw [List.getElem?_eq_none (by omega), List.getElem?_eq_none (by simp [rowsV_len]; omega)]
    exact (lined_of hs).symm
/-- A good text's lines, as the program finds them. -/
theorem lines_txtW {P : Nat → Wl} {n : Nat} (h : validL n P) : (linesL (txtWl P n)).length = n ∧ goodTo (txtWl P n) 3 12 n ∧ ∀ j, j < n → lineWs ((linesL (txtWl P n)).getD j []) = [Lib.itoa (P j).px, Lib.itoa (P j).py, txt (P j).rt] := by
  have hlt := fun i hi => (h.2 i hi).2.2.2
  have hl : linesL (txtWl P n) = (rowsV P n).map (· ++ [10]) := by rw [txtWl_lined]; exact linesL_lined _ (rowsV_not hlt)
  have hw : ∀ j, j < n → lineWs ((linesL (txtWl P n)).getD j []) = [Lib.itoa (P j).px, Lib.itoa (P j).py, txt (P j).rt] := fun j hj => by
    rw [hl, List.getD_eq_getElem?_getD, List.getElem?_map, rowsV_get _ _ _ hj]
    show lineWs (rowV (P j) ++ [10]) = _
    unfold lineWs
    rw [trim_end]
    exact rowV_words (hlt j hj)
  exact ⟨by rw [hl]; simp [rowsV_len], ⟨h.1, fun j hj => by rw [hw j hj]; rfl⟩, hw⟩
/-- The wells that the program reads off the lines' words. -/
def wlI (l : List UInt8) (j : Nat) : Wl := ⟨numZ (-100) 100 ((lineWs ((linesL l).getD j [])).getD 0 []), numZ (-100) 100 ((lineWs ((linesL l).getD j [])).getD 1 []), numB ((lineWs ((linesL l).getD j [])).getD 2 [])⟩
theorem wlI_in (l : List UInt8) (j : Nat) : (-100 ≤ (wlI l j).px ∧ (wlI l j).px ≤ 100) ∧ (-100 ≤ (wlI l j).py ∧ (wlI l j).py ≤ 100) ∧ (wlI l j).rt < 4294967296 :=
  ⟨numZ_in _ _ (by decide) _, numZ_in _ _ (by decide) _, numB_lt _⟩
theorem wlI_txt {P : Nat → Wl} {n : Nat} (h : validL n P) : ∀ j, j < n → wlI (txtWl P n) j = P j := fun j hj => by
  obtain ⟨hx, hy, hpl, hlt⟩ := h.2 j hj
  unfold wlI
  rw [(lines_txtW h).2.2 j hj]
  simp only [List.getD_cons_zero, List.getD_cons_succ]
  rw [numZ_itoa (z := (P j).px) (by omega) (by omega), numZ_itoa (z := (P j).py) (by omega) (by omega), (numB_txt hpl hlt).1]
/-- Is some well none? -/
def badL (p : Wl) : Bool := !plain p.rt
/-- What the program finds is what the reference finds. -/
theorem goodWl_I (l : List UInt8) : goodWl l ↔ (goodTo l 3 12 (linesL l).length ∧ anyTo badL (wlI l) (linesL l).length = false ∧ txtWl (wlI l) (linesL l).length = l) := by
  constructor
  · rintro ⟨n, P, h, rfl⟩
    obtain ⟨h1, h2, h3⟩ := lines_txtW h
    rw [h1]
    exact ⟨h2, anyTo_false.2 fun i hi => by rw [wlI_txt h i hi]; unfold badL; rw [(h.2 i hi).2.2.1]; rfl, txtWl_congr (wlI_txt h)⟩
  · rintro ⟨h1, h2, h3⟩
    refine ⟨(linesL l).length, wlI l, ⟨h1.1, fun i hi => ?_⟩, h3.symm⟩
    have h4 := anyTo_false.1 h2 i hi
    obtain ⟨a, b, c⟩ := wlI_in l i
    exact ⟨a, b, by unfold badL at h4; simpa using h4, c⟩
theorem goodWl_same {l : List UInt8} (h : goodWl l) : rdN l = (linesL l).length ∧ ∀ i, i < rdN l → rdL l i = wlI l i := by
  obtain ⟨n, P, h, rfl⟩ := h
  obtain ⟨h1, h2⟩ := wl_txt h
  obtain ⟨h3, h4, h5⟩ := lines_txtW h
  exact ⟨by rw [h1, h3], fun i hi => by rw [h1] at hi; rw [(h2 i hi).1, wlI_txt h i hi]⟩
open Classical in
/-- The code that goes with a text. -/
noncomputable def wlC (l : List UInt8) : Int := if goodWl l then 0 else 5
open Classical in
noncomputable def wlM (l : List UInt8) : Nat := if goodWl l then rdN l else 0
theorem wl_good {l : List UInt8} (h : goodWl l) : wlC l = 0 ∧ wlM l = rdN l := ⟨by unfold wlC; rw [if_pos h], by unfold wlM; rw [if_pos h]⟩
theorem wl_bad {l : List UInt8} (h : ¬ goodWl l) : wlC l = 5 ∧ wlM l = 0 := ⟨by unfold wlC; rw [if_neg h], by unfold wlM; rw [if_neg h]⟩
theorem wlM_le (l : List UInt8) : wlM l ≤ 12 ∧ ∀ i, i < wlM l → isN .f32 (rdL l i).rt = false := by
  by_cases h : goodWl l
  · rw [(wl_good h).2]
    have hi := (goodWl_iff l).1 h
    exact ⟨hi.2.2, fun i hi2 => plain_numW (okLW_row (l := (splitL 10 l).getD i []) (hi.2.1 i hi2)).2.2.2.1⟩
  · rw [(wl_bad h).2]; exact ⟨by omega, fun i hi => absurd hi (by omega)⟩
end Go.Proofs.YtdnnjahdcabdmaaGreatDoor
/- The ground that a text says: plain laws, begun; no statement is proved here. -/
namespace Go.Proofs.YtdnnjahdcabdmaaGreatDoor
open Go.ChangeShapes Go.WideShapes Go.ChangeAt Go.RowKit
set_option linter.unusedVariables false

theorem cellsTo_rank {g : Gr} {k : Nat} (hc : isC g k = true) : ∀ m, k < m → (cellsTo g m)[(cellsTo g k).length]? = some k
  | 0, h => by omega
  | m + 1, h => by
    rw [cellsTo_succ]
    by_cases e : k = m
    · subst e
      rw [if_pos hc, List.getElem?_append_right (Nat.le_refl _), Nat.sub_self]; rfl
    · have ih := cellsTo_rank hc m (by omega)
      split
      · rw [List.getElem?_append_left (List.getElem?_eq_some_iff.1 ih).1]; exact ih
      · exact ih
theorem cellsTo_same {g g' : Gr} (h0 : g.wide = g'.wide) (h1 : g.high = g'.high) (k : Nat) : cellsTo g k = cellsTo g' k := by
  unfold cellsTo isC; rw [h0, h1]
def firstG (l : List UInt8) : List (List UInt8) := splitL 32 ((splitL 10 l).getD 0 [])
/-- A text's sizes. -/
def gd0 (l : List UInt8) : Gr := ⟨(((decN ((firstG l).getD 0 [])).getD 0 : Nat) : Int), (((decN ((firstG l).getD 1 [])).getD 0 : Nat) : Int), fun _ => 0, fun _ => 0, fun _ => 0, 0⟩
/-- The words of a cell's line. -/
def wdG (l : List UInt8) (k : Nat) : List (List UInt8) := splitL 32 ((splitL 10 l).getD (1 + (cellsTo (gd0 l) k).length) [])
def numG (l : List UInt8) (i k : Nat) : Nat := if decide (k < 64) && isC (gd0 l) k then numB ((wdG l k).getD i []) else 0
/-- The ground that a text says. -/
def gdR (l : List UInt8) : Gr := { gd0 l with con := numG l 1, gai := numG l 2, hea := numG l 3, fix := maskOf ((cellsTo (gd0 l) 64).filter fun k => decide ((wdG l k).getD 0 [] = [102, 105, 120, 101, 100])) }
/-- Such grounds have a text. -/
structure HasText (g : Gr) : Prop where
  ok : g.ok
  valid : validG g = true
  bare : Bare g
  fits : Fits g
theorem plain_at {q : Nat → Bool} {g : Gr} {f : Nat → Nat} (h : fieldIs q g f = true) {k : Nat} (hk : k < 64) (hc : isC g k = true) : q (f k) = true := by
  unfold fieldIs at h
  have := anyTo_false.1 (by simpa using h) k hk
  unfold badAt at this
  rw [if_pos hc] at this
  simpa using this
/-- A text's sizes are the ground's. -/
theorem gd0_txt {g : Gr} (h : HasText g) : (gd0 (txtGr g)).wide = g.wide ∧ (gd0 (txtGr g)).high = g.high := by
  have hv := validG_partsV h.valid
  have hf : firstG (txtGr g) = [Lib.itoa g.wide, Lib.itoa g.high] := by
    unfold firstG
    rw [split_txtGr h.fits]
    exact headW_words g
  have d1 := decN_digits (u := g.wide.toNat) (by omega)
  have d2 := decN_digits (u := g.high.toNat) (by omega)
  rw [← itoa_pos (by omega)] at d1 d2
  unfold gd0
  rw [hf]
  simp only [List.getD_cons_zero, List.getD_cons_succ, d1, d2, Option.getD_some]
  omega
theorem wdG_txt {g : Gr} (h : HasText g) {k : Nat} (hk : k < 64) (hc : isC g k = true) : wdG (txtGr g) k = [wordG g k, txt (g.con k), txt (g.gai k), txt (g.hea k)] := by
  obtain ⟨h0, h1⟩ := gd0_txt h
  unfold wdG
  have hr := cellsTo_rank hc 64 hk
  have hrow : (splitL 10 (txtGr g)).getD (1 + (cellsTo (gd0 (txtGr g)) k).length) [] = rowC g k := by
    rw [cellsTo_same h0 h1, split_txtGr h.fits, List.getD_eq_getElem?_getD, List.cons_append, Nat.add_comm, List.getElem?_cons_succ]
    rw [List.getElem?_append_left (by rw [List.length_map]; exact (List.getElem?_eq_some_iff.1 hr).1), List.getElem?_map, hr]
    rfl
  rw [hrow]
  exact rowC_words h.fits hk
/-- A text that a ground has says that ground. -/
theorem gdR_txt {g : Gr} (h : HasText g) : (gdR (txtGr g)).wide = g.wide ∧ (gdR (txtGr g)).high = g.high ∧ (gdR (txtGr g)).fix = g.fix ∧ ∀ k, k < 64 → (gdR (txtGr g)).con k = g.con k ∧ (gdR (txtGr g)).gai k = g.gai k ∧ (gdR (txtGr g)).hea k = g.hea k := by
  obtain ⟨h0, h1⟩ := gd0_txt h
  have hv := validG_partsV h.valid
  have hiC : ∀ k, isC (gd0 (txtGr g)) k = isC g k := fun k => by unfold isC; rw [h0, h1]
  refine ⟨h0, h1, ?_, fun k hk => ?_⟩
  · rw [← fix_mask h.ok h.valid]
    show maskOf _ = _
    rw [cellsTo_same h0 h1]
    congr 1
    apply List.filter_congr
    intro k hk
    obtain ⟨hk64, hc⟩ := cellsTo_lt hk
    rw [wdG_txt h hk64 hc]
    simp only [List.getD_cons_zero]
    unfold wordG
    cases isFxW g k <;> decide
  · show numG _ 1 k = _ ∧ numG _ 2 k = _ ∧ numG _ 3 k = _
    unfold numG
    rw [hiC, decide_eq_true hk, Bool.true_and]
    cases hc : isC g k
    · have := h.bare k hk hc
      simp [this]
    · obtain ⟨f1, f2, f3⟩ := h.fits k hk
      have p1 := plain_at hv.2.2.1 hk hc
      have p2 := plain_at hv.2.2.2.1 hk hc
      have p3 := plain_at hv.2.2.2.2.1 hk hc
      have p1 : plain (g.con k) = true := by unfold amount at p1; exact (Bool.and_eq_true_iff.1 p1).1
      rw [wdG_txt h hk hc]
      simp only [if_true, List.getD_cons_zero, List.getD_cons_succ]
      exact ⟨(numB_txt p1 f1).1, (numB_txt p2 f2).1, (numB_txt p3 f3).1⟩
end Go.Proofs.YtdnnjahdcabdmaaGreatDoor
