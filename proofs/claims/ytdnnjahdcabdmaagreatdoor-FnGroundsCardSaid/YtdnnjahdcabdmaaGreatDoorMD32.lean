import Derived.Test.YtdnnjahdcabdmaaGreatDoorMD04
import Derived.Test.YtdnnjahdcabdmaaGreatDoorMD31
import Derived.Test.YtdnnjahdcabdmaaGreatDoorMD18
import Derived.Lib.ItoaLen
import Derived.Test.YtdnnjahdcabdmaaGreatDoorMD30
import Derived.Test.YtdnnjahdcabdmaaGreatDoorMD05
/- The text of permits, in the program and in the reference: the walks. -/
namespace Go.Proofs.YtdnnjahdcabdmaaGreatDoor
open Go.ChangeShapes Go.WideShapes Go.ChangeAt Go.RowKit
set_option linter.unusedVariables false
set_option linter.unusedSimpArgs false
attribute [local irreducible] Calls

def badCell (p : Pm) : Bool := !decide (0 ≤ p.cel) || !decide (p.cel ≤ 63)
def badOC (p : Pm) : Bool := badOwner p || badCell p
def badAny (p : Pm) : Bool := badOwner p || badCell p || badRate p
/-- Have permits a text? -/
def plainPt (n : Nat) (P : Nat → Pm) : Bool := decide (n ≤ 6) && !anyTo badAny P n
theorem plainPt_eq (n : Nat) (P : Nat → Pm) : plainPt n P = (ratesAre n P && !anyTo badOC P n) := by
  unfold plainPt ratesAre
  cases h6 : decide (n ≤ 6)
  · rfl
  · simp only [Bool.true_and]
    cases h : anyTo badAny P n
    · have h1 := anyTo_false.1 h
      have h2 : anyTo badRate P n = false := anyTo_false.2 fun i hi => by
        have := h1 i hi; unfold badAny at this; simp only [Bool.or_eq_false_iff] at this; exact this.2
      have h3 : anyTo badOC P n = false := anyTo_false.2 fun i hi => by
        have := h1 i hi; unfold badAny at this; simp only [Bool.or_eq_false_iff] at this; unfold badOC; simp [this.1.1, this.1.2]
      rw [h2, h3]; rfl
    · cases h2 : anyTo badRate P n
      · cases h3 : anyTo badOC P n
        · have : anyTo badAny P n = false := anyTo_false.2 fun i hi => by
            have q2 := anyTo_false.1 h2 i hi
            have q3 := anyTo_false.1 h3 i hi
            unfold badOC at q3
            simp only [Bool.or_eq_false_iff] at q3
            unfold badAny
            simp [q2, q3.1, q3.2]
          rw [this] at h; cases h
        · rfl
      · rfl
theorem plainPt_parts {n : Nat} {P : Nat → Pm} (h : plainPt n P = true) : n ≤ 6 ∧ ∀ i, i < n → (0 ≤ (P i).own ∧ (P i).own ≤ 7) ∧ (0 ≤ (P i).cel ∧ (P i).cel ≤ 63) ∧ (0 ≤ (P i).rat ∧ (P i).rat ≤ 400) := by
  unfold plainPt at h
  simp only [Bool.and_eq_true, decide_eq_true_eq, Bool.not_eq_true'] at h
  refine ⟨h.1, fun i hi => ?_⟩
  have := anyTo_false.1 h.2 i hi
  unfold badAny badOwner badCell badRate at this
  simp only [Bool.or_eq_false_iff, Bool.not_eq_false', decide_eq_true_eq] at this
  omega
/-- A permit's row. -/
def rowPm (p : Pm) : List UInt8 := (((((Lib.decDigits p.own.toNat ++ ([32] : List UInt8)) ++ Lib.decDigits p.cel.toNat) ++ ([32] : List UInt8)) ++ Lib.decDigits p.rat.toNat) ++ ([10] : List UInt8))
def txtPm (P : Nat → Pm) : Nat → List UInt8
  | 0 => []
  | k + 1 => txtPm P k ++ rowPm (P k)
theorem dec_len {x : Int} (h : 0 ≤ x ∧ x ≤ 400) : (Lib.decDigits x.toNat).length ≤ 3 := decDigits_len_le 2 _ (by omega)
theorem rowPm_len {p : Pm} (h : (0 ≤ p.own ∧ p.own ≤ 7) ∧ (0 ≤ p.cel ∧ p.cel ≤ 63) ∧ (0 ≤ p.rat ∧ p.rat ≤ 400)) : (rowPm p).length ≤ 12 := by
  unfold rowPm
  have h1 := dec_len (x := p.own) (by omega)
  have h2 := dec_len (x := p.cel) (by omega)
  have h3 := dec_len (x := p.rat) (by omega)
  simp; omega
theorem txtPm_len {P : Nat → Pm} : ∀ {k : Nat}, (∀ i, i < k → (0 ≤ (P i).own ∧ (P i).own ≤ 7) ∧ (0 ≤ (P i).cel ∧ (P i).cel ≤ 63) ∧ (0 ≤ (P i).rat ∧ (P i).rat ≤ 400)) → (txtPm P k).length ≤ 12 * k
  | 0, _ => by simp [txtPm]
  | k + 1, h => by
    have ih := txtPm_len (P := P) (k := k) (fun i hi => h i (by omega))
    have := rowPm_len (h k (by omega))
    unfold txtPm; simp; omega
set_option maxRecDepth 100000 in
set_option maxHeartbeats 400000 in
theorem permitsOk1_any (p : Pm) (hp : p.ok) (w : World) :
    Calls Tryz.prog 105 #[.agg p.cells] w fun e w' => e = .returned (.bool (badOC p)) ∧ Below w.heap.size w w' := by
  have ho := fun w' => isOwner_any p.own w' hp.1
  have hi := fun w' => in_any p.cel 0 63 w'
  obtain ⟨⟨_, _⟩, ⟨c1, c2⟩, _⟩ := hp
  have hB : badOC p = (!(decide (0 ≤ p.own) && decide (p.own ≤ 7)) || !(decide (0 ≤ p.cel) && decide (p.cel ≤ 63))) := by
    unfold badOC badOwner badCell; simp only [Bool.not_and]
  rw [hB]
  cases h1 : (decide (0 ≤ p.own) && decide (p.own ≤ 7)) <;> rw [h1] at ho
  · clear hi hB h1
    rw [p.cells_eq]
    go_enter Tryz.func105, Tryz.ntmps105
    go_wp2_with (go_at_call 63; refine (ho _).mono ?_; rintro e w' ⟨rfl, hw⟩; rw [hw]; clear hw w')
    go_ret
    exact ⟨rfl, below1 _ _⟩
  · generalize (decide (0 ≤ p.cel) && decide (p.cel ≤ 63)) = q at *
    clear hB h1
    rw [p.cells_eq]
    go_enter Tryz.func105, Tryz.ntmps105
    go_wp2_with (first | (go_at_call 63; refine (ho _).mono ?_; rintro e w' ⟨rfl, hw⟩; rw [hw]; clear hw w') | (go_at_call 88; refine (hi _).mono ?_; rintro e w' ⟨rfl, hw⟩; rw [hw]; clear hw w'))
    go_ret
    exact ⟨rfl, below1 _ _⟩
theorem callPermits : Callable Tryz.prog 105 := ⟨_, Tryz.func105, by kernel_rfl, by kernel_rfl⟩
set_option maxRecDepth 100000 in
set_option maxHeartbeats 400000 in
theorem permitsOk_any (n : Nat) (P : Nat → Pm) (hP : ∀ i, i < n → (P i).ok) (v : Value) (w : World) (hv : PSl w v n P) :
    Calls Tryz.prog 48 #[v] w fun e w' => e = .returned (.bool (plainPt n P)) ∧ Below w.heap.size w w' := by
  rw [plainPt_eq]
  have hr := ratesOk_any n P hP v w hv
  have hc := fun w' (hb : Below w.heap.size w w') => containsPm_any badOC 105 #[] n P v w' (hv.below hb) callPermits (fun i w'' hi hb => permitsOk1_any (P i) (hP i hi) w'')
  obtain ⟨a, c, rfl, hc1, hc2, hcell⟩ := hv
  clear hcell
  cases h1 : ratesAre n P <;> rw [h1] at hr
  · clear hc h1
    go_enter Tryz.func48, Tryz.ntmps48
    go_wp2_with (go_at_call 67; refine hr.mono ?_; rintro e w1 ⟨rfl, hb⟩)
    go_ret
    exact ⟨rfl, hb⟩
  · generalize anyTo badOC P n = q at *
    clear h1
    go_enter Tryz.func48, Tryz.ntmps48
    go_wp2_with (first | (go_at_call 67; refine hr.mono ?_; rintro e w1 ⟨rfl, hb⟩) | (go_at_call 61; refine (hc _ hb).mono ?_; rintro e w2 ⟨rfl, hb2⟩))
    go_ret
    exact ⟨rfl, hb.trans (hb2.mono hb.size)⟩
theorem below_grow (w : World) (k : Nat) (os : Array Obj) : Below w.heap.size w (Sort.grow (w.drewN k) os) :=
  ⟨rfl, rfl, rfl, by simp [Sort.grow], fun j hj => by simp [Sort.grow, Array.getElem?_append, hj]⟩
theorem decimalI_any (n : Int) (h0 : 0 ≤ n) (h1 : n ≤ 400) (w : World) (htab : Lib.TabIs Tryz.prog w "internal/strconv.uint64pow10" .u64 Lib.pow10Tab) :
    Calls Tryz.prog 50 #[.int .i64 n] w fun e w' => e = .returned (.string ⟨(Lib.decDigits n.toNat).toArray⟩) ∧ Below w.heap.size w w' := by
  have h := sh_strconv_FormatInt_10 n (by omega) (by omega) w htab
  have hn : Lib.itoa n = Lib.decDigits n.toNat := by unfold Lib.itoa; rw [if_neg (by omega)]
  rw [hn] at h
  generalize Lib.decDigits n.toNat = D at *
  clear hn
  go_enter Tryz.func50, Tryz.ntmps50
  go_wp2_with (go_at_call 107; refine h.mono ?_; rintro e w1 ⟨rfl, k, os, rfl⟩)
  go_ret
  exact ⟨rfl, below_grow w k os⟩
set_option maxRecDepth 100000 in
set_option maxHeartbeats 400000 in
theorem l07PlainT_any (n : Nat) (P : Nat → Pm) (hP : ∀ i, i < n → (P i).ok) (v : Value) (w : World) (hv : PSl w v n P) :
    Calls Tryz.prog 110 #[v] w fun e w' => e = .returned (.bool (plainPt n P)) ∧ Below w.heap.size w w' := by
  obtain ⟨a, c, rfl, hc1, hc2, hcell⟩ := hv
  unfold maxLen at hc2
  have HC := Lib.hid hcell
  clear hcell
  go_enter Tryz.func110, Tryz.ntmps110
  go_upto_region 2 with fail
  go_loopw [3] (fun i wr => ∃ k : Nat, k ≤ n ∧ i = .int .i64 k ∧ Hid (∀ j, j < k → badAny (P j) = false) ∧ Below w.heap.size w wr) (fun i _ => n - (intOf i).toNat)
  case atStart => exact ⟨0, by omega, rfl, Lib.hid fun j hj => by omega, Below.refl _ _⟩
  case round =>
    obtain ⟨k, hk, rfl, hq, hbel⟩ := hrel
    have bk : (0 : Int) ≤ k := by omega
    by_cases hlt : k < n
    · have bl : (k : Int) < n := by omega
      obtain ⟨b, o, rfl, hb, hcell⟩ := HC.out.resolve_left (by omega)
      have e0 : wr.cell? ⟨b, o + k * 3, none⟩ = some (.int .i8 (P k).own) := (hbel.cell (p := ⟨b, _, none⟩) hb).trans ((hcell k 0 hlt (by omega)).trans (P k).get0)
      have e1 : wr.cell? ⟨b, o + k * 3 + 1, none⟩ = some (.int .i8 (P k).cel) := (hbel.cell (p := ⟨b, _, none⟩) hb).trans ((hcell k 1 hlt (by omega)).trans (P k).get1)
      have e2 : wr.cell? ⟨b, o + k * 3 + 2, none⟩ = some (.int .i16 (P k).rat) := (hbel.cell (p := ⟨b, _, none⟩) hb).trans ((hcell k 2 hlt (by omega)).trans (P k).get2)
      clear hcell
      obtain ⟨⟨o1, o2⟩, ⟨c1, c2⟩, r1, r2⟩ := hP k hlt
      have hB : badAny (P k) = (!(decide (0 ≤ (P k).own) && decide ((P k).own ≤ 7)) || !(decide (0 ≤ (P k).cel) && decide ((P k).cel ≤ 63)) || !(decide (0 ≤ (P k).rat) && decide ((P k).rat ≤ 400))) := by
        unfold badAny badOwner badCell badRate; simp only [Bool.not_and]
      have i1 := fun w' => l00In_any (P k).own 0 7 w'
      have i2 := fun w' => l00In_any (P k).cel 0 63 w'
      have i3 := fun w' => l00In_any (P k).rat 0 400 w'
      have HN : badAny (P k) = true → plainPt n P = false := fun h => by unfold plainPt; rw [anyTo_true hlt h]; simp
      have HS : badAny (P k) = false → ∀ j, j < k + 1 → badAny (P j) = false := fun h => all_step hq.out h
      have HN := Lib.hid HN
      have HS := Lib.hid HS
      go_upto_region 5 with fail
      have hX := Blk.new wr #[.int .i8 (P k).own, .int .i8 (P k).cel, .int .i16 (P k).rat] 59
      have hbel := hbel.alloc hbel.size (.cells #[.int .i8 (P k).own, .int .i8 (P k).cel, .int .i16 (P k).rat] 59)
      generalize wr.alloc (.cells #[.int .i8 (P k).own, .int .i8 (P k).cel, .int .i16 (P k).rat] 59) = W at *
      have x0 := hX.cell 0
      have x1 := hX.cell 1
      have x2 := hX.cell 2
      clear hX e0 e1 e2 hq
      generalize badAny (P k) = B at *
      cases h1 : (decide (0 ≤ (P k).own) && decide ((P k).own ≤ 7)) <;> rw [h1] at i1 hB
      · have HF : Hid (plainPt n P = false) := Lib.hid (HN.out hB)
        clear i2 i3 hB HN HS h1
        go_wp2_with (go_at_call 123; refine (i1 _).mono ?_; rintro e w' ⟨rfl, hw⟩; rw [hw]; clear hw w')
        go_ret
        exact ⟨by rw [HF.out]; rfl, hbel⟩
      · cases h2 : (decide (0 ≤ (P k).cel) && decide ((P k).cel ≤ 63)) <;> rw [h2] at i2 hB
        · have HF : Hid (plainPt n P = false) := Lib.hid (HN.out hB)
          clear i3 hB HN HS h1 h2
          go_wp2_with (go_at_call 123; first | (refine (i1 _).mono ?_; rintro e w' ⟨rfl, hw⟩; rw [hw]; clear hw w' i1) | (refine (i2 _).mono ?_; rintro e w' ⟨rfl, hw⟩; rw [hw]; clear hw w'))
          go_ret
          exact ⟨by rw [HF.out]; rfl, hbel⟩
        · cases h3 : (decide (0 ≤ (P k).rat) && decide ((P k).rat ≤ 400)) <;> rw [h3] at i3 hB
          · have HF : Hid (plainPt n P = false) := Lib.hid (HN.out hB)
            clear hB HN HS h1 h2 h3
            go_wp2_with (go_at_call 123; first | (refine (i1 _).mono ?_; rintro e w' ⟨rfl, hw⟩; rw [hw]; clear hw w' i1) | (refine (i2 _).mono ?_; rintro e w' ⟨rfl, hw⟩; rw [hw]; clear hw w' i2) | (refine (i3 _).mono ?_; rintro e w' ⟨rfl, hw⟩; rw [hw]; clear hw w'))
            go_ret
            exact ⟨by rw [HF.out]; rfl, hbel⟩
          · have HF : Hid (∀ j, j < k + 1 → badAny (P j) = false) := Lib.hid (HS.out hB)
            clear hB HN HS h1 h2 h3
            go_wp2_with (go_at_call 123; first | (refine (i1 _).mono ?_; rintro e w' ⟨rfl, hw⟩; rw [hw]; clear hw w' i1) | (refine (i2 _).mono ?_; rintro e w' ⟨rfl, hw⟩; rw [hw]; clear hw w' i2) | (refine (i3 _).mono ?_; rintro e w' ⟨rfl, hw⟩; rw [hw]; clear hw w'))
            go_roundw
            case rel => exact ⟨k + 1, by omega, by go_num, HF, hbel⟩
            case measure => simp [intOf]; omega
    · obtain rfl : k = n := by omega
      have HF : Hid (plainPt k P = decide (k ≤ 6)) := Lib.hid (by unfold plainPt; rw [anyTo_false.2 hq.out]; simp)
      have hd : decide ((k : Int) ≤ 6) = decide (k ≤ 6) := decide_eq_decide.2 (by omega)
      clear hq
      go_wp2_with fail
      go_ret
      exact ⟨bool_eq (by rw [HF.out]), hbel⟩
end Go.Proofs.YtdnnjahdcabdmaaGreatDoor
/- Permits read from a text: plain laws; no statement is proved here. -/
namespace Go.Proofs.YtdnnjahdcabdmaaGreatDoor
open Go.ChangeShapes Go.WideShapes Go.ChangeAt Go.RowKit
set_option linter.unusedVariables false

/-- A row's text without its end. -/
def rowL (p : Pm) : List UInt8 := glue 32 [Lib.decDigits p.own.toNat, Lib.decDigits p.cel.toNat, Lib.decDigits p.rat.toNat]
theorem rowPm_eq (p : Pm) : rowPm p = rowL p ++ [10] := by simp [rowPm, rowL, glue]
def rowsL (P : Nat → Pm) (n : Nat) : List (List UInt8) := (List.range n).map fun i => rowL (P i)
theorem txtPm_lined (P : Nat → Pm) : ∀ n, txtPm P n = lined 10 (rowsL P n)
  | 0 => rfl
  | n + 1 => by
    have ih := txtPm_lined P n
    unfold txtPm rowsL
    rw [List.range_succ, List.map_append]
    show _ = lined 10 (rowsL P n ++ [rowL (P n)])
    rw [lined_snoc, ih, rowPm_eq, List.append_assoc]
theorem rowL_words (p : Pm) : splitL 32 (rowL p) = [Lib.decDigits p.own.toNat, Lib.decDigits p.cel.toNat, Lib.decDigits p.rat.toNat] := by
  unfold rowL
  refine splitL_glue (by simp) fun a ha => ?_
  simp at ha
  rcases ha with rfl | rfl | rfl <;> exact decDigits_not _ _ (by decide)
theorem rowL_not (p : Pm) : (10 : UInt8) ∉ rowL p := by
  have h := fun u => decDigits_not u 10 (by decide)
  simp [rowL, glue, h]
theorem rowsL_not (P : Nat → Pm) (n : Nat) : ∀ a ∈ rowsL P n, (10 : UInt8) ∉ a := by
  intro a ha
  unfold rowsL at ha
  rw [List.mem_map] at ha
  obtain ⟨i, _, rfl⟩ := ha
  exact rowL_not _
theorem rowsL_len (P : Nat → Pm) (n : Nat) : (rowsL P n).length = n := by simp [rowsL]
theorem rowsL_get (P : Nat → Pm) (n i : Nat) (h : i < n) : (rowsL P n)[i]? = some (rowL (P i)) := by simp [rowsL, h]
theorem split_txtPm (P : Nat → Pm) (n : Nat) : splitL 10 (txtPm P n) = rowsL P n ++ [[]] := by
  rw [txtPm_lined]; exact splitL_lined (rowsL_not P n)
/-- How many rows has a text? -/
def rdN (l : List UInt8) : Nat := (splitL 10 l).length - 1
def wordsAt (l : List UInt8) (i : Nat) : List (List UInt8) := splitL 32 ((splitL 10 l).getD i [])
def pmW (ws : List (List UInt8)) : Pm := ⟨(((decN (ws.getD 0 [])).getD 0 : Nat) : Int), (((decN (ws.getD 1 [])).getD 0 : Nat) : Int), (((decN (ws.getD 2 [])).getD 0 : Nat) : Int)⟩
def rdP (l : List UInt8) (i : Nat) : Pm := pmW (wordsAt l i)
def okB (ws : List (List UInt8)) : Bool := (decN (ws.getD 0 [])).isSome && (decN (ws.getD 1 [])).isSome && (decN (ws.getD 2 [])).isSome && decide ((decN (ws.getD 0 [])).getD 0 ≤ 7) && decide ((decN (ws.getD 1 [])).getD 0 ≤ 63) && decide ((decN (ws.getD 2 [])).getD 0 ≤ 400)
def okW (ws : List (List UInt8)) : Prop := ws.length = 3 ∧ okB ws = true
/-- Is a text that of permits? -/
def goodPm (l : List UInt8) : Prop := ∃ n P, plainPt n P = true ∧ l = txtPm P n
theorem rd_txt {P : Nat → Pm} {n : Nat} (h : plainPt n P = true) : rdN (txtPm P n) = n ∧ ∀ i, i < n → wordsAt (txtPm P n) i = [Lib.decDigits (P i).own.toNat, Lib.decDigits (P i).cel.toNat, Lib.decDigits (P i).rat.toNat] ∧ rdP (txtPm P n) i = P i ∧ okW (wordsAt (txtPm P n) i) := by
  obtain ⟨h6, hb⟩ := plainPt_parts h
  refine ⟨by unfold rdN; rw [split_txtPm]; simp [rowsL_len], fun i hi => ?_⟩
  have hw : wordsAt (txtPm P n) i = [Lib.decDigits (P i).own.toNat, Lib.decDigits (P i).cel.toNat, Lib.decDigits (P i).rat.toNat] := by
    unfold wordsAt
    rw [split_txtPm, List.getD_eq_getElem?_getD, List.getElem?_append_left (by rw [rowsL_len]; exact hi), rowsL_get _ _ _ hi]
    exact rowL_words _
  obtain ⟨⟨a1, a2⟩, ⟨b1, b2⟩, c1, c2⟩ := hb i hi
  have d1 := decN_digits (u := (P i).own.toNat) (by omega)
  have d2 := decN_digits (u := (P i).cel.toNat) (by omega)
  have d3 := decN_digits (u := (P i).rat.toNat) (by omega)
  refine ⟨hw, ?_, ?_⟩
  · unfold rdP pmW
    rw [hw]
    have e1 : (((P i).own.toNat : Nat) : Int) = (P i).own := by omega
    have e2 : (((P i).cel.toNat : Nat) : Int) = (P i).cel := by omega
    have e3 : (((P i).rat.toNat : Nat) : Int) = (P i).rat := by omega
    simp only [List.getD_cons_zero, List.getD_cons_succ, d1, d2, d3, Option.getD_some, e1, e2, e3]
  · rw [hw]
    refine ⟨rfl, ?_⟩
    unfold okB
    simp only [List.getD_cons_zero, List.getD_cons_succ, d1, d2, d3, Option.getD_some, Option.isSome_some]
    simp; omega
theorem okW_row {l : List UInt8} (h : okW (splitL 32 l)) : rowL (pmW (splitL 32 l)) = l ∧ ((0 ≤ (pmW (splitL 32 l)).own ∧ (pmW (splitL 32 l)).own ≤ 7) ∧ (0 ≤ (pmW (splitL 32 l)).cel ∧ (pmW (splitL 32 l)).cel ≤ 63) ∧ (0 ≤ (pmW (splitL 32 l)).rat ∧ (pmW (splitL 32 l)).rat ≤ 400)) := by
  have hg := glue_split 32 l
  obtain ⟨h1, h2⟩ := h
  generalize splitL 32 l = ws at *
  obtain ⟨a, b, c, rfl⟩ : ∃ a b c, ws = [a, b, c] := by
    match ws, h1 with
    | [a, b, c], _ => exact ⟨a, b, c, rfl⟩
  unfold okB at h2
  simp only [List.getD_cons_zero, List.getD_cons_succ, Bool.and_eq_true, decide_eq_true_eq] at h2
  obtain ⟨⟨⟨⟨⟨s1, s2⟩, s3⟩, l1⟩, l2⟩, l3⟩ := h2
  obtain ⟨u1, e1⟩ := Option.isSome_iff_exists.1 s1
  obtain ⟨u2, e2⟩ := Option.isSome_iff_exists.1 s2
  obtain ⟨u3, e3⟩ := Option.isSome_iff_exists.1 s3
  rw [e1] at l1; rw [e2] at l2; rw [e3] at l3
  simp only [Option.getD_some] at l1 l2 l3
  have q1 := (decN_some e1).1
  have q2 := (decN_some e2).1
  have q3 := (decN_some e3).1
  unfold rowL pmW
  simp only [List.getD_cons_zero, List.getD_cons_succ, e1, e2, e3, Option.getD_some, Int.toNat_natCast, q1, q2, q3]
  exact ⟨hg, by omega⟩
theorem goodPm_iff (l : List UInt8) : goodPm l ↔ ((splitL 10 l).getD (rdN l) [0] = [] ∧ (∀ i, i < rdN l → okW (wordsAt l i)) ∧ rdN l ≤ 6) := by
  constructor
  · rintro ⟨n, P, h, rfl⟩
    obtain ⟨h1, h2⟩ := rd_txt h
    obtain ⟨h6, hb⟩ := plainPt_parts h
    rw [h1]
    refine ⟨?_, fun i hi => (h2 i hi).2.2, h6⟩
    rw [split_txtPm, List.getD_eq_getElem?_getD, List.getElem?_append_right (by rw [rowsL_len]; exact Nat.le_refl _), rowsL_len, Nat.sub_self]; rfl
  · rintro ⟨h1, h2, h3⟩
    have hpos := List.length_pos_iff.2 (splitL_ne 10 l)
    have hn : rdN l + 1 = (splitL 10 l).length := by unfold rdN; omega
    have hrow := fun i (hi : i < rdN l) => okW_row (l := (splitL 10 l).getD i []) (h2 i hi)
    refine ⟨rdN l, rdP l, ?_, ?_⟩
    · unfold plainPt
      simp only [Bool.and_eq_true, decide_eq_true_eq, Bool.not_eq_true']
      refine ⟨h3, anyTo_false.2 fun i hi => ?_⟩
      have : (0 ≤ (rdP l i).own ∧ (rdP l i).own ≤ 7) ∧ (0 ≤ (rdP l i).cel ∧ (rdP l i).cel ≤ 63) ∧ (0 ≤ (rdP l i).rat ∧ (rdP l i).rat ≤ 400) := (hrow i hi).2
      unfold badAny badOwner badCell badRate
      simp; omega
    · rw [txtPm_lined]
      have hs : splitL 10 l = rowsL (rdP l) (rdN l) ++ [[]] := by
        apply List.ext_getElem?
        intro i
        by_cases hi : i < rdN l
        · rw [List.getElem?_append_left (by rw [rowsL_len]; exact hi), rowsL_get _ _ _ hi]
          have := (hrow i hi).1
          unfold rdP wordsAt
          rw [this, List.getD_eq_getElem?_getD, List.getElem?_eq_getElem (by omega)]; rfl
        · by_cases he : i = rdN l
          · subst he
            rw [List.getElem?_append_right (by rw [rowsL_len]; omega), rowsL_len, Nat.sub_self]
            rw [List.getD_eq_getElem?_getD, List.getElem?_eq_getElem (by omega)] at h1
            rw [List.getElem?_eq_getElem (by omega)]
            exact congrArg some h1
          · rw [List.getElem?_eq_none (by omega), List.getElem?_eq_none (by simp [rowsL_len]; omega)]
      exact (lined_of hs).symm
theorem trim_end (a : List UInt8) : Lib.trimSuffix (a ++ [10]) [10] = a := by
  unfold Lib.trimSuffix Lib.hasSuffix
  simp
/-- A good text's lines, as the program finds them. -/
theorem lines_txt {P : Nat → Pm} {n : Nat} (h : plainPt n P = true) : (linesL (txtPm P n)).length = n ∧ goodTo (txtPm P n) 3 6 n ∧ ∀ j, j < n → lineWs ((linesL (txtPm P n)).getD j []) = [Lib.decDigits (P j).own.toNat, Lib.decDigits (P j).cel.toNat, Lib.decDigits (P j).rat.toNat] := by
  obtain ⟨h6, hb⟩ := plainPt_parts h
  have hl : linesL (txtPm P n) = (rowsL P n).map (· ++ [10]) := by rw [txtPm_lined]; exact linesL_lined _ (rowsL_not P n)
  have hw : ∀ j, j < n → lineWs ((linesL (txtPm P n)).getD j []) = [Lib.decDigits (P j).own.toNat, Lib.decDigits (P j).cel.toNat, Lib.decDigits (P j).rat.toNat] := fun j hj => by
    rw [hl, List.getD_eq_getElem?_getD, List.getElem?_map, rowsL_get _ _ _ hj]
    show lineWs (rowL (P j) ++ [10]) = _
    unfold lineWs
    rw [trim_end]
    exact rowL_words _
  exact ⟨by rw [hl]; simp [rowsL_len], ⟨h6, fun j hj => by rw [hw j hj]; rfl⟩, hw⟩
/-- The permits that the program reads off the lines' words. -/
def pmI (l : List UInt8) (j : Nat) : Pm := ⟨numZ 0 7 ((lineWs ((linesL l).getD j [])).getD 0 []), numZ 0 63 ((lineWs ((linesL l).getD j [])).getD 1 []), numZ 0 400 ((lineWs ((linesL l).getD j [])).getD 2 [])⟩
theorem pmI_in (l : List UInt8) (j : Nat) : (0 ≤ (pmI l j).own ∧ (pmI l j).own ≤ 7) ∧ (0 ≤ (pmI l j).cel ∧ (pmI l j).cel ≤ 63) ∧ (0 ≤ (pmI l j).rat ∧ (pmI l j).rat ≤ 400) :=
  ⟨numZ_in _ _ (by decide) _, numZ_in _ _ (by decide) _, numZ_in _ _ (by decide) _⟩
theorem pmI_plain (l : List UInt8) (n : Nat) : plainPt n (pmI l) = decide (n ≤ 6) := by
  unfold plainPt
  rw [anyTo_false.2 fun i hi => by
    have := pmI_in l i
    unfold badAny badOwner badCell badRate
    simp; omega]
  simp
theorem txtPm_congr {P P' : Nat → Pm} : ∀ {n : Nat}, (∀ i, i < n → P i = P' i) → txtPm P n = txtPm P' n
  | 0, _ => rfl
  | n + 1, h => by unfold txtPm; rw [txtPm_congr (fun i hi => h i (by omega)), h n (by omega)]
theorem pmI_txt {P : Nat → Pm} {n : Nat} (h : plainPt n P = true) : ∀ j, j < n → pmI (txtPm P n) j = P j := fun j hj => by
  obtain ⟨h6, hb⟩ := plainPt_parts h
  obtain ⟨⟨a1, a2⟩, ⟨b1, b2⟩, c1, c2⟩ := hb j hj
  unfold pmI
  rw [(lines_txt h).2.2 j hj]
  simp only [List.getD_cons_zero, List.getD_cons_succ]
  have e1 := numZ_digits (u := (P j).own.toNat) (hi := 7) (by omega) (by omega)
  have e2 := numZ_digits (u := (P j).cel.toNat) (hi := 63) (by omega) (by omega)
  have e3 := numZ_digits (u := (P j).rat.toNat) (hi := 400) (by omega) (by omega)
  have f1 : (((P j).own.toNat : Nat) : Int) = (P j).own := by omega
  have f2 : (((P j).cel.toNat : Nat) : Int) = (P j).cel := by omega
  have f3 : (((P j).rat.toNat : Nat) : Int) = (P j).rat := by omega
  rw [f1] at e1; rw [f2] at e2; rw [f3] at e3
  show (⟨numZ 0 ((7 : Nat) : Int) _, numZ 0 ((63 : Nat) : Int) _, numZ 0 ((400 : Nat) : Int) _⟩ : Pm) = _
  rw [e1, e2, e3]
/-- What the program finds is what the reference finds. -/
theorem goodPm_I (l : List UInt8) : goodPm l ↔ (goodTo l 3 6 (linesL l).length ∧ txtPm (pmI l) (linesL l).length = l) := by
  constructor
  · rintro ⟨n, P, h, rfl⟩
    obtain ⟨h1, h2, h3⟩ := lines_txt h
    rw [h1]
    exact ⟨h2, txtPm_congr (pmI_txt h)⟩
  · rintro ⟨h1, h2⟩
    exact ⟨(linesL l).length, pmI l, by rw [pmI_plain]; simpa using h1.1, h2.symm⟩
theorem goodPm_same {l : List UInt8} (h : goodPm l) : rdN l = (linesL l).length ∧ ∀ i, i < rdN l → rdP l i = pmI l i := by
  obtain ⟨n, P, h, rfl⟩ := h
  obtain ⟨h1, h2⟩ := rd_txt h
  obtain ⟨h3, h4, h5⟩ := lines_txt h
  exact ⟨by rw [h1, h3], fun i hi => by rw [h1] at hi; rw [(h2 i hi).2.1, pmI_txt h i hi]⟩
open Classical in
/-- The code that goes with a text. -/
noncomputable def rdC (l : List UInt8) : Int := if goodPm l then 0 else 5
open Classical in
noncomputable def rdM (l : List UInt8) : Nat := if goodPm l then rdN l else 0
theorem rd_good {l : List UInt8} (h : goodPm l) : rdC l = 0 ∧ rdM l = rdN l := ⟨by unfold rdC; rw [if_pos h], by unfold rdM; rw [if_pos h]⟩
theorem rd_bad {l : List UInt8} (h : ¬ goodPm l) : rdC l = 5 ∧ rdM l = 0 := ⟨by unfold rdC; rw [if_neg h], by unfold rdM; rw [if_neg h]⟩
theorem rdM_le (l : List UInt8) : rdM l ≤ 6 := by
  by_cases h : goodPm l
  · rw [(rd_good h).2]; exact ((goodPm_iff l).1 h).2.2
  · rw [(rd_bad h).2]; omega
end Go.Proofs.YtdnnjahdcabdmaaGreatDoor
/- Stores into a ground's cells, one by one. -/
namespace Go.Proofs.YtdnnjahdcabdmaaGreatDoor
open Go.ChangeShapes Go.WideShapes Go.ChangeAt Go.RowKit
set_option linter.unusedVariables false
set_option linter.unusedSimpArgs false

/-- A store into one cell of a block: the world behind it by what it holds. -/
theorem wpList_store_abs {P : Program} {ops : Array Oper} {rest : List Oper} {o : Oper} {a : Act} {Q : Exit → Act → World → Prop} {w : World} {ty t : TypeId} {x y : Operand} {b f : Nat} {v : Value} {C : Array Value} (hgd : o.guard = none) (ho : o.op = .store ty x y) (hx : a.eval x = .pointer (some ⟨b, f, none⟩)) (hy : a.eval y = v) (hi : (P.info? ty).map (·.size) = some 1) (hv : v.cells = #[v]) (h1 : v.oneCell' = true) (hb : Blk w b C t) (hf : f < C.size)
    (h : ∀ W, Blk W b (C.setIfInBounds f v) t → w.grownBy W (some b) → wpList P ops Q rest (a.put o.dst undef) W) : wpList P ops Q (o :: rest) a w :=
  wpList_plain hgd fun K hK => by
    have hst := run_storeCells_at P b f t [v] 0 C w hb (by simp; omega) (by simpa using h1)
    unfold Oper.wp execOp
    cases hq : P.info? ty with
    | none => simp [hq] at hi
    | some i =>
      have hsz : i.size = 1 := by simpa [hq] using hi
      simp only [ho, hx, hy, Instr.storeAt, Instr.sureAddr, Sem.run_bind, Sem.run_pure, Result.andThen_ok]
      obtain ⟨W, hW, hB, hG⟩ : ∃ W, (storeVar ty ⟨b, f, none⟩ v).run P w = .ok () W ∧ Blk W b (C.setIfInBounds f v) t ∧ w.grownBy W (some b) := by
        refine ⟨w.setRow b (splice C f #[v]), ?_, ?_, ?_⟩
        · have hst' : (storeCells ⟨b, f, none⟩ [v] 0).run P w = .ok () (w.setRow b (splice C f #[v])) := by simpa [splice] using hst
          simp [storeVar, sizeOf, typeInfo, hq, hv, hsz, hst']
        · have := hb.setRow (splice C f #[v])
          have e : splice C f #[v] = C.setIfInBounds f v := by
            unfold splice
            apply Array.ext'
            simp only [Array.toList_setIfInBounds]
            rw [List.set_eq_take_append_cons_drop, if_pos (by simpa using hf)]
            simp
          rw [e] at this ⊢
          exact this
        · exact ⟨rfl, rfl, rfl, by simp, fun j hj hne => setRow_other w b j _ (fun e => hne (by rw [e]))⟩
      rw [hW]
      exact hK _ _ (h W hB hG)
def zeroGr : Gr := ⟨0, 0, fun _ => 0, fun _ => 0, fun _ => 0, 0⟩
theorem zeroCells_gr : Tryz.zeroCells30 = zeroGr.cells := by unfold zeroGr Gr.cells; kernel_rfl
theorem builtGr (x y : Int) : (Tryz.zeroCells30.setIfInBounds 0 (.int .i8 x)).setIfInBounds 1 (.int .i8 y) = (⟨x, y, fun _ => 0, fun _ => 0, fun _ => 0, 0⟩ : Gr).cells := by
  rw [zeroCells_gr, Gr.set0, Gr.set1]; rfl
theorem Gr.putC (g : Gr) (k b : Nat) (hk : k < 64) : g.cells.setIfInBounds (2 + k) (.float .f32 b) = ({ g with con := upd g.con k b } : Gr).cells := by
  refine Gr.cells_of _ (by simp [g.size]) fun i hi => ?_
  rw [Array.getElem?_setIfInBounds]
  by_cases h : 2 + k = i
  · rw [if_pos h, if_pos (by rw [g.size]; omega)]
    subst h
    unfold Gr.at upd
    simp only [show ¬ (2 + k = 0) by omega, show ¬ (2 + k = 1) by omega, show 2 + k < 66 by omega, if_true, if_false, show 2 + k - 2 = k by omega]
  · rw [if_neg h, g.get i hi]
    congr 1
    unfold Gr.at upd
    by_cases i0 : i = 0
    · simp only [i0, if_true]
    · by_cases i1 : i = 1
      · simp only [i1]; rfl
      · by_cases i2 : i < 66
        · simp only [i0, i1, i2, if_true, if_false, show ¬ (i - 2 = k) by omega]
        · simp only [i0, i1, i2, if_false]
theorem Gr.putG (g : Gr) (k b : Nat) (hk : k < 64) : g.cells.setIfInBounds (66 + k) (.float .f32 b) = ({ g with gai := upd g.gai k b } : Gr).cells := by
  refine Gr.cells_of _ (by simp [g.size]) fun i hi => ?_
  rw [Array.getElem?_setIfInBounds]
  by_cases h : 66 + k = i
  · rw [if_pos h, if_pos (by rw [g.size]; omega)]
    subst h
    unfold Gr.at upd
    simp only [show ¬ (66 + k = 0) by omega, show ¬ (66 + k = 1) by omega, show ¬ (66 + k < 66) by omega, show 66 + k < 130 by omega, if_true, if_false, show 66 + k - 66 = k by omega]
  · rw [if_neg h, g.get i hi]
    congr 1
    unfold Gr.at upd
    by_cases i0 : i = 0
    · simp only [i0, if_true]
    · by_cases i1 : i = 1
      · simp only [i1]; rfl
      · by_cases i2 : i < 66
        · simp only [i0, i1, i2, if_true, if_false]
        · by_cases i3 : i < 130
          · simp only [i0, i1, i2, i3, if_true, if_false, show ¬ (i - 66 = k) by omega]
          · simp only [i0, i1, i2, i3, if_false]
theorem szF32 : (Tryz.prog.info? 25).map (·.size) = some 1 := by kernel_rfl
theorem szU64 : (Tryz.prog.info? 28).map (·.size) = some 1 := by kernel_rfl
end Go.Proofs.YtdnnjahdcabdmaaGreatDoor
