/- The text of permits, in the program and in the reference: the walks. -/
import Derived.Test.YtcojgmgoiopboaaDoorPerm
import Derived.Test.YtcojgmgoiopboaaDoorDecS
import Derived.Test.YtcojgmgoiopboaaDoorStrs
import Derived.Test.YtcojgmgoiopboaaDoorSplit
import Derived.Test.YtcojgmgoiopboaaDoorShWr
import Derived.Test.YtcojgmgoiopboaaDoorShTxt
import Derived.Lib.ItoaLen
namespace Go.Proofs.YtcojgmgoiopboaaDoor
open Go.ChangeShapes Go.WideShapes Go.ChangeAt Go.RowKit
set_option linter.unusedVariables false
set_option linter.unusedSimpArgs false
attribute [local irreducible] Calls

def badCell (p : Pm) : Bool := !decide (0 ≤ p.cel) || !decide (p.cel ≤ 63)
def badOC (p : Pm) : Bool := badOwner p || badCell p
def badAny (p : Pm) : Bool := badOwner p || badCell p || badRate p
/-- Have permits a text? -/
def plainPs (n : Nat) (P : Nat → Pm) : Bool := decide (n ≤ 6) && !anyTo badAny P n
theorem plainPs_eq (n : Nat) (P : Nat → Pm) : plainPs n P = (ratesAre n P && !anyTo badOC P n) := by
  unfold plainPs ratesAre
  cases h6 : decide (n ≤ 6)
  · rfl
  · simp only [Bool.true_and]
    cases h : anyTo badAny P n
    · have h1 := anyTo_false.1 h
      have h2 : anyTo badRate P n = false := anyTo_false.2 fun i hi => by
        have := h1 i hi; unfold badAny at this; simp only [Bool.or_eq_false_iff] at this; exact this.2
      have h3 : anyTo badOC P n = false := anyTo_false.2 fun i hi => by
        have := h1 i hi; unfold badAny at this; simp only [Bool.or_eq_false_iff] at this; unfold badOC; simp [this.1.1, this.1.2]
      rw [h2, h3]; rfl
    · cases h2 : anyTo badRate P n
      · cases h3 : anyTo badOC P n
        · have : anyTo badAny P n = false := anyTo_false.2 fun i hi => by
            have q2 := anyTo_false.1 h2 i hi
            have q3 := anyTo_false.1 h3 i hi
            unfold badOC at q3
            simp only [Bool.or_eq_false_iff] at q3
            unfold badAny
            simp [q2, q3.1, q3.2]
          rw [this] at h; cases h
        · rfl
      · rfl
theorem plainPs_parts {n : Nat} {P : Nat → Pm} (h : plainPs n P = true) : n ≤ 6 ∧ ∀ i, i < n → (0 ≤ (P i).own ∧ (P i).own ≤ 7) ∧ (0 ≤ (P i).cel ∧ (P i).cel ≤ 63) ∧ (0 ≤ (P i).rat ∧ (P i).rat ≤ 400) := by
  unfold plainPs at h
  simp only [Bool.and_eq_true, decide_eq_true_eq, Bool.not_eq_true'] at h
  refine ⟨h.1, fun i hi => ?_⟩
  have := anyTo_false.1 h.2 i hi
  unfold badAny badOwner badCell badRate at this
  simp only [Bool.or_eq_false_iff, Bool.not_eq_false', decide_eq_true_eq] at this
  omega
/-- A permit's row. -/
def rowPm (p : Pm) : List UInt8 := (((((Lib.decDigits p.own.toNat ++ ([32] : List UInt8)) ++ Lib.decDigits p.cel.toNat) ++ ([32] : List UInt8)) ++ Lib.decDigits p.rat.toNat) ++ ([10] : List UInt8))
def txtPm (P : Nat → Pm) : Nat → List UInt8
  | 0 => []
  | k + 1 => txtPm P k ++ rowPm (P k)
theorem dec_len {x : Int} (h : 0 ≤ x ∧ x ≤ 400) : (Lib.decDigits x.toNat).length ≤ 3 := decDigits_len_le 2 _ (by omega)
theorem rowPm_len {p : Pm} (h : (0 ≤ p.own ∧ p.own ≤ 7) ∧ (0 ≤ p.cel ∧ p.cel ≤ 63) ∧ (0 ≤ p.rat ∧ p.rat ≤ 400)) : (rowPm p).length ≤ 12 := by
  unfold rowPm
  have h1 := dec_len (x := p.own) (by omega)
  have h2 := dec_len (x := p.cel) (by omega)
  have h3 := dec_len (x := p.rat) (by omega)
  simp; omega
theorem txtPm_len {P : Nat → Pm} : ∀ {k : Nat}, (∀ i, i < k → (0 ≤ (P i).own ∧ (P i).own ≤ 7) ∧ (0 ≤ (P i).cel ∧ (P i).cel ≤ 63) ∧ (0 ≤ (P i).rat ∧ (P i).rat ≤ 400)) → (txtPm P k).length ≤ 12 * k
  | 0, _ => by simp [txtPm]
  | k + 1, h => by
    have ih := txtPm_len (P := P) (k := k) (fun i hi => h i (by omega))
    have := rowPm_len (h k (by omega))
    unfold txtPm; simp; omega
set_option maxRecDepth 100000 in
set_option maxHeartbeats 400000 in
theorem permitsOk1_any (p : Pm) (hp : p.ok) (w : World) :
    Calls Tryd.prog 41 #[.agg p.cells] w fun e w' => e = .returned (.bool (badOC p)) ∧ Below w.heap.size w w' := by
  have ho := fun w' => isOwner_any p.own w' hp.1
  have hi := fun w' => in_any p.cel 0 63 w'
  obtain ⟨⟨_, _⟩, ⟨c1, c2⟩, _⟩ := hp
  have hB : badOC p = (!(decide (0 ≤ p.own) && decide (p.own ≤ 7)) || !(decide (0 ≤ p.cel) && decide (p.cel ≤ 63))) := by
    unfold badOC badOwner badCell; simp only [Bool.not_and]
  rw [hB]
  cases h1 : (decide (0 ≤ p.own) && decide (p.own ≤ 7)) <;> rw [h1] at ho
  · clear hi hB h1
    rw [p.cells_eq]
    go_enter Tryd.func41, Tryd.ntmps41
    go_wp2_with (go_at_call 42; refine (ho _).mono ?_; rintro e w' ⟨rfl, hw⟩; rw [hw]; clear hw w')
    go_ret
    exact ⟨rfl, below1 _ _⟩
  · generalize (decide (0 ≤ p.cel) && decide (p.cel ≤ 63)) = q at *
    clear hB h1
    rw [p.cells_eq]
    go_enter Tryd.func41, Tryd.ntmps41
    go_wp2_with (first | (go_at_call 42; refine (ho _).mono ?_; rintro e w' ⟨rfl, hw⟩; rw [hw]; clear hw w') | (go_at_call 43; refine (hi _).mono ?_; rintro e w' ⟨rfl, hw⟩; rw [hw]; clear hw w'))
    go_ret
    exact ⟨rfl, below1 _ _⟩
theorem callPermits : Callable Tryd.prog 41 := ⟨_, Tryd.func41, by kernel_rfl, by kernel_rfl⟩
set_option maxRecDepth 100000 in
set_option maxHeartbeats 400000 in
theorem permitsOk_any (n : Nat) (P : Nat → Pm) (hP : ∀ i, i < n → (P i).ok) (v : Value) (w : World) (hv : PSl w v n P) :
    Calls Tryd.prog 23 #[v] w fun e w' => e = .returned (.bool (plainPs n P)) ∧ Below w.heap.size w w' := by
  rw [plainPs_eq]
  have hr := ratesOk_any n P hP v w hv
  have hc := fun w' (hb : Below w.heap.size w w') => containsPm_any badOC 41 #[] n P v w' (hv.below hb) callPermits (fun i w'' hi hb => permitsOk1_any (P i) (hP i hi) w'')
  obtain ⟨a, c, rfl, hc1, hc2, hcell⟩ := hv
  clear hcell
  cases h1 : ratesAre n P <;> rw [h1] at hr
  · clear hc h1
    go_enter Tryd.func23, Tryd.ntmps23
    go_wp2_with (go_at_call 39; refine hr.mono ?_; rintro e w1 ⟨rfl, hb⟩)
    go_ret
    exact ⟨rfl, hb⟩
  · generalize anyTo badOC P n = q at *
    clear h1
    go_enter Tryd.func23, Tryd.ntmps23
    go_wp2_with (first | (go_at_call 39; refine hr.mono ?_; rintro e w1 ⟨rfl, hb⟩) | (go_at_call 40; refine (hc _ hb).mono ?_; rintro e w2 ⟨rfl, hb2⟩))
    go_ret
    exact ⟨rfl, hb.trans (hb2.mono hb.size)⟩
theorem below_grow (w : World) (k : Nat) (os : Array Obj) : Below w.heap.size w (Sort.grow (w.drewN k) os) :=
  ⟨rfl, rfl, rfl, by simp [Sort.grow], fun j hj => by simp [Sort.grow, Array.getElem?_append, hj]⟩
theorem decimalI_any (n : Int) (h0 : 0 ≤ n) (h1 : n ≤ 400) (w : World) (htab : Lib.TabIs Tryd.prog w "internal/strconv.uint64pow10" .u64 Lib.pow10Tab) :
    Calls Tryd.prog 25 #[.int .i64 n] w fun e w' => e = .returned (.string ⟨(Lib.decDigits n.toNat).toArray⟩) ∧ Below w.heap.size w w' := by
  have h := sh_strconv_FormatInt_10 n (by omega) (by omega) w htab
  have hn : Lib.itoa n = Lib.decDigits n.toNat := by unfold Lib.itoa; rw [if_neg (by omega)]
  rw [hn] at h
  generalize Lib.decDigits n.toNat = D at *
  clear hn
  go_enter Tryd.func25, Tryd.ntmps25
  go_wp2_with (go_at_call 45; refine h.mono ?_; rintro e w1 ⟨rfl, k, os, rfl⟩)
  go_ret
  exact ⟨rfl, below_grow w k os⟩
set_option maxRecDepth 100000 in
set_option maxHeartbeats 400000 in
theorem l07Plain_any (n : Nat) (P : Nat → Pm) (hP : ∀ i, i < n → (P i).ok) (v : Value) (w : World) (hv : PSl w v n P) :
    Calls Tryd.prog 20 #[v] w fun e w' => e = .returned (.bool (plainPs n P)) ∧ Below w.heap.size w w' := by
  obtain ⟨a, c, rfl, hc1, hc2, hcell⟩ := hv
  unfold maxLen at hc2
  have HC := Lib.hid hcell
  clear hcell
  go_enter Tryd.func20, Tryd.ntmps20
  go_upto_region 2 with fail
  go_loopw [3] (fun i wr => ∃ k : Nat, k ≤ n ∧ i = .int .i64 k ∧ Hid (∀ j, j < k → badAny (P j) = false) ∧ Below w.heap.size w wr) (fun i _ => n - (intOf i).toNat)
  case atStart => exact ⟨0, by omega, rfl, Lib.hid fun j hj => by omega, Below.refl _ _⟩
  case round =>
    obtain ⟨k, hk, rfl, hq, hbel⟩ := hrel
    have bk : (0 : Int) ≤ k := by omega
    by_cases hlt : k < n
    · have bl : (k : Int) < n := by omega
      obtain ⟨b, o, rfl, hb, hcell⟩ := HC.out.resolve_left (by omega)
      have e0 : wr.cell? ⟨b, o + k * 3, none⟩ = some (.int .i8 (P k).own) := (hbel.cell (p := ⟨b, _, none⟩) hb).trans ((hcell k 0 hlt (by omega)).trans (P k).get0)
      have e1 : wr.cell? ⟨b, o + k * 3 + 1, none⟩ = some (.int .i8 (P k).cel) := (hbel.cell (p := ⟨b, _, none⟩) hb).trans ((hcell k 1 hlt (by omega)).trans (P k).get1)
      have e2 : wr.cell? ⟨b, o + k * 3 + 2, none⟩ = some (.int .i16 (P k).rat) := (hbel.cell (p := ⟨b, _, none⟩) hb).trans ((hcell k 2 hlt (by omega)).trans (P k).get2)
      clear hcell
      obtain ⟨⟨o1, o2⟩, ⟨c1, c2⟩, r1, r2⟩ := hP k hlt
      have hB : badAny (P k) = (!(decide (0 ≤ (P k).own) && decide ((P k).own ≤ 7)) || !(decide (0 ≤ (P k).cel) && decide ((P k).cel ≤ 63)) || !(decide (0 ≤ (P k).rat) && decide ((P k).rat ≤ 400))) := by
        unfold badAny badOwner badCell badRate; simp only [Bool.not_and]
      have i1 := fun w' => l00In_any (P k).own 0 7 w'
      have i2 := fun w' => l00In_any (P k).cel 0 63 w'
      have i3 := fun w' => l00In_any (P k).rat 0 400 w'
      have HN : badAny (P k) = true → plainPs n P = false := fun h => by unfold plainPs; rw [anyTo_true hlt h]; simp
      have HS : badAny (P k) = false → ∀ j, j < k + 1 → badAny (P j) = false := fun h => all_step hq.out h
      have HN := Lib.hid HN
      have HS := Lib.hid HS
      go_upto_region 5 with fail
      have hX := Blk.new wr #[.int .i8 (P k).own, .int .i8 (P k).cel, .int .i16 (P k).rat] 42
      have hbel := hbel.alloc hbel.size (.cells #[.int .i8 (P k).own, .int .i8 (P k).cel, .int .i16 (P k).rat] 42)
      generalize wr.alloc (.cells #[.int .i8 (P k).own, .int .i8 (P k).cel, .int .i16 (P k).rat] 42) = W at *
      have x0 := hX.cell 0
      have x1 := hX.cell 1
      have x2 := hX.cell 2
      clear hX e0 e1 e2 hq
      generalize badAny (P k) = B at *
      cases h1 : (decide (0 ≤ (P k).own) && decide ((P k).own ≤ 7)) <;> rw [h1] at i1 hB
      · have HF : Hid (plainPs n P = false) := Lib.hid (HN.out hB)
        clear i2 i3 hB HN HS h1
        go_wp2_with (go_at_call 33; refine (i1 _).mono ?_; rintro e w' ⟨rfl, hw⟩; rw [hw]; clear hw w')
        go_ret
        exact ⟨by rw [HF.out]; rfl, hbel⟩
      · cases h2 : (decide (0 ≤ (P k).cel) && decide ((P k).cel ≤ 63)) <;> rw [h2] at i2 hB
        · have HF : Hid (plainPs n P = false) := Lib.hid (HN.out hB)
          clear i3 hB HN HS h1 h2
          go_wp2_with (go_at_call 33; first | (refine (i1 _).mono ?_; rintro e w' ⟨rfl, hw⟩; rw [hw]; clear hw w' i1) | (refine (i2 _).mono ?_; rintro e w' ⟨rfl, hw⟩; rw [hw]; clear hw w'))
          go_ret
          exact ⟨by rw [HF.out]; rfl, hbel⟩
        · cases h3 : (decide (0 ≤ (P k).rat) && decide ((P k).rat ≤ 400)) <;> rw [h3] at i3 hB
          · have HF : Hid (plainPs n P = false) := Lib.hid (HN.out hB)
            clear hB HN HS h1 h2 h3
            go_wp2_with (go_at_call 33; first | (refine (i1 _).mono ?_; rintro e w' ⟨rfl, hw⟩; rw [hw]; clear hw w' i1) | (refine (i2 _).mono ?_; rintro e w' ⟨rfl, hw⟩; rw [hw]; clear hw w' i2) | (refine (i3 _).mono ?_; rintro e w' ⟨rfl, hw⟩; rw [hw]; clear hw w'))
            go_ret
            exact ⟨by rw [HF.out]; rfl, hbel⟩
          · have HF : Hid (∀ j, j < k + 1 → badAny (P j) = false) := Lib.hid (HS.out hB)
            clear hB HN HS h1 h2 h3
            go_wp2_with (go_at_call 33; first | (refine (i1 _).mono ?_; rintro e w' ⟨rfl, hw⟩; rw [hw]; clear hw w' i1) | (refine (i2 _).mono ?_; rintro e w' ⟨rfl, hw⟩; rw [hw]; clear hw w' i2) | (refine (i3 _).mono ?_; rintro e w' ⟨rfl, hw⟩; rw [hw]; clear hw w'))
            go_roundw
            case rel => exact ⟨k + 1, by omega, by go_num, HF, hbel⟩
            case measure => simp [intOf]; omega
    · obtain rfl : k = n := by omega
      have HF : Hid (plainPs k P = decide (k ≤ 6)) := Lib.hid (by unfold plainPs; rw [anyTo_false.2 hq.out]; simp)
      have hd : decide ((k : Int) ≤ 6) = decide (k ≤ 6) := decide_eq_decide.2 (by omega)
      clear hq
      go_wp2_with fail
      go_ret
      exact ⟨bool_eq (by rw [HF.out]), hbel⟩
end Go.Proofs.YtcojgmgoiopboaaDoor
