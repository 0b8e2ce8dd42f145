/- The text of permits, in the program and in the reference: the walks. -/
import Derived.Test.YtcojgmgoiopboaaGreatDoorPerm
import Derived.Test.YtcojgmgoiopboaaGreatDoorDecS
import Derived.Test.YtcojgmgoiopboaaGreatDoorStrs
import Derived.Test.YtcojgmgoiopboaaGreatDoorSplit
import Derived.Test.YtcojgmgoiopboaaGreatDoorShWr
import Derived.Test.YtcojgmgoiopboaaGreatDoorShTxt
import Derived.Lib.ItoaLen
namespace Go.Proofs.YtcojgmgoiopboaaGreatDoor
open Go.ChangeShapes Go.WideShapes Go.ChangeAt Go.RowKit
set_option linter.unusedVariables false
set_option linter.unusedSimpArgs false
attribute [local irreducible] Calls

def badCell (p : Pm) : Bool := !decide (0 ≤ p.cel) || !decide (p.cel ≤ 63)
def badOC (p : Pm) : Bool := badOwner p || badCell p
def badAny (p : Pm) : Bool := badOwner p || badCell p || badRate p
/-- Have permits a text? -/
def plainPs (n : Nat) (P : Nat → Pm) : Bool := decide (n ≤ 6) && !anyTo badAny P n
theorem plainPs_eq (n : Nat) (P : Nat → Pm) : plainPs n P = (ratesAre n P && !anyTo badOC P n) := by
  unfold plainPs ratesAre
  cases h6 : decide (n ≤ 6)
  · rfl
  · simp only [Bool.true_and]
    cases h : anyTo badAny P n
    · have h1 := anyTo_false.1 h
      have h2 : anyTo badRate P n = false := anyTo_false.2 fun i hi => by
        have := h1 i hi; unfold badAny at this; simp only [Bool.or_eq_false_iff] at this; exact this.2
      have h3 : anyTo badOC P n = false := anyTo_false.2 fun i hi => by
        have := h1 i hi; unfold badAny at this; simp only [Bool.or_eq_false_iff] at this; unfold badOC; simp [this.1.1, this.1.2]
      rw [h2, h3]; rfl
    · cases h2 : anyTo badRate P n
      · cases h3 : anyTo badOC P n
        · have : anyTo badAny P n = false := anyTo_false.2 fun i hi => by
            have q2 := anyTo_false.1 h2 i hi
            have q3 := anyTo_false.1 h3 i hi
            unfold badOC at q3
            simp only [Bool.or_eq_false_iff] at q3
            unfold badAny
            simp [q2, q3.1, q3.2]
          rw [this] at h; cases h
        · rfl
      · rfl
theorem plainPs_parts {n : Nat} {P : Nat → Pm} (h : plainPs n P = true) : n ≤ 6 ∧ ∀ i, i < n → (0 ≤ (P i).own ∧ (P i).own ≤ 7) ∧ (0 ≤ (P i).cel ∧ (P i).cel ≤ 63) ∧ (0 ≤ (P i).rat ∧ (P i).rat ≤ 400) := by
  unfold plainPs at h
  simp only [Bool.and_eq_true, decide_eq_true_eq, Bool.not_eq_true'] at h
  refine ⟨h.1, fun i hi => ?_⟩
  have := anyTo_false.1 h.2 i hi
  unfold badAny badOwner badCell badRate at this
  simp only [Bool.or_eq_false_iff, Bool.not_eq_false', decide_eq_true_eq] at this
  omega
/-- A permit's row. -/
def rowPm (p : Pm) : List UInt8 := (((((Lib.decDigits p.own.toNat ++ ([32] : List UInt8)) ++ Lib.decDigits p.cel.toNat) ++ ([32] : List UInt8)) ++ Lib.decDigits p.rat.toNat) ++ ([10] : List UInt8))
def txtPm (P : Nat → Pm) : Nat → List UInt8
  | 0 => []
  | k + 1 => txtPm P k ++ rowPm (P k)
theorem dec_len {x : Int} (h : 0 ≤ x ∧ x ≤ 400) : (Lib.decDigits x.toNat).length ≤ 3 := decDigits_len_le 2 _ (by omega)
theorem rowPm_len {p : Pm} (h : (0 ≤ p.own ∧ p.own ≤ 7) ∧ (0 ≤ p.cel ∧ p.cel ≤ 63) ∧ (0 ≤ p.rat ∧ p.rat ≤ 400)) : (rowPm p).length ≤ 12 := by
  unfold rowPm
  have h1 := dec_len (x := p.own) (by omega)
  have h2 := dec_len (x := p.cel) (by omega)
  have h3 := dec_len (x := p.rat) (by omega)
  simp; omega
theorem txtPm_len {P : Nat → Pm} : ∀ {k : Nat}, (∀ i, i < k → (0 ≤ (P i).own ∧ (P i).own ≤ 7) ∧ (0 ≤ (P i).cel ∧ (P i).cel ≤ 63) ∧ (0 ≤ (P i).rat ∧ (P i).rat ≤ 400)) → (txtPm P k).length ≤ 12 * k
  | 0, _ => by simp [txtPm]
  | k + 1, h => by
    have ih := txtPm_len (P := P) (k := k) (fun i hi => h i (by omega))
    have := rowPm_len (h k (by omega))
    unfold txtPm; simp; omega
theorem below_grow (w : World) (k : Nat) (os : Array Obj) : Below w.heap.size w (Sort.grow (w.drewN k) os) :=
  ⟨rfl, rfl, rfl, by simp [Sort.grow], fun j hj => by simp [Sort.grow, Array.getElem?_append, hj]⟩
theorem decimalI_any (n : Int) (h0 : 0 ≤ n) (h1 : n ≤ 400) (w : World) (htab : Lib.TabIs Tryz.prog w "internal/strconv.uint64pow10" .u64 Lib.pow10Tab) :
    Calls Tryz.prog 48 #[.int .i64 n] w fun e w' => e = .returned (.string ⟨(Lib.decDigits n.toNat).toArray⟩) ∧ Below w.heap.size w w' := by
  have h := sh_strconv_FormatInt_10 n (by omega) (by omega) w htab
  have hn : Lib.itoa n = Lib.decDigits n.toNat := by unfold Lib.itoa; rw [if_neg (by omega)]
  rw [hn] at h
  generalize Lib.decDigits n.toNat = D at *
  clear hn
  go_enter Tryz.func48, Tryz.ntmps48
  go_wp2_with (go_at_call 75; refine h.mono ?_; rintro e w1 ⟨rfl, k, os, rfl⟩)
  go_ret
  exact ⟨rfl, below_grow w k os⟩
end Go.Proofs.YtcojgmgoiopboaaGreatDoor
