import Derived.Test.YtglimhkpndfjgaaMT09
import Derived.Test.YtglimhkpndfjgaaMT02
/- The well function and drawdowns are finite. Plain laws; no statement is proved here. -/
namespace Go.Proofs.Ytglimhkpndfjgaa
open Ieee
set_option linter.unusedVariables false
set_option linter.unusedSimpArgs false

theorem fE_mg : ∀ k : Nat, k < 129 → fE k % 2147483648 ≤ 134 * 8388608 := by decide +kernel
theorem fI_mg {z : Int} (h1 : -64 ≤ z) (h2 : z ≤ 64) : Mg (fI z) 134 := by
  have h := fE_mg (z + 64).toNat (by omega)
  unfold fE at h
  rw [show ((z + 64).toNat : Int) - 64 = z by omega] at h
  exact h
theorem one_nrm : Nrm 1065353216 127 127 := ⟨by decide, by decide⟩
theorem lnS_mg {m e : Nat} (hm : Nrm m 126 128) (he : Mg e 134) : Mg (lnS m e) 190 := by
  unfold lnS
  have h1 : Mg (fop .sub m 1065353216) 130 := (hm.mg (by omega)).sub (one_nrm.mg (by omega)) (by omega) (by omega) (by omega) (by omega) (by omega) (by omega) (by omega)
  have h2 : Nrm (fop .add m 1065353216) 127 130 := (hm.add one_nrm (by omega) (by omega) (by omega) (by omega)).mono (by omega) (by omega)
  have ht : Mg (fop .quo (fop .sub m 1065353216) (fop .add m 1065353216)) 132 := h1.quo h2 (by omega) (by omega) (by omega) (by omega) (by omega) (by omega) (by omega)
  generalize fop .quo (fop .sub m 1065353216) (fop .add m 1065353216) = t at *
  have hq : Mg (fop .mul t t) 139 := ht.mul ht (by omega) (by omega) (by omega) (by omega) (by omega) (by omega) (by omega)
  simp only
  generalize fop .mul t t = q at *
  have c7 : Mg 1041385765 125 := by unfold Mg; decide
  have c5 : Mg 1045220557 125 := by unfold Mg; decide
  have c3 : Mg 1051372203 126 := by unfold Mg; decide
  have c2 : Mg 1073741824 128 := by unfold Mg; decide
  have cl : Mg 1060205080 127 := by unfold Mg; decide
  have c1 := one_nrm.mg (by omega)
  have p0 : Mg (fop .mul q 1041385765) 139 := hq.mul c7 (by omega) (by omega) (by omega) (by omega) (by omega) (by omega) (by omega)
  have p1 : Mg (fop .add (fop .mul q 1041385765) 1045220557) 141 := p0.add c5 (by omega) (by omega) (by omega) (by omega) (by omega) (by omega) (by omega)
  have p2 := p1.mul hq (l := 155) (by omega) (by omega) (by omega) (by omega) (by omega) (by omega) (by omega)
  have p3 := p2.add c3 (l := 157) (by omega) (by omega) (by omega) (by omega) (by omega) (by omega) (by omega)
  have p4 := p3.mul hq (l := 171) (by omega) (by omega) (by omega) (by omega) (by omega) (by omega) (by omega)
  have p5 := p4.add c1 (l := 173) (by omega) (by omega) (by omega) (by omega) (by omega) (by omega) (by omega)
  have p6 := ht.mul p5 (l := 180) (by omega) (by omega) (by omega) (by omega) (by omega) (by omega) (by omega)
  have p7 := c2.mul p6 (l := 183) (by omega) (by omega) (by omega) (by omega) (by omega) (by omega) (by omega)
  have p8 := he.mul cl (l := 136) (by omega) (by omega) (by omega) (by omega) (by omega) (by omega) (by omega)
  exact p8.add p7 (by omega) (by omega) (by omega) (by omega) (by omega) (by omega) (by omega)
theorem lnM_nrm {u : Nat} (h : 8388608 ≤ u) : Nrm (lnM u) 126 128 := by
  obtain ⟨h1, h2, _⟩ := lnM_in h
  exact ⟨by omega, by omega⟩
theorem lnE_in {u : Nat} (h1 : 562036736 ≤ u) (h2 : u ≤ 1568669696) : -64 ≤ lnE u ∧ lnE u ≤ 64 := by unfold lnE; omega
theorem lnX_mg {u : Nat} (h1 : 562036736 ≤ u) (h2 : u ≤ 1568669696) : Mg (lnX u) 190 := lnS_mg (lnM_nrm (by omega)) (fI_mg (lnE_in h1 h2).1 (lnE_in h1 h2).2)
theorem wfH_mg {u : Nat} (hu : Mg u 127) : Mg (wfH u) 135 := by
  unfold wfH
  have c6 : Mg 987395086 118 := by unfold Mg; decide
  have c9 : Mg 1009429163 121 := by unfold Mg; decide
  have c8 : Mg 1029934649 123 := by unfold Mg; decide
  have c4 : Mg 1048576000 125 := by unfold Mg; decide
  have c1 := one_nrm.mg (by omega)
  have p0 := hu.mul c6 (l := 120) (by omega) (by omega) (by omega) (by omega) (by omega) (by omega) (by omega)
  have p1 := p0.sub c9 (l := 123) (by omega) (by omega) (by omega) (by omega) (by omega) (by omega) (by omega)
  have p2 := p1.mul hu (l := 125) (by omega) (by omega) (by omega) (by omega) (by omega) (by omega) (by omega)
  have p3 := p2.add c8 (l := 127) (by omega) (by omega) (by omega) (by omega) (by omega) (by omega) (by omega)
  have p4 := p3.mul hu (l := 129) (by omega) (by omega) (by omega) (by omega) (by omega) (by omega) (by omega)
  have p5 := p4.sub c4 (l := 131) (by omega) (by omega) (by omega) (by omega) (by omega) (by omega) (by omega)
  have p6 := p5.mul hu (l := 133) (by omega) (by omega) (by omega) (by omega) (by omega) (by omega) (by omega)
  exact p6.add c1 (by omega) (by omega) (by omega) (by omega) (by omega) (by omega) (by omega)
theorem k8 : ∀ k : Nat, k < 8 → 127 * 8388608 ≤ fI (8 - (k : Int)) ∧ fI (8 - (k : Int)) ≤ 131 * 8388608 := by decide +kernel
theorem wfI_nrm {u : Nat} (hu : Nrm u 127 134) : ∀ k : Nat, k ≤ 8 → Nrm (wfI u k) 127 136
  | 0, _ => hu.mono (by omega) (by omega)
  | k + 1, h => by
    have ih := wfI_nrm hu k (by omega)
    have hk : Nrm (fI (8 - (k : Int))) 127 131 := k8 k (by omega)
    have q1 := hk.quo ih (by omega) (by omega) (by omega) (by omega) (by omega) (by omega)
    have a1 := one_nrm.add q1 (by omega) (by omega) (by omega) (by omega)
    have q2 := hk.quo (a1.mono (i' := 127) (j' := 134) (by omega) (by omega)) (by omega) (by omega) (by omega) (by omega) (by omega) (by omega)
    exact (hu.add q2 (by omega) (by omega) (by omega) (by omega)).mono (by omega) (by omega)
theorem exP_nrm {u : Nat} (hu : Nrm u 127 134) : Nrm (exP u) 127 137 := by
  unfold exP
  have c256 : Nrm 1132462080 135 135 := ⟨by decide, by decide⟩
  have c6 : Nrm 1042983595 124 125 := ⟨by decide, by decide⟩
  have ch : Nrm 1056964608 126 126 := ⟨by decide, by decide⟩
  have hv := (hu.quo c256 (by omega) (by omega) (by omega) (by omega) (by omega) (by omega)).mono (i' := 118) (j' := 127) (by omega) (by omega)
  generalize fop .quo u 1132462080 = v at *
  simp only
  have p0 := (hv.mul c6 (by omega) (by omega) (by omega) (by omega) (by omega) (by omega)).mono (i' := 115) (j' := 127) (by omega) (by omega)
  have p1 := (p0.add ch (by omega) (by omega) (by omega) (by omega)).mono (i' := 126) (j' := 129) (by omega) (by omega)
  have p2 := (p1.mul hv (by omega) (by omega) (by omega) (by omega) (by omega) (by omega)).mono (i' := 117) (j' := 131) (by omega) (by omega)
  have p3 := (p2.add one_nrm (by omega) (by omega) (by omega) (by omega)).mono (i' := 127) (j' := 133) (by omega) (by omega)
  have p4 := (p3.mul hv (by omega) (by omega) (by omega) (by omega) (by omega) (by omega)).mono (i' := 118) (j' := 135) (by omega) (by omega)
  exact (p4.add one_nrm (by omega) (by omega) (by omega) (by omega)).mono (by omega) (by omega)
/-- At least 1, maybe infinite. -/
def Pge (a : Nat) : Prop := 1065353216 ≤ a ∧ a ≤ 2139095040
theorem inf_read : single.read 2139095040 = .infinity false := by decide +kernel
theorem Pge.sq {a : Nat} (h : Pge a) : Pge (fop .mul a a) := by
  by_cases hi : a = 2139095040
  · subst hi
    have : fop .mul 2139095040 2139095040 = 2139095040 := by decide +kernel
    rw [this]; exact ⟨by omega, by omega⟩
  · have h2 : a < 2139095040 := by have := h.2; omega
    have h1 : 8388608 ≤ a := by have := h.1; omega
    have r := read_norm h1 h2
    have f1 : 127 ≤ a / 8388608 := by have := h.1; omega
    have f2 : a / 8388608 ≤ 254 := by omega
    by_cases hs : a / 8388608 + a / 8388608 ≤ 379
    · obtain ⟨x, hx, x1, x2⟩ := mul_norm h1 h2 h1 h2 (by omega) hs
      have e1 : 127 * 8388608 ≤ (a / 8388608 + a / 8388608 - 127) * 8388608 := Nat.mul_le_mul_right _ (by omega)
      have e2 : (a / 8388608 + a / 8388608 - 125) * 8388608 ≤ 254 * 8388608 := Nat.mul_le_mul_right _ (by omega)
      rw [fop_is hx (finF_num (by omega))]
      exact ⟨by omega, by omega⟩
    · obtain ⟨M, hM⟩ : ∃ M, 8388608 + a % 8388608 = M := ⟨_, rfl⟩
      rw [hM] at r
      have m1 : 8388608 ≤ M := by omega
      have m2 : M < 16777216 := by omega
      have p1 : 8388608 * 8388608 ≤ M * M := Nat.mul_le_mul m1 m1
      have hne : M * M ≠ 0 := by omega
      have l1 : 46 ≤ (M * M).log2 := (Nat.le_log2 hne).2 (by omega)
      have hv : floatBits .mul .f32 a a = some (single.nearest false (M * M) (-149 + ((a / 8388608 - 1 : Nat) : Int) + (-149 + ((a / 8388608 - 1 : Nat) : Int)))) := by
        show ((single.read a).product (single.read a)).map single.write = _
        rw [r]; rfl
      obtain ⟨K, k1, k2, hK⟩ := near_gen (M * M) (-149 + ((a / 8388608 - 1 : Nat) : Int) + (-149 + ((a / 8388608 - 1 : Nat) : Int))) (a / 8388608 + a / 8388608 + (M * M).log2 - 173) hne (by omega) (by omega)
      rw [hK] at hv
      have e1 : 127 * 8388608 ≤ (a / 8388608 + a / 8388608 + (M * M).log2 - 173 - 1) * 8388608 := Nat.mul_le_mul_right _ (by omega)
      have hx : Pge (min ((a / 8388608 + a / 8388608 + (M * M).log2 - 173 - 1) * 8388608 + K) 2139095040) := ⟨by omega, Nat.min_le_right _ _⟩
      rw [fop_is hv (by
        obtain ⟨x1, x2⟩ := hx
        generalize min ((a / 8388608 + a / 8388608 + (M * M).log2 - 173 - 1) * 8388608 + K) 2139095040 = x at *
        by_cases hxi : x = 2139095040
        · subst hxi; decide +kernel
        · exact finF_num (by omega))]
      exact hx
theorem sqN_pge {p : Nat} (h : Pge p) : ∀ k, Pge (sqN p k)
  | 0 => h
  | k + 1 => (sqN_pge h k).sq
theorem Pge.inv {a : Nat} (h : Pge a) : Mg (fop .quo 1065353216 a) 132 := by
  by_cases hi : a = 2139095040
  · subst hi
    unfold Mg; decide +kernel
  · have h2 : a < 2139095040 := by have := h.2; omega
    exact (one_nrm.mg (by omega)).quo' (k := 127) (by have := h.1; omega) (by have := h.1; omega) h2 (by omega) (by omega) (by omega) (by omega) (by omega)
theorem exX_mg {u : Nat} (hu : Nrm u 127 134) : Mg (exX u) 132 := by
  unfold exX
  have h := exP_nrm hu
  exact (sqN_pge ⟨by have := h.1; omega, by have := h.hi (by omega); omega⟩ 8).inv
theorem wfX_mg {u : Nat} (h1 : 562036736 ≤ u) (h2 : u ≤ 1117782016) : Mg (wfX u) 200 := by
  unfold wfX
  split
  · rename_i h
    have hu : Mg u 127 := by unfold Mg; rw [Nat.mod_eq_of_lt (by omega)]; omega
    have hg : Mg 3205743720 127 := by unfold Mg; decide
    have a1 := hg.sub (lnX_mg h1 (by omega)) (l := 192) (by omega) (by omega) (by omega) (by omega) (by omega) (by omega) (by omega)
    have a2 := (wfH_mg hu).mul hu (l := 140) (by omega) (by omega) (by omega) (by omega) (by omega) (by omega) (by omega)
    exact a1.add a2 (by omega) (by omega) (by omega) (by omega) (by omega) (by omega) (by omega)
  · have hu : Nrm u 127 134 := ⟨by omega, by omega⟩
    exact (exX_mg hu).quo (wfI_nrm hu 8 (by omega)) (by omega) (by omega) (by omega) (by omega) (by omega) (by omega) (by omega)
/-- Drawdowns are finite. -/
theorem ddX_mg {T S R : Nat} (h : Aq T S) (hR : Mg R 147) {x y : Int} (hx : -15 ≤ x ∧ x ≤ 15) (hy : -15 ≤ y ∧ y ≤ 15) {time : Nat} (h1 : 1 ≤ time) (h2 : time ≤ 100000) : Mg (ddX T S R x y time) 240 := by
  unfold ddX
  split
  · unfold Mg; decide
  · have hv := argV_in h hx hy h1 h2
    have hp : Nrm 1095307227 130 131 := ⟨by decide, by decide⟩
    have hl := hp.mul h.t (by omega) (by omega) (by omega) (by omega) (by omega) (by omega)
    have hq := hR.quo hl (l := 160) (by omega) (by omega) (by omega) (by omega) (by omega) (by omega) (by omega)
    exact hq.mul (wfX_mg hv.1 (by omega)) (by omega) (by omega) (by omega) (by omega) (by omega) (by omega) (by omega)
end Go.Proofs.Ytglimhkpndfjgaa
/- The operations of the wells' series give no NaN: each with its word. Plain laws; no statement is proved here. -/
namespace Go.Proofs.Ytglimhkpndfjgaa
open Ieee
set_option linter.unusedVariables false
set_option linter.unusedSimpArgs false

/-- An operation whose word is known: it draws nothing. -/
def Opr (op : BinOp) (a b r : Nat) : Prop := fcnt op a b = 0 ∧ ∀ w, fres op a b w = r
theorem fop_told {op : BinOp} {a b : Nat} (h : isN .f32 (fop op a b) = false) : floatBits op .f32 a b = some (fop op a b) := by
  unfold fop at h ⊢
  cases hb : floatBits op .f32 a b with
  | none =>
    rw [hb, Option.getD_none, show cn (qn .f32) = qn .f32 from cnk_of_nan (isN_qn _), isN_qn] at h
    cases h
  | some r =>
    rw [hb, Option.getD_some] at h
    rw [Option.getD_some]
    cases hr : isN .f32 r
    · rw [show cn r = r from cnk_of_not hr]
    · rw [show cn r = qn .f32 from cnk_of_nan hr, isN_qn] at h
      cases h
theorem Opr.told {op : BinOp} {a b r : Nat} (h : floatBits op .f32 a b = some r) : Opr op a b r := ⟨fcnt_some h, fun _ => fres_some h⟩
theorem Opr.of {op : BinOp} {a b j : Nat} (h : Mg (fop op a b) j) (hj : j ≤ 254) : Opr op a b (fop op a b) := Opr.told (fop_told (h.num hj))
theorem lnS_steps {m e : Nat} (hm : Nrm m 126 128) (he : Mg e 134) : ∃ a b t q q7 p1 p1q p2 p2q p3 tp y el, Opr .sub m 1065353216 a ∧ Opr .add m 1065353216 b ∧ Opr .quo a b t ∧ Opr .mul t t q ∧ Opr .mul q 1041385765 q7 ∧ Opr .add q7 1045220557 p1 ∧ Opr .mul p1 q p1q ∧ Opr .add p1q 1051372203 p2 ∧ Opr .mul p2 q p2q ∧ Opr .add p2q 1065353216 p3 ∧ Opr .mul t p3 tp ∧ Opr .mul 1073741824 tp y ∧ Opr .mul e 1060205080 el ∧ Opr .add el y (lnS m e) := by
  unfold lnS
  have h1 : Mg (fop .sub m 1065353216) 130 := (hm.mg (by omega)).sub (one_nrm.mg (by omega)) (by omega) (by omega) (by omega) (by omega) (by omega) (by omega) (by omega)
  have h2 : Nrm (fop .add m 1065353216) 127 130 := (hm.add one_nrm (by omega) (by omega) (by omega) (by omega)).mono (by omega) (by omega)
  have o1 := Opr.of h1 (by omega)
  have o2 := Opr.of (h2.mg (by omega)) (by omega)
  have ht : Mg (fop .quo (fop .sub m 1065353216) (fop .add m 1065353216)) 132 := h1.quo h2 (by omega) (by omega) (by omega) (by omega) (by omega) (by omega) (by omega)
  have o3 := Opr.of ht (by omega)
  generalize fop .quo (fop .sub m 1065353216) (fop .add m 1065353216) = t at *
  have hq : Mg (fop .mul t t) 139 := ht.mul ht (by omega) (by omega) (by omega) (by omega) (by omega) (by omega) (by omega)
  have o4 := Opr.of hq (by omega)
  simp only
  generalize fop .mul t t = q at *
  have c7 : Mg 1041385765 125 := by unfold Mg; decide
  have c5 : Mg 1045220557 125 := by unfold Mg; decide
  have c3 : Mg 1051372203 126 := by unfold Mg; decide
  have c2 : Mg 1073741824 128 := by unfold Mg; decide
  have cl : Mg 1060205080 127 := by unfold Mg; decide
  have c1 := one_nrm.mg (by omega)
  have p0 : Mg (fop .mul q 1041385765) 139 := hq.mul c7 (by omega) (by omega) (by omega) (by omega) (by omega) (by omega) (by omega)
  have p1 : Mg (fop .add (fop .mul q 1041385765) 1045220557) 141 := p0.add c5 (by omega) (by omega) (by omega) (by omega) (by omega) (by omega) (by omega)
  have p2 := p1.mul hq (l := 155) (by omega) (by omega) (by omega) (by omega) (by omega) (by omega) (by omega)
  have p3 := p2.add c3 (l := 157) (by omega) (by omega) (by omega) (by omega) (by omega) (by omega) (by omega)
  have p4 := p3.mul hq (l := 171) (by omega) (by omega) (by omega) (by omega) (by omega) (by omega) (by omega)
  have p5 := p4.add c1 (l := 173) (by omega) (by omega) (by omega) (by omega) (by omega) (by omega) (by omega)
  have p6 := ht.mul p5 (l := 180) (by omega) (by omega) (by omega) (by omega) (by omega) (by omega) (by omega)
  have p7 := c2.mul p6 (l := 183) (by omega) (by omega) (by omega) (by omega) (by omega) (by omega) (by omega)
  have p8 := he.mul cl (l := 136) (by omega) (by omega) (by omega) (by omega) (by omega) (by omega) (by omega)
  have p9 := p8.add p7 (l := 185) (by omega) (by omega) (by omega) (by omega) (by omega) (by omega) (by omega)
  exact ⟨_, _, t, q, _, _, _, _, _, _, _, _, _, o1, o2, o3, o4, Opr.of p0 (by omega), Opr.of p1 (by omega), Opr.of p2 (by omega), Opr.of p3 (by omega), Opr.of p4 (by omega), Opr.of p5 (by omega), Opr.of p6 (by omega), Opr.of p7 (by omega), Opr.of p8 (by omega), Opr.of p9 (by omega)⟩
theorem exP_steps {u : Nat} (hu : Nrm u 127 134) : ∃ v a p b q c, Opr .quo u 1132462080 v ∧ Opr .mul v 1042983595 a ∧ Opr .add a 1056964608 p ∧ Opr .mul p v b ∧ Opr .add b 1065353216 q ∧ Opr .mul q v c ∧ Opr .add c 1065353216 (exP u) := by
  unfold exP
  have c256 : Nrm 1132462080 135 135 := ⟨by decide, by decide⟩
  have c6 : Nrm 1042983595 124 125 := ⟨by decide, by decide⟩
  have ch : Nrm 1056964608 126 126 := ⟨by decide, by decide⟩
  have hv := (hu.quo c256 (by omega) (by omega) (by omega) (by omega) (by omega) (by omega)).mono (i' := 118) (j' := 127) (by omega) (by omega)
  have o1 := Opr.of (hv.mg (by omega)) (by omega)
  generalize fop .quo u 1132462080 = v at *
  simp only
  have p0 := (hv.mul c6 (by omega) (by omega) (by omega) (by omega) (by omega) (by omega)).mono (i' := 115) (j' := 127) (by omega) (by omega)
  have p1 := (p0.add ch (by omega) (by omega) (by omega) (by omega)).mono (i' := 126) (j' := 129) (by omega) (by omega)
  have p2 := (p1.mul hv (by omega) (by omega) (by omega) (by omega) (by omega) (by omega)).mono (i' := 117) (j' := 131) (by omega) (by omega)
  have p3 := (p2.add one_nrm (by omega) (by omega) (by omega) (by omega)).mono (i' := 127) (j' := 133) (by omega) (by omega)
  have p4 := (p3.mul hv (by omega) (by omega) (by omega) (by omega) (by omega) (by omega)).mono (i' := 118) (j' := 135) (by omega) (by omega)
  have p5 := (p4.add one_nrm (by omega) (by omega) (by omega) (by omega)).mono (i' := 127) (j' := 137) (by omega) (by omega)
  exact ⟨v, _, _, _, _, _, o1, Opr.of (p0.mg (by omega)) (by omega), Opr.of (p1.mg (by omega)) (by omega), Opr.of (p2.mg (by omega)) (by omega), Opr.of (p3.mg (by omega)) (by omega), Opr.of (p4.mg (by omega)) (by omega), Opr.of (p5.mg (by omega)) (by omega)⟩
theorem Pge.num {a : Nat} (h : Pge a) : isN .f32 a = false := by
  by_cases hi : a = 2139095040
  · subst hi; decide +kernel
  · exact finF_num (by have := h.2; omega)
theorem sqN_step {p : Nat} (h : Pge p) (k : Nat) : Opr .mul (sqN p k) (sqN p k) (sqN p (k + 1)) := Opr.told (fop_told (sqN_pge h (k + 1)).num)
theorem exP_pge {u : Nat} (hu : Nrm u 127 134) : Pge (exP u) := by
  have h := exP_nrm hu
  exact ⟨by have := h.1; omega, by have := h.hi (by omega); omega⟩
theorem exX_step {u : Nat} (hu : Nrm u 127 134) : Opr .quo 1065353216 (sqN (exP u) 8) (exX u) := Opr.of (exX_mg hu) (by omega)
theorem wfH_steps {u : Nat} (hu : Mg u 127) : ∃ a h1 b h2 c h3 d, Opr .mul u 987395086 a ∧ Opr .sub a 1009429163 h1 ∧ Opr .mul h1 u b ∧ Opr .add b 1029934649 h2 ∧ Opr .mul h2 u c ∧ Opr .sub c 1048576000 h3 ∧ Opr .mul h3 u d ∧ Opr .add d 1065353216 (wfH u) := by
  unfold wfH
  have c6 : Mg 987395086 118 := by unfold Mg; decide
  have c9 : Mg 1009429163 121 := by unfold Mg; decide
  have c8 : Mg 1029934649 123 := by unfold Mg; decide
  have c4 : Mg 1048576000 125 := by unfold Mg; decide
  have c1 := one_nrm.mg (by omega)
  have p0 := hu.mul c6 (l := 120) (by omega) (by omega) (by omega) (by omega) (by omega) (by omega) (by omega)
  have p1 := p0.sub c9 (l := 123) (by omega) (by omega) (by omega) (by omega) (by omega) (by omega) (by omega)
  have p2 := p1.mul hu (l := 125) (by omega) (by omega) (by omega) (by omega) (by omega) (by omega) (by omega)
  have p3 := p2.add c8 (l := 127) (by omega) (by omega) (by omega) (by omega) (by omega) (by omega) (by omega)
  have p4 := p3.mul hu (l := 129) (by omega) (by omega) (by omega) (by omega) (by omega) (by omega) (by omega)
  have p5 := p4.sub c4 (l := 131) (by omega) (by omega) (by omega) (by omega) (by omega) (by omega) (by omega)
  have p6 := p5.mul hu (l := 133) (by omega) (by omega) (by omega) (by omega) (by omega) (by omega) (by omega)
  have p7 := p6.add c1 (l := 135) (by omega) (by omega) (by omega) (by omega) (by omega) (by omega) (by omega)
  exact ⟨_, _, _, _, _, _, _, Opr.of p0 (by omega), Opr.of p1 (by omega), Opr.of p2 (by omega), Opr.of p3 (by omega), Opr.of p4 (by omega), Opr.of p5 (by omega), Opr.of p6 (by omega), Opr.of p7 (by omega)⟩
/-- The small branch of the well function. -/
theorem wfX_low {u : Nat} (h1 : 562036736 ≤ u) (h2 : u ≤ 1065353216) : ∃ a b, Opr .sub 3205743720 (lnX u) a ∧ Opr .mul (wfH u) u b ∧ Opr .add a b (wfX u) := by
  unfold wfX
  rw [if_pos h2]
  have hu : Mg u 127 := by unfold Mg; rw [Nat.mod_eq_of_lt (by omega)]; omega
  have hg : Mg 3205743720 127 := by unfold Mg; decide
  have a1 := hg.sub (lnX_mg h1 (by omega)) (l := 192) (by omega) (by omega) (by omega) (by omega) (by omega) (by omega) (by omega)
  have a2 := (wfH_mg hu).mul hu (l := 140) (by omega) (by omega) (by omega) (by omega) (by omega) (by omega) (by omega)
  have a3 := a1.add a2 (l := 200) (by omega) (by omega) (by omega) (by omega) (by omega) (by omega) (by omega)
  exact ⟨_, _, Opr.of a1 (by omega), Opr.of a2 (by omega), Opr.of a3 (by omega)⟩
theorem wfI_step {u : Nat} (hu : Nrm u 127 134) {k : Nat} (h : k < 8) : ∃ a b c, Opr .quo (fI (8 - (k : Int))) (wfI u k) a ∧ Opr .add 1065353216 a b ∧ Opr .quo (fI (8 - (k : Int))) b c ∧ Opr .add u c (wfI u (k + 1)) := by
  have ih := wfI_nrm hu k (by omega)
  have hk : Nrm (fI (8 - (k : Int))) 127 131 := k8 k (by omega)
  have q1 := hk.quo ih (by omega) (by omega) (by omega) (by omega) (by omega) (by omega)
  have a1 := one_nrm.add q1 (by omega) (by omega) (by omega) (by omega)
  have q2 := hk.quo (a1.mono (i' := 127) (j' := 134) (by omega) (by omega)) (by omega) (by omega) (by omega) (by omega) (by omega) (by omega)
  have a2 := hu.add q2 (by omega) (by omega) (by omega) (by omega)
  exact ⟨_, _, _, Opr.of (q1.mg (by omega)) (by omega), Opr.of (a1.mg (by omega)) (by omega), Opr.of (q2.mg (by omega)) (by omega), Opr.of (a2.mg (by omega)) (by omega)⟩
theorem wfX_high {u : Nat} (h1 : 1065353216 < u) (h2 : u ≤ 1117782016) : Nrm u 127 134 ∧ Opr .quo (exX u) (wfI u 8) (wfX u) := by
  have hu : Nrm u 127 134 := ⟨by omega, by omega⟩
  have hm := wfX_mg (u := u) (by omega) h2
  unfold wfX at hm ⊢
  rw [if_neg (by omega)] at hm ⊢
  exact ⟨hu, Opr.of hm (by omega)⟩
/-- The argument's operations. -/
theorem sqD_all : ∀ a b : Nat, a < 31 → b < 31 → ∃ p q, Opr .mul (fI ((a : Int) - 15)) (fI ((a : Int) - 15)) p ∧ Opr .mul (fI ((b : Int) - 15)) (fI ((b : Int) - 15)) q ∧ Opr .add p q (fI (((a : Int) - 15) * ((a : Int) - 15) + ((b : Int) - 15) * ((b : Int) - 15))) := by
  have h : (List.range 31).all (fun (a : Nat) => (List.range 31).all (fun (b : Nat) => match floatBits .mul .f32 (fI ((a : Int) - 15)) (fI ((a : Int) - 15)), floatBits .mul .f32 (fI ((b : Int) - 15)) (fI ((b : Int) - 15)) with
    | some p, some q => (match floatBits .add .f32 p q with | some r => r == fI (((a : Int) - 15) * ((a : Int) - 15) + ((b : Int) - 15) * ((b : Int) - 15)) | none => false)
    | _, _ => false)) = true := by decide +kernel
  intro a b ha hb
  have h1 := List.all_eq_true.1 (List.all_eq_true.1 h a (List.mem_range.2 ha)) b (List.mem_range.2 hb)
  revert h1
  split
  · rename_i p q hp hq
    split
    · rename_i r hr
      intro h1
      have : r = _ := eq_of_beq h1
      subst this
      exact ⟨p, q, Opr.told hp, Opr.told hq, Opr.told hr⟩
    · intro h1; cases h1
  · intro h1; cases h1
theorem sqD_steps {x y : Int} (hx : -15 ≤ x ∧ x ≤ 15) (hy : -15 ≤ y ∧ y ≤ 15) : ∃ p q, Opr .mul (fI x) (fI x) p ∧ Opr .mul (fI y) (fI y) q ∧ Opr .add p q (fI (x * x + y * y)) := by
  have h := sqD_all (x + 15).toNat (y + 15).toNat (by omega) (by omega)
  rw [show (((x + 15).toNat : Nat) : Int) - 15 = x by omega, show (((y + 15).toNat : Nat) : Int) - 15 = y by omega] at h
  exact h
theorem argX_steps {T S : Nat} (h : Aq T S) {x y : Int} (hx : -15 ≤ x ∧ x ≤ 15) (hy : -15 ≤ y ∧ y ≤ 15) {time : Nat} (h1 : 1 ≤ time) (h2 : time ≤ 100000) : ∃ a b c, Opr .mul (sqD x y) S a ∧ Opr .mul 1082130432 T b ∧ Opr .mul b (fI (time : Int)) c ∧ Opr .quo a c (argX T S x y time) := by
  have hu := argX_nrm h hx hy h1 h2
  unfold argX at hu ⊢
  have d := (sqD_nrm hx hy).mul h.s (by omega) (by omega) (by omega) (by omega) (by omega) (by omega)
  have t4 : Nrm 1082130432 129 129 := ⟨by decide, by decide⟩
  have t0 := t4.mul h.t (by omega) (by omega) (by omega) (by omega) (by omega) (by omega)
  have t := t0.mul (fI_nrm (n := time) (lo := 0) (hi := 16) (by simp; omega) (by simp; omega) (by omega)) (by omega) (by omega) (by omega) (by omega) (by omega) (by omega)
  exact ⟨_, _, _, Opr.of (d.mg (by omega)) (by omega), Opr.of (t0.mg (by omega)) (by omega), Opr.of (t.mg (by omega)) (by omega), Opr.of (hu.mg (by omega)) (by omega)⟩
/-- The drawdown's operations. -/
theorem ddX_steps {T S R : Nat} (h : Aq T S) (hR : Mg R 147) {x y : Int} (hx : -15 ≤ x ∧ x ≤ 15) (hy : -15 ≤ y ∧ y ≤ 15) {time : Nat} (h1 : 1 ≤ time) (h2 : time ≤ 100000) (hu : argV T S x y time ≤ 1117782016) : ∃ a b, Opr .mul 1095307227 T a ∧ Opr .quo R a b ∧ Opr .mul b (wfX (argV T S x y time)) (ddX T S R x y time) := by
  have hm := ddX_mg h hR hx hy h1 h2
  have hv := argV_in h hx hy h1 h2
  unfold ddX at hm ⊢
  rw [if_neg (by omega)] at hm ⊢
  have hp : Nrm 1095307227 130 131 := ⟨by decide, by decide⟩
  have hl := hp.mul h.t (by omega) (by omega) (by omega) (by omega) (by omega) (by omega)
  have hq := hR.quo hl (l := 160) (by omega) (by omega) (by omega) (by omega) (by omega) (by omega) (by omega)
  exact ⟨_, _, Opr.of (hl.mg (by omega)) (by omega), Opr.of hq (by omega), Opr.of hm (by omega)⟩
/-- Sums of drawdowns. -/
theorem fsum_mg {f : Nat → Nat} : ∀ n, n ≤ 5 → (∀ i, i < n → Mg (f i) 240) → Mg (fsumTo f n) (240 + 2 * n)
  | 0, _, _ => by unfold Mg fsumTo; decide
  | 1, _, h => (h 0 (by omega)).mono (by omega)
  | n + 2, hn, h => by
    have ih := fsum_mg (f := f) (n + 1) (by omega) (fun i hi => h i (by omega))
    exact ih.add (h (n + 1) (by omega)) (by omega) (by omega) (by omega) (by omega) (by omega) (by omega) (by omega)
theorem fsum_step {f : Nat → Nat} {n : Nat} (hn : n + 2 ≤ 5) (h : ∀ i, i < n + 2 → Mg (f i) 240) : Opr .add (fsumTo f (n + 1)) (f (n + 1)) (fsumTo f (n + 2)) := Opr.of (fsum_mg (n + 2) hn h) (by omega)
end Go.Proofs.Ytglimhkpndfjgaa
/- Finite words of no sign compare as numbers do. Plain laws; no statement is proved here. -/
namespace Go.Proofs.Ytglimhkpndfjgaa
open Ieee
set_option linter.unusedVariables false
set_option linter.unusedSimpArgs false

def magS (r : Nat) : Nat := if r < 8388608 then r else (8388608 + r % 8388608) * 2 ^ (r / 8388608 - 1)
theorem read_fin {r : Nat} (h : r < 2139095040) : Val single r (magS r : Int) := by
  unfold magS
  split
  · rename_i h1
    obtain ⟨hb, hi, hl, hs, hf⟩ := single_facts
    refine ⟨false, r, 0, ?_, by simp [sg]⟩
    unfold Format.read
    simp only [hs, hb, hi, hl]
    rw [Nat.mod_eq_of_lt (by omega), if_pos h1]
    have e2 : (r / 2147483648 % 2 == 1) = false := by simp; omega
    rw [e2]; simp
  · rename_i h1
    have := val_num (read_norm (m := r) (by omega) h)
    unfold sg at this
    simpa using this
theorem magS_lt {x y : Nat} (h : x < y) : magS x < magS y := by
  unfold magS
  by_cases h1 : y < 8388608
  · rw [if_pos h1, if_pos (by omega)]; exact h
  · rw [if_neg h1]
    by_cases h2 : x < 8388608
    · rw [if_pos h2]
      have := Nat.two_pow_pos (y / 8388608 - 1)
      calc x < 8388608 * 1 := by omega
        _ ≤ (8388608 + y % 8388608) * 2 ^ (y / 8388608 - 1) := Nat.mul_le_mul (by omega) (by omega)
    · rw [if_neg h2]
      by_cases e : x / 8388608 = y / 8388608
      · rw [e]
        exact Nat.mul_lt_mul_of_pos_right (by omega) (Nat.two_pow_pos _)
      · have hlt : x / 8388608 < y / 8388608 := by omega
        obtain ⟨d, hd⟩ : ∃ d, y / 8388608 - 1 = (x / 8388608 - 1) + 1 + d := ⟨y / 8388608 - 1 - (x / 8388608 - 1) - 1, by omega⟩
        rw [hd]
        calc (8388608 + x % 8388608) * 2 ^ (x / 8388608 - 1) < 16777216 * 2 ^ (x / 8388608 - 1) := Nat.mul_lt_mul_of_pos_right (by omega) (Nat.two_pow_pos _)
          _ = 8388608 * 2 ^ (x / 8388608 - 1 + 1) := by rw [Nat.pow_succ]; omega
          _ ≤ (8388608 + y % 8388608) * 2 ^ (x / 8388608 - 1 + 1 + d) := Nat.mul_le_mul (by omega) (Nat.pow_le_pow_right (by omega) (by omega))
theorem order_fin {a b : Nat} (ha : a < 2139095040) (hb : b < 2139095040) : single.order a b = some (compare (a : Int) (b : Int)) := by
  rw [order_val (read_fin ha) (read_fin hb)]
  congr 1
  rcases Nat.lt_trichotomy a b with h | h | h
  · have k := magS_lt h
    rw [cmp_int, cmp_int, if_pos (by omega), if_pos (by omega)]
  · subst h; rw [cmp_int, cmp_int, if_neg (by omega), if_pos rfl, if_neg (by omega), if_pos rfl]
  · have k := magS_lt h
    rw [cmp_int, cmp_int, if_neg (by omega), if_neg (by omega), if_neg (by omega), if_neg (by omega)]
theorem fgt_fin {a b : Nat} (ha : a < 2139095040) (hb : b < 2139095040) : fgt a b = decide (b < a) := by
  unfold fgt
  rw [show FloatKind.f32.format.order a b = single.order a b from rfl, order_fin ha hb, cmp_int]
  rcases Nat.lt_trichotomy a b with h | h | h
  · rw [if_pos (by omega), decide_eq_false (by omega)]; rfl
  · subst h; rw [if_neg (by omega), if_pos rfl]; simp
  · rw [if_neg (by omega), if_neg (by omega), decide_eq_true (by omega)]; rfl
theorem fge_zero {u : Nat} (h : u < 2139095040) : fge u 0 = true := by
  unfold fge
  rw [show FloatKind.f32.format.order u 0 = single.order u 0 from rfl, order_fin h (by omega), cmp_int, if_neg (by omega)]
  split <;> rfl
end Go.Proofs.Ytglimhkpndfjgaa
