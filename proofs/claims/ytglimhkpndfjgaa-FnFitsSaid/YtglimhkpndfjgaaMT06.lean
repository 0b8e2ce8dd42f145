import Derived.Test.YtglimhkpndfjgaaMT04
import Derived.Test.YtglimhkpndfjgaaMT05
import Derived.IntWalk
/- Differences of single precision: less nothing, and of two numbers in order. Plain laws on words; no statement is proved here. -/
namespace Go.Proofs.Ytglimhkpndfjgaa
open Ieee
set_option linter.unusedVariables false
set_option linter.unusedSimpArgs false

theorem sg_natAbs32 (s : Bool) (n : Nat) : (sg s n).natAbs = n := by unfold sg; cases s <;> simp
theorem word_sgl (x : Nat) (h : x < 4294967296) : single.word (x / 2147483648 % 2 == 1) (x % 2147483648) = x := by
  obtain ⟨hb, hi, hl, hs, hf⟩ := single_facts
  unfold Format.word
  rw [hs]
  by_cases h1 : x < 2147483648
  · rw [show (x / 2147483648 % 2 == 1) = false by rw [Nat.div_eq_of_lt h1]; rfl]
    simp only [Bool.false_eq_true, if_false]; omega
  · rw [show (x / 2147483648 % 2 == 1) = true by rw [show x / 2147483648 = 1 by omega]; rfl]
    simp only [if_true]; omega
/-- A number that is finite, read. -/
theorem fin_read {x : Nat} (h : x % 2147483648 < 2139095040) : ∃ (m k : Nat), single.read x = .number (x / 2147483648 % 2 == 1) m (-149 + (k : Int)) ∧ m < 16777216 ∧ k ≤ 253 := by
  obtain ⟨hb, hi, hl, hs, hf⟩ := single_facts
  unfold Format.read
  simp only [hs, hb, hi, hl]
  generalize x % 2147483648 = r at *
  by_cases h1 : r < 8388608
  · rw [if_pos h1]; exact ⟨r, 0, by simp, by omega, by omega⟩
  · rw [if_neg h1, if_pos h]; exact ⟨_, _, rfl, by omega, by omega⟩
theorem fin_of_num {x : Nat} {s : Bool} {m : Nat} {e : Int} (h : single.read x = .number s m e) : x % 2147483648 < 2139095040 := by
  obtain ⟨hb, hi, hl, hs, hf⟩ := single_facts
  unfold Format.read at h
  simp only [hs, hb, hi, hl] at h
  generalize x % 2147483648 = r at *
  by_cases h1 : r < 8388608
  · omega
  · by_cases h2 : r < 2139095040
    · exact h2
    · simp only [h1, h2, if_false] at h
      split at h <;> cases h
theorem finF_num {x : Nat} (h : x % 2147483648 < 2139095040) : isN .f32 x = false := by
  obtain ⟨m, k, h1, _⟩ := fin_read h
  show (single.read x).isNaN = false
  rw [h1]; rfl
theorem plain_fin {x : Nat} (h : plain x = true) : x % 2147483648 < 2139095040 := by
  obtain ⟨s, m, k, h1, _⟩ := plain_form h
  exact fin_of_num h1
/-- Less nothing. -/
theorem sub_zeroF {x : Nat} (h : x < 4294967296) (hf : x % 2147483648 < 2139095040) : fop .sub x 0 = x := by
  obtain ⟨m, k, h1, h2, h3⟩ := fin_read hf
  have hr0 : single.read 0 = .number false 0 (-149) := by decide
  have hw := nearest_word single (by decide) x (x / 2147483648 % 2 == 1) (x / 2147483648 % 2 == 1) m (-149 + (k : Int)) k h1
  have hs : single.signWeight = 2147483648 := single_facts.2.2.2.1
  have hk : (-149 + (k : Int) - (k : Int)) = -149 := by omega
  rw [hk, hs, word_sgl x h] at hw
  have hb : floatBits .sub .f32 x 0 = some x := by
    show ((single.read x).sum (single.read 0).opposite).map single.write = some x
    rw [h1, hr0]
    generalize (x / 2147483648 % 2 == 1) = s at *
    simp only [Datum.opposite, Datum.sum, Option.map_some, Bool.not_false]
    rw [show min (-149 + (k : Int)) (-149) = -149 by omega, show (-149 + (k : Int) - -149).toNat = k by omega, show ((-149 : Int) - -149).toNat = 0 by omega, signed_sg, signed_sg]
    have h0 : sg true (0 * 2 ^ 0) = 0 := by decide
    rw [h0, Int.add_zero, sg_natAbs32]
    show some (single.nearest (if sg s (m * 2 ^ k) = 0 then s && true else decide (sg s (m * 2 ^ k) < 0)) (m * 2 ^ k) (-149)) = some x
    congr 1
    rw [← hw, Nat.shiftLeft_eq]
    congr 1
    rw [Bool.and_true]
    split
    · rfl
    · rename_i hne
      generalize m * 2 ^ k = V at hne ⊢
      unfold sg at hne ⊢
      cases s
      · simp only [Bool.false_eq_true, if_false] at hne ⊢; exact decide_eq_false (by omega)
      · simp only [if_true] at hne ⊢; exact decide_eq_true (by omega)
  unfold fop
  rw [hb, Option.getD_some]
  exact cnk_of_not (finF_num hf)
theorem word_plus (r : Nat) : single.word false r = r := by unfold Format.word; simp
theorem rung_pos {x t K : Nat} (hn : x = single.word false (min (t * 8388608 + K) 2139095040)) (h : 1 ≤ t ∨ 1 ≤ K) : ∃ R, x = R ∧ 1 ≤ R ∧ R ≤ 2139095040 := by
  rw [word_plus] at hn
  refine ⟨_, hn, ?_, Nat.min_le_right _ _⟩
  refine Nat.le_min.2 ⟨?_, by decide⟩
  rcases h with h | h
  · have := Nat.mul_le_mul_right 8388608 h; omega
  · omega
/-- A number less a smaller one is more than nothing. -/
theorem sub_posF {a b : Nat} (ha : a % 2147483648 < 2139095040) (hb : b % 2147483648 < 2139095040) (h : flt a b = true) : fgt (fop .sub b a) 0 = true := by
  obtain ⟨m, k, h1, _, _⟩ := fin_read ha
  obtain ⟨n, l, h2, _, _⟩ := fin_read hb
  generalize (a / 2147483648 % 2 == 1) = s at *
  generalize (b / 2147483648 % 2 == 1) = t at *
  have va := val_num h1
  have vb := val_num h2
  obtain ⟨u, hu⟩ : ∃ u, u = min l k := ⟨_, rfl⟩
  obtain ⟨D, hD⟩ : ∃ D, D = sg t (n * 2 ^ (l - u)) + sg (!s) (m * 2 ^ (k - u)) := ⟨_, rfl⟩
  have hDp : 0 < D := by
    have ho : single.order a b = some (compare (sg s (m * 2 ^ k)) (sg t (n * 2 ^ l))) := order_val va vb
    unfold flt at h
    rw [show FloatKind.f32.format.order a b = single.order a b from rfl, ho, cmp_int] at h
    have hlt : sg s (m * 2 ^ k) < sg t (n * 2 ^ l) := by
      by_cases q : sg s (m * 2 ^ k) < sg t (n * 2 ^ l)
      · exact q
      · rw [if_neg q] at h
        split at h <;> cases h
    have eD : D * (2 ^ u : Nat) = sg t (n * 2 ^ l) - sg s (m * 2 ^ k) := by
      rw [hD, Int.add_mul, ← sg_mul, ← sg_mul, Nat.mul_assoc, Nat.mul_assoc, ← Nat.pow_add, ← Nat.pow_add, Nat.sub_add_cancel (by omega), Nat.sub_add_cancel (by omega)]
      have : sg (!s) (m * 2 ^ k) = - sg s (m * 2 ^ k) := by unfold sg; cases s <;> simp
      rw [this]; omega
    have hp : (0 : Int) < D * (2 ^ u : Nat) := by rw [eD]; omega
    have h2u : (0 : Int) < ((2 ^ u : Nat) : Int) := by have := Nat.two_pow_pos u; omega
    by_cases q : 0 < D
    · exact q
    · have := Int.mul_le_mul_of_nonneg_right (show D ≤ 0 by omega) (Int.le_of_lt h2u)
      omega
  obtain ⟨M, rfl⟩ : ∃ M : Nat, D = (M : Int) := ⟨D.toNat, by omega⟩
  have hM0 : M ≠ 0 := by omega
  obtain ⟨hbn, hi, hl, hs, hf⟩ := single_facts
  obtain ⟨last, hlast⟩ : ∃ last, max (-149 + (u : Int) + M.log2 - single.fractionBits) single.leastPlace = last := ⟨_, rfl⟩
  have hn := nearest_of single false M (-149 + (u : Int)) last _ hM0 hlast rfl
  rw [hf, hl] at hlast
  obtain ⟨K, hK⟩ : ∃ K, Toward.even.cut false (M <<< ((-149 + (u : Int)) - last).toNat) (last - (-149 + (u : Int))).toNat = K := ⟨_, rfl⟩
  rw [hK, hbn, hi, hl] at hn
  have hpos : 1 ≤ (last - -149).toNat ∨ 1 ≤ K := by
    by_cases q : last = -149
    · right
      rw [← hK, q, show (-149 - (-149 + (u : Int))).toNat = 0 by omega]
      have := cut_shl false (M <<< ((-149 + (u : Int)) - -149).toNat) 0
      rw [Nat.shiftLeft_zero] at this
      rw [this, Nat.shiftLeft_eq]
      exact Nat.mul_pos (by omega) (Nat.two_pow_pos _)
    · left; omega
  have hR : ∃ R, single.nearest false M (-149 + (u : Int)) = R ∧ 1 ≤ R ∧ R ≤ 2139095040 := rung_pos hn hpos
  obtain ⟨R, e1, e2, e3⟩ := hR
  have hbits : floatBits .sub .f32 b a = some R := by
    show ((single.read b).sum (single.read a).opposite).map single.write = some R
    rw [h1, h2]
    simp only [Datum.opposite, Datum.sum, Option.map_some]
    rw [show min (-149 + (l : Int)) (-149 + (k : Int)) = -149 + (u : Int) by omega, show (-149 + (l : Int) - (-149 + (u : Int))).toNat = l - u by omega, show (-149 + (k : Int) - (-149 + (u : Int))).toNat = k - u by omega, signed_sg, signed_sg, ← hD]
    show some (single.nearest (if (M : Int) = 0 then t && !s else decide ((M : Int) < 0)) (M : Int).natAbs (-149 + (u : Int))) = some R
    rw [if_neg (by omega), decide_eq_false (by omega), Int.natAbs_natCast, e1]
  unfold fop
  rw [hbits, Option.getD_some]
  have hr0 : single.read 0 = .number false 0 (-149) := by decide
  have hrR : ∃ d, single.read R = d ∧ (d = .infinity false ∨ ∃ m' e' : Nat, d = .number false m' (-149 + (e' : Int)) ∧ 0 < m' * 2 ^ e') := by
    have hw := read_word single false R (by rw [hs]; omega)
    have hwR : single.word false R = R := word_plus R
    rw [hwR, hbn, hi, hl] at hw
    refine ⟨_, hw, ?_⟩
    by_cases q1 : R < 8388608
    · rw [if_pos q1]; exact .inr ⟨R, 0, by simp, by simp; omega⟩
    · by_cases q2 : R < 2139095040
      · rw [if_neg q1, if_pos q2]; exact .inr ⟨_, _, rfl, Nat.mul_pos (by omega) (Nat.two_pow_pos _)⟩
      · rw [if_neg q1, if_neg q2, if_pos (by omega)]; exact .inl rfl
  obtain ⟨d, hd, hcase⟩ := hrR
  have hnn : isN .f32 R = false := by
    show (single.read R).isNaN = false
    rw [hd]
    rcases hcase with rfl | ⟨m', e', rfl, _⟩ <;> rfl
  rw [show cn R = R from cnk_of_not hnn]
  unfold fgt
  show (single.order R 0 == some .gt) = true
  unfold Format.order
  rw [hd, hr0]
  rcases hcase with rfl | ⟨m', e', rfl, hpos⟩
  · rfl
  · simp only [Datum.order]
    rw [show min (-149 + (e' : Int)) (-149) = -149 by omega, show (-149 + (e' : Int) - -149).toNat = e' by omega, show ((-149 : Int) - -149).toNat = 0 by omega, signed_sg, signed_sg]
    rw [show sg false (0 * 2 ^ 0) = 0 by decide, show sg false (m' * 2 ^ e') = ((m' * 2 ^ e' : Nat) : Int) from rfl, cmp_int, if_neg (by omega), if_neg (by omega)]
    rfl
end Go.Proofs.Ytglimhkpndfjgaa
/- The neighbour of a cell: the walks through the program's function and the reference's. -/
namespace Go.Proofs.Ytglimhkpndfjgaa
open Go.ChangeShapes Go.WideShapes Go.ChangeAt Go.RowKit
set_option linter.unusedVariables false
set_option linter.unusedSimpArgs false
attribute [local irreducible] Calls

end Go.Proofs.Ytglimhkpndfjgaa
/- What flows in a ground: the walks through the program's functions and the reference's. -/
namespace Go.Proofs.Ytglimhkpndfjgaa
open Go.ChangeShapes Go.WideShapes Go.ChangeAt Go.RowKit
set_option linter.unusedVariables false
set_option linter.unusedSimpArgs false
attribute [local irreducible] Calls

theorem u64_and1 {x : Int} (h0 : 0 ≤ x) (h1 : x < 18446744073709551616) : bits .and .u64 x 1 = x % 2 :=
  bits_mask .u64 64 (by decide) (fun n a b => by rw [IntKind.wrap_u64]; omega) 1 (by decide) x h0 h1
theorem fix_div {g : Gr} (hg : g.ok) (k : Nat) : 0 ≤ g.fix / 2 ^ k ∧ g.fix / 2 ^ k < 18446744073709551616 := by
  obtain ⟨_, _, h1, h2⟩ := hg
  exact ⟨Int.ediv_nonneg h1 (Int.le_of_lt (Int.pow_pos (by decide))), Int.lt_of_le_of_lt (Int.ediv_le_self _ h1) h2⟩
theorem bes_nx {g : Gr} {c s : Nat} (h : nbr g c s = true) : bes g c s = (nx g c s : Int) := by
  unfold nbr at h; unfold nx; simp at h; omega
end Go.Proofs.Ytglimhkpndfjgaa
/- A region that draws its order, whose last operation waits for all others (a store, say): one walk serves every order, the slots' values being known up to a property. A plain law; no statement is proved here. -/
namespace Go.Proofs.Ytglimhkpndfjgaa
open Go.ChangeShapes Go.WideShapes Go.ChangeAt Go.RowKit
set_option linter.unusedVariables false
set_option linter.unusedSimpArgs false

/-- Each operation of l but the last is waited for by a later one. -/
def tailB (l : List Oper) : Bool :=
  looseB l && (List.range (l.length - 1)).all fun j => (List.range l.length).any fun i => decide (j < i) && match l[i]? with
    | none => false
    | some o => o.after.toList.any fun e => e.on == j && Region.binds .any e
theorem tailB_spec {l : List Oper} (h : tailB l = true) : looseB l = true ∧ ∀ j, j < l.length - 1 → ∃ (i : Nat) (o : Oper), j < i ∧ l[i]? = some o ∧ ∃ e ∈ o.after, e.on = j ∧ Region.binds .any e = true := by
  unfold tailB at h
  simp only [Bool.and_eq_true, List.all_eq_true, List.any_eq_true, List.mem_range, decide_eq_true_eq] at h
  refine ⟨h.1, fun j hj => ?_⟩
  obtain ⟨i, hi, hlt, h2⟩ := h.2 j hj
  cases ho : l[i]? with
  | none => rw [ho] at h2; cases h2
  | some o =>
    rw [ho] at h2
    simp only [List.any_eq_true, Bool.and_eq_true, beq_iff_eq] at h2
    obtain ⟨e, he, h3, h4⟩ := h2
    exact ⟨i, o, hlt, ho, e, by simpa using he, h3, h4⟩

section
variable {P : Program} {l : List Oper} {C : World → Prop} {R : World → World → Prop} {F : World → Nat → Value → Prop} {s0 : Array Value} {df : List Deferred}

/-- What has come up: all that it waited for has come up, too. -/
def Closed (l : List Oper) (listed : Array Bool) : Prop := ∀ (i : Nat) (o : Oper), l[i]? = some o → listed.getD i false = true → ∀ e ∈ o.after, Region.binds .any e = true → listed.getD e.on false = true

theorem tail_wpAny {last : Oper} (hB : tailB (l ++ [last]) = true) (hd0 : ∀ d ∈ dstsOf (l ++ [last]), d < s0.size) {Q : Exit → Act → World → Prop} (hmono : ∀ w w' d v, R w w' → F w d v → F w' d v)
    (hstep : ∀ (i : Nat) (o : Oper), l[i]? = some o → ∀ (a : Act) (w : World), C w → (∀ s ∈ o.looksAt (l ++ [last]).toArray, Gs (l ++ [last]) F s0 w s (a.tmps.getD s undef)) → LooseStep P (l ++ [last]) C R F o a w)
    (hlast : ∀ (a : Act) (w : World), C w → a.defers = df → a.tmps.size = s0.size → (∀ s, s ∉ dstsOf (l ++ [last]) → a.tmps.getD s undef = s0.getD s undef) → (∀ d ∈ dstsOf l, F w d (a.tmps.getD d undef)) → last.guard = none ∧ ∃ w', (execOp a.eval last).run P w = .ok .skip w' ∧ Q .normal (a.put last.dst undef) w') :
    ∀ (fuel : Nat) (listed : Array Bool) (a : Act) (w : World), unl listed (l ++ [last]).length ≤ fuel → listed.getD l.length true = false → Closed (l ++ [last]) listed → LInv (l ++ [last]) C F s0 df listed a w → wpAny P .any (l ++ [last]).toArray Q fuel listed a w := by
  obtain ⟨hL, hwait⟩ := tailB_spec hB
  obtain ⟨hn, hspec⟩ := loose_spec hL
  have hlen : (l ++ [last]).length = l.length + 1 := by simp
  have hlastget : (l ++ [last])[l.length]? = some last := by simp
  have pref : ∀ {i : Nat} {o : Oper}, (l ++ [last])[i]? = some o → i ≠ l.length → l[i]? = some o := by
    intro i o h hi
    have hlt : i < l.length := by
      rcases Nat.lt_or_ge i (l ++ [last]).length with h' | h'
      · rw [hlen] at h'; omega
      · rw [List.getElem?_eq_none h'] at h; cases h
    rwa [List.getElem?_append_left hlt] at h
  intro fuel
  induction fuel with
  | zero =>
    intro listed a w hu hun hcl hI
    have h0 : unl listed (l ++ [last]).length = 0 := by omega
    rw [unl_zero h0 l.length (by rw [hlen]; omega)] at hun; cases hun
  | succ fuel ih =>
    intro listed a w hu hun hcl hI
    have noneReady : Region.ready .any (l ++ [last]).toArray listed = [] → False := by
      intro hr
      have : ∀ k, k ≤ (l ++ [last]).length → unl listed k = 0 := by
        intro k
        induction k with
        | zero => intro _; rfl
        | succ k ih2 =>
          intro hk
          have ihk := ih2 (by omega)
          simp only [unl, ihk]
          cases hb : listed.getD k true with
          | true => simp
          | false =>
            exfalso
            have hkl : k < (l ++ [last]).length := by omega
            have hmem : k ∈ Region.ready .any (l ++ [last]).toArray listed := mem_ready.2 ⟨hb, (l ++ [last])[k], by simp only [List.getElem?_toArray]; exact List.getElem?_eq_getElem hkl, fun e he hbd => by
              have := (hspec k (l ++ [last])[k] (List.getElem?_eq_getElem hkl)).1 e he hbd
              exact getD_true (by have := hI.ls; omega) (unl_zero ihk e.on this)⟩
            rw [hr] at hmem; cases hmem
      have h0 := this _ (Nat.le_refl _)
      rw [unl_zero h0 l.length (by rw [hlen]; omega)] at hun; cases hun
    refine ⟨fun hr => (noneReady hr).elim, fun i hi => ?_⟩
    obtain ⟨hunI, o, ho, hall⟩ := mem_ready.1 hi
    have ho' : (l ++ [last])[i]? = some o := by simpa only [List.getElem?_toArray] using ho
    have hil : i < (l ++ [last]).length := by
      rcases Nat.lt_or_ge i (l ++ [last]).length with h' | h'
      · exact h'
      · rw [List.getElem?_eq_none h'] at ho'; cases ho'
    have hcnt := unl_set listed i hunI (l ++ [last]).length
    rw [if_pos hil] at hcnt
    have hcl' : Closed (l ++ [last]) (listed.setIfInBounds i true) := by
      intro j o2 hj hlj e he hbd
      have keep : ∀ k, listed.getD k false = true → (listed.setIfInBounds i true).getD k false = true := by
        intro k hk
        by_cases hik : i = k
        · subst hik
          have hlt : i < listed.size := by rw [hI.ls]; exact hil
          simp [hlt]
        · rw [getD_set_ne false hik]; exact hk
      by_cases hij : i = j
      · subst hij
        rw [ho'] at hj; injection hj with hj; subst hj
        exact keep _ (hall e he hbd)
      · rw [getD_set_ne false hij] at hlj
        exact keep _ (hcl j o2 hj hlj e he hbd)
    by_cases hlst : i = l.length
    · -- the last one: all others have come up
      have allB : ∀ k j, l.length - k ≤ j → j < l.length → listed.getD j false = true := by
        intro k
        induction k with
        | zero => intro j h1 h2; omega
        | succ k ihk =>
          intro j h1 h2
          obtain ⟨i2, o2, hlt, hi2, e, he, hej, hbd⟩ := hwait j (by rw [hlen]; omega)
          have hi2l : i2 < l.length + 1 := by
            rcases Nat.lt_or_ge i2 (l ++ [last]).length with h' | h'
            · rw [hlen] at h'; exact h'
            · rw [List.getElem?_eq_none h'] at hi2; cases hi2
          by_cases hi2e : i2 = l.length
          · subst hi2e
            rw [← hlst] at hi2
            rw [ho'] at hi2; injection hi2 with hi2; subst hi2
            have := hall e he hbd
            rw [hej] at this; exact this
          · have hli2 := ihk i2 (by omega) (by omega)
            have := hcl i2 o2 hi2 hli2 e he hbd
            rw [hej] at this; exact this
      have hoL : o = last := by
        rw [hlst, hlastget] at ho'; injection ho' with ho'; exact ho'.symm
      subst hoL
      have hF : ∀ d ∈ dstsOf l, F w d (a.tmps.getD d undef) := by
        intro d hd
        unfold dstsOf at hd
        obtain ⟨o2, ho2, hod⟩ := List.mem_filterMap.1 hd
        obtain ⟨j, hj⟩ := List.getElem?_of_mem ho2
        have hjl : j < l.length := by
          rcases Nat.lt_or_ge j l.length with h' | h'
          · exact h'
          · rw [List.getElem?_eq_none h'] at hj; cases hj
        exact hI.done j o2 d (by rw [List.getElem?_append_left hjl]; exact hj) (allB l.length j (by omega) hjl) hod
      obtain ⟨hg, w', hr, hQ⟩ := hlast a w hI.cls hI.dfs hI.size hI.rest hF
      have h0 : unl (listed.setIfInBounds i true) (l ++ [o]).length = 0 := by
        have h2 : ∀ k, k ≤ l.length → unl listed k = 0 := by
          intro k
          induction k with
          | zero => intro _; rfl
          | succ k ihk =>
            intro hk
            simp only [unl]
            rw [ihk (by omega), getD_false (allB l.length k (by omega) (by omega))]
            simp
        have h3 : unl listed (l ++ [o]).length = 1 := by
          rw [hlen]
          simp only [unl]
          rw [h2 _ (Nat.le_refl _), hun]; simp
        omega
      have hnone : Region.ready .any (l ++ [o]).toArray (listed.setIfInBounds i true) = [] := by
        cases hr2 : Region.ready .any (l ++ [o]).toArray (listed.setIfInBounds i true) with
        | nil => rfl
        | cons j js =>
          exfalso
          have hj : j ∈ Region.ready .any (l ++ [o]).toArray (listed.setIfInBounds i true) := by rw [hr2]; exact List.mem_cons_self
          obtain ⟨hunj, o2, ho2, _⟩ := mem_ready.1 hj
          have hjl : j < (l ++ [o]).length := by
            rcases Nat.lt_or_ge j (l ++ [o]).length with h' | h'
            · exact h'
            · simp only [List.getElem?_toArray] at ho2; rw [List.getElem?_eq_none h'] at ho2; cases ho2
          rw [unl_zero h0 j hjl] at hunj; cases hunj
      have hfin : wpAny P .any (l ++ [o]).toArray Q fuel (listed.setIfInBounds i true) (a.put o.dst undef) w' := by
        cases fuel with
        | zero => exact ⟨hnone, hQ⟩
        | succ f => exact ⟨fun _ => hQ, fun j hj => by rw [hnone] at hj; cases hj⟩
      unfold wpOp
      rw [ho]
      show if Region.wanted o (yielded (l ++ [o]).toArray a.tmps) = true then _ else _
      rw [if_pos (by simp [Region.wanted, hg])]
      refine .inl ?_
      unfold Oper.wp
      rw [hr]
      exact hfin
    · have hl := pref ho' hlst
      have hlook : ∀ s ∈ o.looksAt (l ++ [last]).toArray, Gs (l ++ [last]) F s0 w s (a.tmps.getD s undef) := by
        intro s hs
        unfold Gs
        split
        · rename_i hsd
          unfold dstsOf at hsd
          obtain ⟨o2, ho2, hod⟩ := List.mem_filterMap.1 hsd
          obtain ⟨j, hj⟩ := List.getElem?_of_mem ho2
          obtain ⟨e, he, h3, h4⟩ := (hspec i o ho').2 s hs j o2 hj hod
          have := hall e he h4
          rw [h3] at this
          exact hI.done j o2 s hj this hod
        · rename_i hsd
          exact hI.rest s hsd
      have hst := hstep i o hl a w hI.cls hlook
      have hun' : (listed.setIfInBounds i true).getD l.length true = false := by rw [getD_set_ne true hlst]; exact hun
      have next : ∀ v w', C w' → (∀ d v, F w d v → F w' d v) → (∀ d, o.dst = some d → F w' d v) → wpAny P .any (l ++ [last]).toArray Q fuel (listed.setIfInBounds i true) (a.put o.dst v) w' := fun v w' hC hm hv =>
        ih _ _ _ (by omega) hun' hcl' (hI.put hm hn hd0 ho' hunI hC hv)
      unfold wpOp
      rw [ho]
      show if Region.wanted o (yielded (l ++ [last]).toArray a.tmps) = true then _ else _
      unfold LooseStep at hst
      split
      · rename_i hw
        rw [if_pos hw] at hst
        refine .inl ?_
        unfold Oper.wp
        generalize (execOp a.eval o).run P w = r at hst
        cases r with
        | ok n w' =>
          cases n <;> simp only [Oper.upon, Good] at hst ⊢
          case value v => exact next v w' hst.1 (fun d u => hmono _ _ d u hst.2.1) hst.2.2
          case skip => exact next undef w' hst.1 (fun d u => hmono _ _ d u hst.2.1) hst.2.2
          case enter f args => exact hst.mono fun e w'' ⟨v, he, hC, hR, hv⟩ => by subst he; exact next v w'' hC (fun d u => hmono _ _ d u hR) hv
        | halt x w' => exact hst.elim
      · rename_i hw
        rw [if_neg hw] at hst
        exact next undef w hI.cls (fun _ _ h => h) hst

theorem rep_false {n i : Nat} (h : (Array.replicate n false).getD i false = true) : False := by
  by_cases hi : i < n <;> simp [Array.getElem?_replicate, hi] at h
/-- ONE WALK SERVES EVERY ORDER, the last operation coming last. -/
theorem wp_tail {l : List Oper} {last : Oper} {s : List Value} {id : Nat} {Q : Exit → Act → World → Prop} {w : World} (C : World → Prop) (R : World → World → Prop) (F : World → Nat → Value → Prop) (hmono : ∀ w w' d v, R w w' → F w d v → F w' d v) (hm : P.follows .mixedOrders = true) (hB : tailB (l ++ [last]) = true) (hnd : last.dst = none) (hg : last.guard = none) (hd0 : (dstsOf l).all (fun d => decide (d < s.length)) = true) (hC : C w.drew)
    (hstep : ∀ o ∈ l, StepOk P (l ++ [last]) C R F s o)
    (h : ∀ (x : Nat → Value) (w' : World), (∀ d, d ∈ dstsOf l → F w' d (x d)) → C w' → ∃ w'', (execOp (Act.eval ⟨(fill s (dstsOf l) x).toArray, df⟩) last).run P w' = .ok .skip w'' ∧ Q .normal ⟨(fill s (dstsOf l) x).toArray, df⟩ w'') : (Code.region id (l ++ [last]).toArray true).wp P Q ⟨s.toArray, df⟩ w := by
  have hdsts : dstsOf (l ++ [last]) = dstsOf l := by unfold dstsOf; simp [List.filterMap_append, List.filterMap_cons, hnd]
  have hd0' : ∀ d ∈ dstsOf (l ++ [last]), d < s.toArray.size := fun d hd => by
    rw [hdsts] at hd
    have := List.all_eq_true.1 hd0 d hd
    simpa using this
  have hlen : (l ++ [last]).length = l.length + 1 := by simp
  refine wp_region_any hm ?_
  refine tail_wpAny (P := P) (C := C) (R := R) (F := F) (s0 := s.toArray) (df := df) hB hd0' hmono (fun i o hi => hstep o (List.mem_of_getElem? hi)) (fun a w' hC hdf hsz hrest hF => ⟨hg, ?_⟩) _ _ _ _ ?_ ?_ (fun i o _ hl => ?_) ⟨by simp, hC, rfl, rfl, fun _ _ => rfl, fun j o d _ hl => ?_⟩
  · have e : a = ⟨(fill s (dstsOf l) fun d => a.tmps.getD d undef).toArray, df⟩ := by
      obtain ⟨t, dd⟩ := a
      simp only at hdf hsz hrest hF ⊢
      subst hdf
      congr 1
      have hsz' : t.toList.length = s.length := by simpa using hsz
      have hl : t.toList = fill s (dstsOf l) fun d => t.getD d undef := by
        apply List.ext_getElem?
        intro i
        by_cases hi : i < s.length
        · rw [fill_get _ _ _ i hi]
          have ht : i < t.size := by rw [hsz]; simpa using hi
          have hg : t.getD i undef = t[i] := by simp [ht]
          by_cases hm : i ∈ dstsOf l
          · rw [if_pos hm, hg]; simp [ht]
          · rw [if_neg hm]
            have := hrest i (by rw [hdsts]; exact hm)
            rw [hg] at this
            simp [ht, this, hi]
        · rw [List.getElem?_eq_none (by omega), List.getElem?_eq_none (by rw [fill_length]; omega)]
      rw [← hl]
    obtain ⟨w'', h1, h2⟩ := h (fun d => a.tmps.getD d undef) w' hF hC
    rw [← e] at h1 h2
    exact ⟨w'', h1, by rw [hnd]; exact h2⟩
  · have hle : ∀ (b : Array Bool) k, unl b k ≤ k := by
      intro b k
      induction k with
      | zero => simp [unl]
      | succ k ih => simp only [unl]; split <;> omega
    exact Nat.le_trans (hle _ _) (by simp)
  · simp
  · exact (rep_false hl).elim
  · exact (rep_false hl).elim
/-- p holds of all of a list but the last. -/
def StepsT (p : Oper → Prop) : List Oper → Prop
  | [] => True
  | [_] => True
  | x :: y :: r => p x ∧ StepsT p (y :: r)
theorem StepsT.all {p : Oper → Prop} : ∀ {l : List Oper} {last : Oper}, StepsT p (l ++ [last]) → ∀ o ∈ l, p o
  | [], _, _, o, ho => by cases ho
  | [x], last, h, o, ho => by
    obtain rfl : o = x := by simpa using ho
    exact h.1
  | x :: y :: r, last, h, o, ho => by
    rcases List.mem_cons.1 ho with rfl | ho
    · exact h.1
    · exact StepsT.all (l := y :: r) (last := last) h.2 o ho
/-- .. the list being given whole. -/
theorem wp_tailL {L : List Oper} {last : Oper} {s : List Value} {id : Nat} {Q : Exit → Act → World → Prop} {w : World} (hlast : L.getLast? = some last) (C : World → Prop) (R : World → World → Prop) (F : World → Nat → Value → Prop) (hmono : ∀ w w' d v, R w w' → F w d v → F w' d v) (hm : P.follows .mixedOrders = true) (hB : tailB L = true) (hnd : last.dst = none) (hg : last.guard = none) (hd0 : (dstsOf L).all (fun d => decide (d < s.length)) = true) (hC : C w.drew)
    (hstep : StepsT (StepOk P L C R F s) L)
    (h : ∀ (x : Nat → Value) (w' : World), (∀ d, d ∈ dstsOf L → F w' d (x d)) → C w' → ∃ w'', (execOp (Act.eval ⟨(fill s (dstsOf L) x).toArray, df⟩) last).run P w' = .ok .skip w'' ∧ Q .normal ⟨(fill s (dstsOf L) x).toArray, df⟩ w'') : (Code.region id L.toArray true).wp P Q ⟨s.toArray, df⟩ w := by
  obtain ⟨l, rfl⟩ : ∃ l, L = l ++ [last] := List.getLast?_eq_some_iff.1 hlast
  have hdsts : dstsOf (l ++ [last]) = dstsOf l := by unfold dstsOf; simp [List.filterMap_append, List.filterMap_cons, hnd]
  rw [hdsts] at h hd0
  exact wp_tail C R F hmono hm hB hnd hg hd0 hC hstep.all h
end
end Go.Proofs.Ytglimhkpndfjgaa
/- Steps of a ground: the walks through the program's functions and the reference's. -/
namespace Go.Proofs.Ytglimhkpndfjgaa
open Go.ChangeShapes Go.WideShapes Go.ChangeAt Go.RowKit
set_option linter.unusedVariables false
set_option linter.unusedSimpArgs false
attribute [local irreducible] Calls

section
variable {P : Program} {ops : Array Oper} {rest : List Oper} {o : Oper} {a : Act} {Q : Exit → Act → World → Prop} {w : World}
/-- 'T{}' of a type whose zero value is a row. -/
theorem wpList_zero {t : TypeId} {Z : Array Value} (hgd : o.guard = none) (ho : o.op = .build t #[]) (hb : P.built t [] = some Z) (h : wpList P ops Q rest (a.put o.dst (.agg Z)) w) : wpList P ops Q (o :: rest) a w :=
  wpList_plain hgd fun K hK => by
    have hb' : P.built t ((#[] : Array (Nat × Operand)).map fun (i, x) => (i, a.eval x)).toList = some Z := by simpa using hb
    refine wp_build t #[] ho (by rw [hb']; rfl) ?_
    rw [hb']
    exact hK _ _ h
/-- A ground at the head of a block, loaded whole. -/
theorem wpList_load_gat {ty : TypeId} {x : Operand} {b : Nat} {g : Gr} (hgd : o.guard = none) (ho : o.op = .load ty x) (hx : a.eval x = .pointer (some ⟨b, 0, none⟩)) (hr : RowTy P ty 195) (hb : GAt w b g)
    (h : wpList P ops Q rest (a.put o.dst (.agg g.cells)) w) : wpList P ops Q (o :: rest) a w := by
  obtain ⟨d, hu, hd, hi⟩ := hr
  refine wpList_load_mid hgd ty x ho b 0 hx g.cells.toList d (fun j u hj => ?_) hu hd (by rw [hi]; simp [g.size]) ?_
  · have hj2 : j < 195 := by
      rcases Nat.lt_or_ge j g.cells.toList.length with h2 | h2
      · simpa [g.size] using h2
      · rw [List.getElem?_eq_none h2] at hj; cases hj
    have := hb.mem j hj2
    rw [Array.getElem?_toList, g.get j hj2] at hj
    rw [Nat.zero_add, this, hj]
  · rw [Array.toArray_toList]; exact h
end
/-- The cells among the first k that are not fixed. -/
def freeOf (g : Gr) (l : List Nat) : List Nat := l.filter fun k => !isFx g k
theorem freeOf_snoc (g : Gr) (l : List Nat) (k : Nat) : freeOf g (l ++ [k]) = if isFx g k then freeOf g l else freeOf g l ++ [k] := by
  unfold freeOf; rw [List.filter_append]; cases h : isFx g k <;> simp [h]
theorem freeOf_length (g : Gr) (l : List Nat) : (freeOf g l).length ≤ l.length := List.length_filter_le _ _
theorem freeOf_mem {g : Gr} {l : List Nat} {k : Nat} (h : k ∈ freeOf g l) : k ∈ l ∧ isFx g k = false := by
  unfold freeOf at h; rw [List.mem_filter] at h; simpa using h
/-- All cells that are not fixed. -/
def freeL (g : Gr) : List Nat := freeOf g (cellsTo g 64)

/-- The balance of a cell, nothing elsewhere. -/
def balF (g : Gr) (k : Nat) : Nat := if isC g k then bal g k else 0
def allFin (g : Gr) (l : List Nat) : Bool := l.all fun k => fin (bal g k)
theorem allFin_snoc (g : Gr) (l : List Nat) (k : Nat) : allFin g (l ++ [k]) = (allFin g l && fin (bal g k)) := by unfold allFin; simp [List.all_append]
theorem cellsTo_mem {g : Gr} {n k : Nat} : k ∈ cellsTo g n ↔ k < n ∧ isC g k = true := by unfold cellsTo; rw [List.mem_filter, List.mem_range]
theorem allFin_all (g : Gr) : allFin g (cellsTo g 64) = balsOk g := by
  apply Bool.eq_iff_iff.2
  unfold allFin balsOk
  simp only [Bool.not_eq_true', anyTo_false, List.all_eq_true, cellsTo_mem]
  constructor
  · intro h i hi
    unfold notFin
    cases hc : isC g i
    · rfl
    · rw [h i ⟨hi, hc⟩]; rfl
  · rintro h i ⟨hi, hc⟩
    have := h i hi
    unfold notFin at this
    rw [hc] at this
    simpa using this

end Go.Proofs.Ytglimhkpndfjgaa
/- Steps of a ground: the walks through the program's step and the reference's. -/
namespace Go.Proofs.Ytglimhkpndfjgaa
open Go.ChangeShapes Go.WideShapes Go.ChangeAt Go.RowKit
set_option linter.unusedVariables false
set_option linter.unusedSimpArgs false
attribute [local irreducible] Calls

theorem nodup_cells (g : Gr) (n : Nat) : (cellsTo g n).Nodup := by unfold cellsTo; exact List.Pairwise.filter _ List.nodup_range
theorem nodup_free (g : Gr) : (freeL g).Nodup := by unfold freeL freeOf; exact List.Pairwise.filter _ (nodup_cells g 64)
theorem not_take {l : List Nat} (h : l.Nodup) {j k : Nat} (hk : l[j]? = some k) : k ∉ l.take j := by
  intro hm
  obtain ⟨i, hi⟩ := List.getElem?_of_mem hm
  rw [List.getElem?_take] at hi
  by_cases hij : i < j
  · rw [if_pos hij] at hi
    have hil : i < l.length := by
      rcases Nat.lt_or_ge i l.length with h' | h'
      · exact h'
      · rw [List.getElem?_eq_none h'] at hi; cases hi
    have := (List.getElem?_inj hil h).1 (hi.trans hk.symm)
    omega
  · rw [if_neg hij] at hi; cases hi
theorem freeL_mem {g : Gr} {k : Nat} : k ∈ freeL g ↔ (k < 64 ∧ isC g k = true) ∧ isFx g k = false := by
  unfold freeL freeOf; rw [List.mem_filter, cellsTo_mem]; simp
theorem stepIs_of {g : Gr} {part : Nat} {hh : Nat → Nat} (hb : balsOk g = true) (h : ∀ k, k < 64 → cn (hh k) = cn (stepH g part k)) : validG { g with hea := hh } = stepIs g part ∧ GrEq { g with hea := hh } (stepG g part) := by
  have he : GrEq { g with hea := hh } (stepG g part) := ⟨rfl, rfl, rfl, fun _ _ => rfl, fun _ _ => rfl, h⟩
  exact ⟨by rw [validG_al he]; unfold stepIs; rw [hb]; rfl, he⟩

end Go.Proofs.Ytglimhkpndfjgaa
/- Steps of a ground: the walk through the reference's step, and StepGround in both. -/
namespace Go.Proofs.Ytglimhkpndfjgaa
open Go.ChangeShapes Go.WideShapes Go.ChangeAt Go.RowKit
set_option linter.unusedVariables false
set_option linter.unusedSimpArgs false
attribute [local irreducible] Calls

/-- May these be a ground and a part? -/
def askOk (g : Gr) (part : Nat) : Bool := validG g && plain part
def stepGR (g : Gr) (part : Nat) : Gr := if askOk g part then stepR g part else zeroG
def stepGC (g : Gr) (part : Nat) : Int := if askOk g part then stepC g part else 1

end Go.Proofs.Ytglimhkpndfjgaa
/- Several steps of a ground: StepsOf in the program and in the reference, and its law. -/
namespace Go.Proofs.Ytglimhkpndfjgaa
open Go.ChangeShapes Go.WideShapes Go.ChangeAt Go.RowKit
set_option linter.unusedVariables false
set_option linter.unusedSimpArgs false
attribute [local irreducible] Calls

/-- The ground behind k steps, with a code: nothing goes on behind a step that fails. -/
def runTo (g : Gr) (part : Nat) : Nat → Gr × Int
  | 0 => (g, 0)
  | k + 1 => if (runTo g part k).2 = 0 then (stepR (runTo g part k).1 part, stepC (runTo g part k).1 part) else runTo g part k
theorem runTo_go {g : Gr} {part k : Nat} (h : (runTo g part k).2 = 0) : runTo g part (k + 1) = (stepR (runTo g part k).1 part, stepC (runTo g part k).1 part) := by
  show (if _ then _ else _) = _
  rw [if_pos h]
theorem runTo_stay {g : Gr} {part k : Nat} (h : (runTo g part k).2 ≠ 0) : ∀ m, k ≤ m → runTo g part m = runTo g part k
  | 0, hm => by obtain rfl : k = 0 := by omega
                rfl
  | m + 1, hm => by
    by_cases hk : k = m + 1
    · rw [hk]
    · have ih := runTo_stay h m (by omega)
      show (if _ then _ else _) = _
      rw [ih, if_neg h]
theorem stepC_cases (g : Gr) (part : Nat) : (stepIs g part = true ∧ stepC g part = 0 ∧ stepR g part = stepG g part) ∨ (stepIs g part = false ∧ stepC g part = 4 ∧ stepR g part = zeroG) := by
  unfold stepC stepR
  cases h : stepIs g part
  · right; exact ⟨rfl, rfl, rfl⟩
  · left; exact ⟨rfl, rfl, rfl⟩
theorem stepG_ok {g : Gr} (part : Nat) (h : g.ok) : (stepG g part).ok := ⟨h.wide, h.high, h.fix⟩
theorem zeroG_ok : zeroG.ok := ⟨by decide, by decide, by decide⟩
theorem zeroG_small : zeroG.small := ⟨by decide, by decide⟩
theorem stepR_ok {g : Gr} (part : Nat) (h : g.ok) : (stepR g part).ok := by
  rcases stepC_cases g part with ⟨_, _, e⟩ | ⟨_, _, e⟩ <;> rw [e]
  · exact stepG_ok part h
  · exact zeroG_ok
theorem stepR_small {g : Gr} (part : Nat) (h : g.small) : (stepR g part).small := by
  rcases stepC_cases g part with ⟨_, _, e⟩ | ⟨_, _, e⟩ <;> rw [e]
  · exact h
  · exact zeroG_small
theorem runTo_ok {g : Gr} {part : Nat} (h : g.ok) : ∀ k, (runTo g part k).1.ok
  | 0 => h
  | k + 1 => by
    show (if _ then _ else _ : Gr × Int).1.ok
    split
    · exact stepR_ok part (runTo_ok h k)
    · exact runTo_ok h k
theorem runTo_small {g : Gr} {part : Nat} (h : g.small) : ∀ k, (runTo g part k).1.small
  | 0 => h
  | k + 1 => by
    show (if _ then _ else _ : Gr × Int).1.small
    split
    · exact stepR_small part (runTo_small h k)
    · exact runTo_small h k

/-- May there be so many steps? -/
def isStp (n : Int) : Bool := decide (0 ≤ n) && decide (n ≤ 400)
def stepsC (g : Gr) (part : Nat) (n : Int) : Int := if askOk g part then (if isStp n then (runTo g part n.toNat).2 else 2) else 1
def stepsR (g : Gr) (part : Nat) (n : Int) : Gr := if stepsC g part n = 0 then (runTo g part n.toNat).1 else zeroG

end Go.Proofs.Ytglimhkpndfjgaa
