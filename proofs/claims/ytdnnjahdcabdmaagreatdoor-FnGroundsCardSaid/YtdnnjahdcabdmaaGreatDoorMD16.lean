import Derived.Test.YtdnnjahdcabdmaaGreatDoorMD14
import Derived.Test.YtdnnjahdcabdmaaGreatDoorMD08
import Derived.Test.YtdnnjahdcabdmaaGreatDoorMD15
/- Floats of drawn grounds, for FnGrounds: what flows back is the opposite. Plain laws on words; no statement is proved here. -/
namespace Go.Proofs.YtdnnjahdcabdmaaGreatDoor
open Ieee
set_option linter.unusedVariables false
set_option linter.unusedSimpArgs false

theorem product_comm (a b : Datum) : a.product b = b.product a := by
  cases a <;> cases b <;> simp [Datum.product, Nat.mul_comm, Int.add_comm, Bool.xor_comm]
theorem sum_comm (a b : Datum) : a.sum b = b.sum a := by
  cases a <;> cases b <;> simp [Datum.sum]
  case number.number s m i t n j =>
    rw [Int.min_comm, Int.add_comm, Bool.and_comm]; simp
  case infinity.infinity s t => 
    by_cases h : s = t
    · subst h; rfl
    · rw [if_neg h, if_neg (fun e => h e.symm)]
theorem fop_mul_comm (a b : Nat) : fop .mul a b = fop .mul b a := by
  unfold fop
  rw [show floatBits .mul .f32 a b = ((single.read a).product (single.read b)).map single.write from rfl, product_comm]; rfl
theorem fop_add_comm (a b : Nat) : fop .add a b = fop .add b a := by
  unfold fop
  rw [show floatBits .add .f32 a b = ((single.read a).sum (single.read b)).map single.write from rfl, sum_comm]; rfl
theorem joint_comm (a b : Nat) : joint a b = joint b a := by
  unfold joint
  rw [Bool.and_comm, fop_mul_comm a b, fop_add_comm a b]
/-- A word with its sign turned. -/
theorem cut_bound (s : Bool) (n d : Nat) (B : Nat) (h : n / 2 ^ d < B) : Toward.even.cut s n d ≤ B := by
  unfold Toward.cut
  have hlow : n / (1 <<< min d (n.log2 + 2)) < B := by
    rw [Nat.one_shiftLeft]
    by_cases hd : d ≤ n.log2 + 2
    · rw [Nat.min_eq_left hd]; exact h
    · rw [Nat.min_eq_right (by omega)]
      have h1 : n < 2 ^ (n.log2 + 2) := Nat.lt_of_lt_of_le Nat.lt_log2_self (Nat.pow_le_pow_right (by omega) (by omega))
      rw [Nat.div_eq_of_lt h1]; exact Nat.lt_of_le_of_lt (Nat.zero_le _) h
  simp only
  generalize n / (1 <<< min d (n.log2 + 2)) = low at *
  have : ∀ b : Bool, b.toNat ≤ 1 := fun b => by cases b <;> decide
  exact Nat.le_trans (Nat.add_le_add_left (this _) _) (by omega)
theorem cut_sign (s t : Bool) (n d : Nat) : Toward.even.cut s n d = Toward.even.cut t n d := rfl
/-- So great is a number written at most. -/
theorem nearest_small (M : Nat) (p : Int) (E : Nat) (hp : p + (M.log2 : Int) - 23 ≤ -149 + (E : Int)) (hE : E ≤ 250) : ∃ R, R < 2139095040 ∧ R ≤ E * 8388608 + 16777216 ∧ ∀ s, single.nearest s M p = single.word s R := by
  obtain ⟨hb, hi, hl, hs, hf⟩ := single_facts
  by_cases h0 : M = 0
  · subst h0; exact ⟨0, by omega, by omega, fun s => by simp [Format.nearest]⟩
  obtain ⟨last, hlast⟩ : ∃ last, max (p + M.log2 - single.fractionBits) single.leastPlace = last := ⟨_, rfl⟩
  have hn := fun s => nearest_of single s M p last _ h0 hlast rfl
  rw [hf, hl] at hlast
  have hK : Toward.even.cut false (M <<< (p - last).toNat) (last - p).toNat ≤ 16777216 := by
    refine cut_bound _ _ _ _ ?_
    have hM : M < 2 ^ (M.log2 + 1) := Nat.lt_log2_self
    have hd : M.log2 + (p - last).toNat ≤ 23 + (last - p).toNat := by omega
    rw [Nat.shiftLeft_eq, Nat.div_lt_iff_lt_mul (Nat.two_pow_pos _)]
    calc M * 2 ^ (p - last).toNat < 2 ^ (M.log2 + 1) * 2 ^ (p - last).toNat := Nat.mul_lt_mul_of_pos_right hM (Nat.two_pow_pos _)
      _ = 2 ^ (M.log2 + 1 + (p - last).toNat) := (Nat.pow_add 2 (M.log2 + 1) _).symm
      _ ≤ 2 ^ (24 + (last - p).toNat) := Nat.pow_le_pow_right (by omega) (by omega)
      _ = 16777216 * 2 ^ (last - p).toNat := by rw [Nat.pow_add]
  obtain ⟨K, hKe⟩ : ∃ K, Toward.even.cut false (M <<< (p - last).toNat) (last - p).toNat = K := ⟨_, rfl⟩
  rw [hKe] at hK
  have hlt : (last - -149).toNat * 8388608 + K < 2139095040 := by
    have h1 : (last - -149).toNat ≤ 250 := by omega
    have := Nat.mul_le_mul_right 8388608 h1
    omega
  refine ⟨(last - -149).toNat * 8388608 + K, hlt, ?_, fun s => ?_⟩
  · have h1 : (last - -149).toNat ≤ E := by omega
    exact Nat.add_le_add (Nat.mul_le_mul_right _ h1) hK
  rw [hn s, hl, hb, hi, cut_sign s false, hKe, Nat.min_eq_left (Nat.le_of_lt hlt)]
/-- Small words, read. -/
theorem small_read {x : Nat} (h : x % 2147483648 < 1174405120) : ∃ (m k : Nat), single.read x = .number (x / 2147483648 % 2 == 1) m (-149 + (k : Int)) ∧ m < 16777216 ∧ k ≤ 139 := by
  obtain ⟨hb, hi, hl, hs, hf⟩ := single_facts
  unfold Format.read
  simp only [hs, hb, hi, hl]
  generalize x % 2147483648 = r at *
  by_cases h1 : r < 8388608
  · rw [if_pos h1]; exact ⟨r, 0, by simp, by omega, by omega⟩
  · rw [if_neg h1, if_pos (by omega)]; exact ⟨_, _, rfl, by omega, by omega⟩
theorem word_mod31 (s : Bool) {R : Nat} (h : R < 2139095040) : single.word s R % 2147483648 < 2139095040 := by
  unfold Format.word
  rw [single_facts.2.2.2.1]
  split <;> omega
/-- A product of small numbers is finite; with one sign turned it is the same with its sign turned. -/
theorem mul_small {a b c : Nat} (ha : a % 2147483648 < 1174405120) (hb : b % 2147483648 < 1174405120) (hc : c % 2147483648 = b % 2147483648) (hs : (c / 2147483648 % 2 == 1) = !(b / 2147483648 % 2 == 1)) : ∃ (s : Bool) (R : Nat), R < 2139095040 ∧ fop .mul a b = single.word s R ∧ fop .mul a c = single.word (!s) R := by
  obtain ⟨m, k, h1, h2, h3⟩ := small_read ha
  obtain ⟨n, l, h4, h5, h6⟩ := small_read hb
  obtain ⟨n', l', h7, h8, h9⟩ := small_read (x := c) (by omega)
  have hnl : n' = n ∧ (l' : Int) = l := by
    unfold Format.read at h4 h7
    rw [single_facts.2.2.2.1, hc] at h7
    rw [single_facts.2.2.2.1] at h4
    generalize b % 2147483648 = r at *
    simp only at h4 h7
    split at h4
    · rename_i q; rw [if_pos q] at h7; injection h4 with _ e1 e2; injection h7 with _ e3 e4; omega
    · rename_i q; rw [if_neg q] at h7
      split at h4
      · rename_i q2; rw [if_pos q2] at h7; injection h4 with _ e1 e2; injection h7 with _ e3 e4; omega
      · split at h4 <;> cases h4
  obtain ⟨rfl, hll⟩ := hnl
  obtain rfl : l' = l := by omega
  have hlog : (m * n').log2 ≤ 47 := by
    by_cases h0 : m * n' = 0
    · rw [h0]; decide
    · have : (m * n').log2 < 48 := (Nat.log2_lt h0).2 (by
        calc m * n' < 16777216 * 16777216 := Nat.mul_lt_mul'' h2 h5
          _ = 2 ^ 48 := by decide)
      omega
  obtain ⟨R, hR, _, hw⟩ := nearest_small (m * n') (-149 + (k : Int) + (-149 + (l' : Int))) 250 (by omega) (by omega)
  generalize (a / 2147483648 % 2 == 1) = sa at *
  generalize (b / 2147483648 % 2 == 1) = sb at *
  refine ⟨sa ^^ sb, R, hR, ?_, ?_⟩
  · have e : floatBits .mul .f32 a b = some (single.word (sa ^^ sb) R) := by
      show ((single.read a).product (single.read b)).map single.write = _
      rw [h1, h4]
      show some (single.nearest (sa ^^ sb) (m * n') _) = _
      rw [hw]
    unfold fop
    rw [e, Option.getD_some]
    exact cnk_of_not (finF_num (word_mod31 _ hR))
  · have e : floatBits .mul .f32 a c = some (single.word (!(sa ^^ sb)) R) := by
      show ((single.read a).product (single.read c)).map single.write = _
      rw [h1, h7, hs]
      show some (single.nearest (sa ^^ !sb) (m * n') _) = _
      rw [hw]
      cases sa <;> cases sb <;> rfl
    unfold fop
    rw [e, Option.getD_some]
    exact cnk_of_not (finF_num (word_mod31 _ hR))
/-- A number and its opposite add up to nothing. -/
theorem add_flip (s : Bool) {R : Nat} (h : R < 2139095040) : feq (fop .add (single.word (!s) R) (single.word s R)) 0 = true := by
  obtain ⟨hb, hi, hl, hs, hf⟩ := single_facts
  have hr := fun t => read_word single t R (by rw [hs]; omega)
  have hr2 : ∃ m e, ∀ t, single.read (single.word t R) = .number t m e := by
    rw [hb, hi, hl] at hr
    by_cases h1 : R < 8388608
    · exact ⟨R, -149, fun t => by rw [hr t, if_pos h1]⟩
    · exact ⟨_, _, fun t => by rw [hr t, if_neg h1, if_pos h]⟩
  obtain ⟨m, e, hr2⟩ := hr2
  have hbits : floatBits .add .f32 (single.word (!s) R) (single.word s R) = some 0 := by
    show ((single.read _).sum (single.read _)).map single.write = _
    rw [hr2, hr2]
    simp only [Datum.sum, Option.map_some]
    have ht : signed (!s) m (e - min e e).toNat + signed s m (e - min e e).toNat = 0 := by
      unfold signed; cases s <;> simp <;> omega
    rw [ht]
    cases s <;> rfl
  unfold fop
  rw [hbits]
  decide +kernel
theorem fin_word (s : Bool) {R : Nat} (h : R < 2139095040) : fin (single.word s R) = true := by
  obtain ⟨hb, hi, hl, hs, hf⟩ := single_facts
  have hr := read_word single s R (by rw [hs]; omega)
  have hr2 : ∃ m e, single.read (single.word s R) = .number s m e := by
    rw [hb, hi, hl] at hr
    by_cases h1 : R < 8388608
    · exact ⟨R, -149, by rw [hr, if_pos h1]⟩
    · exact ⟨_, _, by rw [hr, if_neg h1, if_pos h]⟩
  obtain ⟨m, e, hr2⟩ := hr2
  have hbits : floatBits .sub .f32 (single.word s R) (single.word s R) = some 0 := by
    show ((single.read _).sum (single.read _).opposite).map single.write = _
    rw [hr2]
    simp only [Datum.opposite, Datum.sum, Option.map_some]
    have ht : signed s m (e - min e e).toNat + signed (!s) m (e - min e e).toNat = 0 := by
      unfold signed; cases s <;> simp <;> omega
    rw [ht]
    cases s <;> rfl
  unfold fin fop
  rw [hbits]
  decide +kernel
/-- Numbers less than 2 ^ 6, read. -/
theorem tiny_read {x : Nat} (h : x % 2147483648 < 1115684864) : ∃ (m k : Nat), single.read x = .number (x / 2147483648 % 2 == 1) m (-149 + (k : Int)) ∧ m < 16777216 ∧ k ≤ 132 := by
  obtain ⟨hb, hi, hl, hs, hf⟩ := single_facts
  unfold Format.read
  simp only [hs, hb, hi, hl]
  generalize x % 2147483648 = r at *
  by_cases h1 : r < 8388608
  · rw [if_pos h1]; exact ⟨r, 0, by simp, by omega, by omega⟩
  · rw [if_neg h1, if_pos (by omega)]; exact ⟨_, _, rfl, by omega, by omega⟩
theorem sg_bd (s : Bool) (n : Nat) : (sg s n).natAbs = n := sg_natAbs32 s n
/-- Two differences, one way and the other. -/
theorem sub_flip {a b : Nat} (ha : a % 2147483648 < 1115684864) (hb : b % 2147483648 < 1115684864) : ∃ R, R < 1174405120 ∧ ((∃ s, fop .sub a b = single.word s R ∧ fop .sub b a = single.word (!s) R) ∨ (R = 0 ∧ ∃ s t, fop .sub a b = single.word s R ∧ fop .sub b a = single.word t R)) := by
  obtain ⟨m, k, h1, h2, h3⟩ := tiny_read ha
  obtain ⟨n, l, h4, h5, h6⟩ := tiny_read hb
  generalize (a / 2147483648 % 2 == 1) = s at *
  generalize (b / 2147483648 % 2 == 1) = t at *
  have h24 : (16777216 : Nat) = 2 ^ 24 := by decide
  rw [h24] at h2 h5
  obtain ⟨u, hu⟩ : ∃ u, u = min k l := ⟨_, rfl⟩
  obtain ⟨D, hD⟩ : ∃ D, D = sg s (m * 2 ^ (k - u)) + sg (!t) (n * 2 ^ (l - u)) := ⟨_, rfl⟩
  have hneg : ∀ (q : Bool) (x : Nat), sg (!q) x = - sg q x := fun q x => by unfold sg; cases q <;> simp
  have hD2 : sg t (n * 2 ^ (l - u)) + sg (!s) (m * 2 ^ (k - u)) = -D := by rw [hD, hneg, hneg]; omega
  have hbd : D.natAbs < 2 ^ (25 + (132 - u)) := by
    have e1 : m * 2 ^ (k - u) < 2 ^ (24 + (132 - u)) := by
      calc m * 2 ^ (k - u) < 2 ^ 24 * 2 ^ (k - u) := Nat.mul_lt_mul_of_pos_right h2 (Nat.two_pow_pos _)
        _ = 2 ^ (24 + (k - u)) := (Nat.pow_add 2 24 _).symm
        _ ≤ 2 ^ (24 + (132 - u)) := Nat.pow_le_pow_right (by omega) (by omega)
    have e2 : n * 2 ^ (l - u) < 2 ^ (24 + (132 - u)) := by
      calc n * 2 ^ (l - u) < 2 ^ 24 * 2 ^ (l - u) := Nat.mul_lt_mul_of_pos_right h5 (Nat.two_pow_pos _)
        _ = 2 ^ (24 + (l - u)) := (Nat.pow_add 2 24 _).symm
        _ ≤ 2 ^ (24 + (132 - u)) := Nat.pow_le_pow_right (by omega) (by omega)
    have e3 : 2 ^ (25 + (132 - u)) = 2 ^ (24 + (132 - u)) + 2 ^ (24 + (132 - u)) := by rw [show 25 + (132 - u) = (24 + (132 - u)) + 1 by omega, Nat.pow_succ]; omega
    have q1 := sg_bd s (m * 2 ^ (k - u))
    have q2 := sg_bd (!t) (n * 2 ^ (l - u))
    rw [e3, hD]
    omega
  have hlog : D.natAbs.log2 ≤ 24 + (132 - u) := by
    by_cases h0 : D.natAbs = 0
    · rw [h0, show Nat.log2 0 = 0 by decide]; omega
    · have := (Nat.log2_lt h0).2 hbd; omega
  obtain ⟨R, hR, hR2, hw⟩ := nearest_small D.natAbs (-149 + (u : Int)) 133 (by omega) (by omega)
  have hab : floatBits .sub .f32 a b = some (single.word (if D = 0 then s && !t else decide (D < 0)) R) := by
    show ((single.read a).sum (single.read b).opposite).map single.write = _
    rw [h1, h4]
    simp only [Datum.opposite, Datum.sum, Option.map_some]
    rw [show min (-149 + (k : Int)) (-149 + (l : Int)) = -149 + (u : Int) by omega, show (-149 + (k : Int) - (-149 + (u : Int))).toNat = k - u by omega, show (-149 + (l : Int) - (-149 + (u : Int))).toNat = l - u by omega, signed_sg, signed_sg, ← hD]
    show some (single.nearest (if D = 0 then s && !t else decide (D < 0)) D.natAbs (-149 + (u : Int))) = _
    rw [hw]
  have hba : floatBits .sub .f32 b a = some (single.word (if D = 0 then t && !s else decide (0 < D)) R) := by
    show ((single.read b).sum (single.read a).opposite).map single.write = _
    rw [h1, h4]
    simp only [Datum.opposite, Datum.sum, Option.map_some]
    rw [show min (-149 + (l : Int)) (-149 + (k : Int)) = -149 + (u : Int) by omega, show (-149 + (k : Int) - (-149 + (u : Int))).toNat = k - u by omega, show (-149 + (l : Int) - (-149 + (u : Int))).toNat = l - u by omega, signed_sg, signed_sg, hD2]
    show some (single.nearest (if -D = 0 then t && !s else decide (-D < 0)) (-D).natAbs (-149 + (u : Int))) = _
    rw [Int.natAbs_neg, hw]
    by_cases h0 : D = 0
    · rw [if_pos (by omega), if_pos h0]
    · rw [if_neg (by omega), if_neg h0]
      congr 2
      exact decide_eq_decide.2 (by omega)
  have f1 : ∀ q : Bool, cn (single.word q R) = single.word q R := fun q => cnk_of_not (finF_num (word_mod31 q hR))
  refine ⟨R, by omega, ?_⟩
  unfold fop
  rw [hab, hba, Option.getD_some, Option.getD_some, f1, f1]
  by_cases h0 : D = 0
  · right
    refine ⟨?_, _, _, rfl, rfl⟩
    have h := hw false
    rw [h0, Int.natAbs_zero] at h
    unfold Format.nearest at h
    rw [if_pos rfl] at h
    rw [word_plus, word_plus] at h
    exact h.symm
  · left
    rw [if_neg h0, if_neg h0]
    refine ⟨_, rfl, ?_⟩
    congr 1
    by_cases h1 : D < 0
    · rw [decide_eq_true h1, decide_eq_false (by omega)]; rfl
    · rw [decide_eq_false h1, decide_eq_true (by omega)]; rfl
/-- What flows to and fro between two cells. -/
theorem flow_back {J a b : Nat} (hJ : J % 2147483648 < 1174405120) (ha : a % 2147483648 < 1115684864) (hb : b % 2147483648 < 1115684864) : fin (fop .mul J (fop .sub a b)) = true ∧ isN .f32 (fop .mul J (fop .sub a b)) = false ∧ feq (fop .add (fop .mul J (fop .sub b a)) (fop .mul J (fop .sub a b))) 0 = true := by
  obtain ⟨hbn, hi, hl, hs, hf⟩ := single_facts
  obtain ⟨R, hR, hcase⟩ := sub_flip ha hb
  have hmod : ∀ q : Bool, single.word q R % 2147483648 = R := fun q => by unfold Format.word; rw [hs]; split <;> omega
  have hsgn : ∀ q : Bool, (single.word q R / 2147483648 % 2 == 1) = q := fun q => by
    unfold Format.word
    rw [hs]
    cases q
    · simp; omega
    · simp; omega
  have key : ∀ q : Bool, ∃ (p : Bool) (S : Nat), S < 2139095040 ∧ fop .mul J (single.word q R) = single.word p S ∧ fop .mul J (single.word (!q) R) = single.word (!p) S := fun q =>
    mul_small hJ (by rw [hmod]; exact hR) (by rw [hmod, hmod]) (by rw [hsgn, hsgn])
  rcases hcase with ⟨s, e1, e2⟩ | ⟨h0, s, t, e1, e2⟩
  · obtain ⟨p, S, hS, k1, k2⟩ := key s
    rw [e1, e2, k1, k2]
    exact ⟨fin_word _ hS, finF_num (word_mod31 _ hS), add_flip p hS⟩
  · have hz : ∀ q : Bool, ∃ p, fop .mul J (single.word q R) = single.word p 0 := fun q => by
      subst h0
      obtain ⟨m, k, h1, _⟩ := small_read hJ
      have e : floatBits .mul .f32 J (single.word q 0) = some (single.word ((J / 2147483648 % 2 == 1) ^^ q) 0) := by
        show ((single.read J).product (single.read (single.word q 0))).map single.write = _
        rw [h1, show single.read (single.word q 0) = .number q 0 (-149) by cases q <;> decide]
        show some (single.nearest ((J / 2147483648 % 2 == 1) ^^ q) (m * 0) (-149 + (k : Int) + -149)) = _
        rw [Nat.mul_zero]
        rfl
      refine ⟨(J / 2147483648 % 2 == 1) ^^ q, ?_⟩
      unfold fop
      rw [e, Option.getD_some]
      exact cnk_of_not (finF_num (word_mod31 _ (by omega)))
    obtain ⟨p1, k1⟩ := hz s
    obtain ⟨p2, k2⟩ := hz t
    rw [e1, e2, k1, k2]
    refine ⟨fin_word _ (by omega), finF_num (word_mod31 _ (by omega)), ?_⟩
    cases p1 <;> cases p2 <;> decide +kernel
/-- The drawn numbers are small. -/
theorem head_small : ∀ x : Nat, x < 65 → headOf x % 2147483648 < 1115684864 ∧ headOf x < 4294967296 := by decide +kernel
def cv (i : Nat) : Nat := if i = 0 then 0 else conOf (i - 1)
theorem joint_small : ∀ i : Nat, i < 13 → ∀ j : Nat, j < 13 → joint (cv i) (cv j) % 2147483648 < 1174405120 ∧ isN .f32 (joint (cv i) (cv j)) = false := by decide +kernel
theorem IsDrawn.cv {G : Gr} (h : IsDrawn G) {i : Nat} (hi : i < 64) : ∃ x, x < 13 ∧ G.con i = Go.Proofs.YtdnnjahdcabdmaaGreatDoor.cv x := by
  rcases h.con i hi with h0 | ⟨_, x, hx, h0⟩
  · exact ⟨0, by omega, h0⟩
  · exact ⟨x + 1, by omega, by rw [h0]; rfl⟩
/-- What flows between two cells of a drawn ground. -/
theorem drawn_flow {G : Gr} (h : IsDrawn G) {i k : Nat} (hi : i < 64) (hk : k < 64) (ci : isC G i = true) (ck : isC G k = true) : fin (fop .mul (joint (G.con i) (G.con k)) (fop .sub (G.hea i) (G.hea k))) = true ∧ isN .f32 (fop .mul (joint (G.con i) (G.con k)) (fop .sub (G.hea i) (G.hea k))) = false ∧ feq (fop .add (fop .mul (joint (G.con k) (G.con i)) (fop .sub (G.hea k) (G.hea i))) (fop .mul (joint (G.con i) (G.con k)) (fop .sub (G.hea i) (G.hea k)))) 0 = true := by
  obtain ⟨x, hx, e1⟩ := h.cv hi
  obtain ⟨y, hy, e2⟩ := h.cv hk
  obtain ⟨m, hm, e3⟩ := h.hea i hi ci
  obtain ⟨n, hn, e4⟩ := h.hea k hk ck
  rw [joint_comm (G.con k) (G.con i), e1, e2, e3, e4]
  exact flow_back (joint_small x hx y hy).1 (head_small m hm).1 (head_small n hn).1
end Go.Proofs.YtdnnjahdcabdmaaGreatDoor
