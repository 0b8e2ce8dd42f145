import Derived.Test.YtglimhkpndfjgaaMT11
import Derived.Test.YtglimhkpndfjgaaMT20
import Derived.Test.YtglimhkpndfjgaaMT15
/- Fits: the words of a reading's level, of differences and misfits; the best of several aquifers; the rounds of a fit. Plain laws; no statement is proved here. -/
namespace Go.Proofs.Ytglimhkpndfjgaa
open Ieee
set_option linter.unusedVariables false
set_option linter.unusedSimpArgs false

/-! ### Words that are not negative. -/
theorem flt_fin {a b : Nat} (ha : a < 2139095040) (hb : b < 2139095040) : flt a b = decide (a < b) := by
  unfold flt
  rw [show FloatKind.f32.format.order a b = single.order a b from rfl, order_fin ha hb, cmp_int]
  rcases Nat.lt_trichotomy a b with h | h | h
  · rw [if_pos (by omega), decide_eq_true (by omega)]; rfl
  · subst h; rw [if_neg (by omega), if_pos rfl]; simp
  · rw [if_neg (by omega), if_neg (by omega), decide_eq_false (by omega)]; rfl
theorem fle_fin {a b : Nat} (ha : a < 2139095040) (hb : b < 2139095040) : fle a b = decide (a ≤ b) := by
  unfold fle
  rw [show FloatKind.f32.format.order a b = single.order a b from rfl, order_fin ha hb, cmp_int]
  rcases Nat.lt_trichotomy a b with h | h | h
  · rw [if_pos (by omega), decide_eq_true (by omega)]; rfl
  · subst h; rw [if_neg (by omega), if_pos rfl]; simp
  · rw [if_neg (by omega), if_neg (by omega), decide_eq_false (by omega)]; rfl
theorem fge_fin {a b : Nat} (ha : a < 2139095040) (hb : b < 2139095040) : fge a b = decide (b ≤ a) := by
  unfold fge
  rw [show FloatKind.f32.format.order a b = single.order a b from rfl, order_fin ha hb, cmp_int]
  rcases Nat.lt_trichotomy a b with h | h | h
  · rw [if_pos (by omega), decide_eq_false (by omega)]; rfl
  · subst h; rw [if_neg (by omega), if_pos rfl]; simp
  · rw [if_neg (by omega), if_neg (by omega), decide_eq_true (by omega)]; rfl
theorem feq_fin {a b : Nat} (ha : a < 2139095040) (hb : b < 2139095040) : feq a b = decide (a = b) := by
  unfold feq
  rw [show FloatKind.f32.format.order a b = single.order a b from rfl, order_fin ha hb, cmp_int]
  rcases Nat.lt_trichotomy a b with h | h | h
  · rw [if_pos (by omega), decide_eq_false (by omega)]; rfl
  · subst h; rw [if_neg (by omega), if_pos rfl]; simp
  · rw [if_neg (by omega), if_neg (by omega), decide_eq_false (by omega)]; rfl
/-! ### Sums of several numbers that are not negative. -/
theorem fsum_mgN {f : Nat → Nat} {j : Nat} (hj : 1 ≤ j) : ∀ n, j + 2 * n ≤ 252 → (∀ i, i < n → Mg (f i) j) → Mg (fsumTo f n) (j + 2 * n)
  | 0, _, _ => by unfold Mg fsumTo; simp
  | 1, _, h => (h 0 (by omega)).mono (by omega)
  | n + 2, hn, h => by
    have ih := fsum_mgN (f := f) hj (n + 1) (by omega) (fun i hi => h i (by omega))
    exact ih.add (h (n + 1) (by omega)) (by omega) (by omega) (by omega) (by omega) (by omega) (by omega) (by omega)
theorem fsum_posN {f : Nat → Nat} {j : Nat} (hj : 1 ≤ j) : ∀ n, j + 2 * n ≤ 252 → (∀ i, i < n → f i ≤ j * 8388608) → fsumTo f n < 2139095040 ∧ ∀ i, i < n → f i ≤ fsumTo f n
  | 0, _, _ => ⟨by unfold fsumTo; omega, fun i hi => by omega⟩
  | 1, hj2, h => by
    refine ⟨?_, fun i hi => ?_⟩
    · show f 0 < _
      have := h 0 (by omega)
      omega
    · have e : i = 0 := by omega
      rw [e]; exact Nat.le_refl _
  | n + 2, hn, h => by
    obtain ⟨i1, i2⟩ := fsum_posN (f := f) hj (n + 1) (by omega) (fun i hi => h i (by omega))
    have hl := h (n + 1) (by omega)
    have hf : f (n + 1) < 2139095040 := by omega
    obtain ⟨g1, g2, g3⟩ := fadd_ge i1 hf
    have hm := (fsum_mgN (f := f) hj (n + 2) hn (fun i hi => by
      have := h i hi
      unfold Mg
      exact Nat.le_trans (Nat.mod_le _ _) this)).fin (by omega)
    have e : fsumTo f (n + 2) = fop .add (fsumTo f (n + 1)) (f (n + 1)) := rfl
    rw [e] at hm ⊢
    refine ⟨by omega, fun i hi => ?_⟩
    by_cases h0 : i = n + 1
    · subst h0; exact g2
    · exact Nat.le_trans (i2 i (by omega)) g1
theorem fsum_stepN {f : Nat → Nat} {j n : Nat} (hj : 1 ≤ j) (hn : j + 2 * (n + 2) ≤ 252) (h : ∀ i, i < n + 2 → Mg (f i) j) : Opr .add (fsumTo f (n + 1)) (f (n + 1)) (fsumTo f (n + 2)) := Opr.of (fsum_mgN hj (n + 2) hn h) (by omega)
/-! ### Words of either sign. -/
theorem near_sign (s : Bool) (N : Nat) (p : Int) : single.nearest s N p = single.word s (single.nearest false N p) := by
  by_cases h0 : N = 0
  · subst h0; simp [Format.nearest, word_plus]
  · rw [nearest_of single s N p _ _ h0 rfl rfl, nearest_of single false N p _ _ h0 rfl rfl, word_plus, cut_sign s false]
theorem word_neg (r : Nat) : single.word true r = 2147483648 + r := by unfold Format.word; simp [single_facts]
theorem read_both {r : Nat} (h : r < 2139095040) : ∃ m k : Nat, (∀ s, single.read (single.word s r) = .number s m (-149 + (k : Int))) ∧ m * 2 ^ k = magS r ∧ m < 16777216 := by
  obtain ⟨m, k, h1, h2, h3⟩ := read_pos h
  refine ⟨m, k, fun s => ?_, h2, h3⟩
  cases s
  · rw [word_plus]; exact h1
  · rw [word_neg]
    obtain ⟨hb, hi, hl, hs, hf⟩ := single_facts
    unfold Format.read at h1 ⊢
    simp only [hs, hb, hi, hl] at h1 ⊢
    have e1 : (2147483648 + r) % 2147483648 = r := by omega
    have e2 : ((2147483648 + r) / 2147483648 % 2 == 1) = true := by
      have : (2147483648 + r) / 2147483648 % 2 = 1 := by omega
      rw [this]; rfl
    have e3 : r % 2147483648 = r := by omega
    rw [e1, e2]
    rw [e3] at h1
    by_cases c : r < 8388608
    · rw [if_pos c] at h1 ⊢
      injection h1 with a b c
      rw [b, ← c]
    · rw [if_neg c, if_pos h] at h1 ⊢
      injection h1 with a b c
      rw [b, ← c]
theorem read_sw (s : Bool) {r : Nat} (h : r < 2139095040) : ∃ m k : Nat, single.read (single.word s r) = .number s m (-149 + (k : Int)) ∧ m * 2 ^ k = magS r ∧ m < 16777216 := by
  obtain ⟨m, k, h1, h2, h3⟩ := read_both h
  exact ⟨m, k, h1 s, h2, h3⟩
theorem magS_pos {r : Nat} (h : 1 ≤ r) : 1 ≤ magS r := by have := magS_lt (show 0 < r by omega); rw [magS_zero] at this; omega
theorem quo_word {a b : Nat} (ha : a < 2139095040) (hb : 8388608 ≤ b) (hb2 : b < 2139095040) : ∃ N p, ∀ s, floatBits .quo .f32 (single.word s a) b = some (single.nearest s N p) := by
  have rb := read_norm hb hb2
  obtain ⟨m, k, h1, h2, h3⟩ := read_both ha
  obtain ⟨B, hB⟩ : ∃ B, 8388608 + b % 8388608 = B := ⟨_, rfl⟩
  rw [hB] at rb
  have hne : B ≠ 0 := by omega
  obtain ⟨more, hmore⟩ : ∃ more, single.fractionBits + 2 + B.log2 - m.log2 = more := ⟨_, rfl⟩
  refine ⟨2 * ((m <<< more) / B) + ((m <<< more) % B != 0).toNat, -149 + (k : Int) - (-149 + ((b / 8388608 - 1 : Nat) : Int)) - (more : Nat) - 1, fun s => ?_⟩
  show ((single.read (single.word s a)).quotient (single.fractionBits + 2) (single.read b)).map single.write = _
  rw [h1 s, rb]
  unfold Datum.quotient
  simp only [if_neg hne, hmore, Bool.xor_false]
  rfl
/-- A difference is never the zero with a sign, if what it begins with isn't. -/
theorem fsub_ne {s : Bool} {R b : Nat} (hR : R < 2139095040) (h1 : s = true → 1 ≤ R) (hb : b % 2147483648 < 2139095040) (hb2 : b < 4294967296) (hnum : isN .f32 (fop .sub (single.word s R) b) = false) : fop .sub (single.word s R) b ≠ 2147483648 := by
  obtain ⟨m, k, r1, r2, r3⟩ := read_sw s hR
  obtain ⟨n, q, t1, t2, t3⟩ := read_sw (b / 2147483648 % 2 == 1) hb
  rw [word_sgl b hb2] at t1
  generalize (b / 2147483648 % 2 == 1) = t at *
  have hv := fop_told hnum
  have hv2 : floatBits .sub .f32 (single.word s R) b = some (single.nearest (if signed s m (k - min k q) + signed (!t) n (q - min k q) = 0 then s && !t else decide (signed s m (k - min k q) + signed (!t) n (q - min k q) < 0)) (signed s m (k - min k q) + signed (!t) n (q - min k q)).natAbs (-149 + ((min k q : Nat) : Int))) := by
    show ((single.read (single.word s R)).sum (single.read b).opposite).map single.write = _
    rw [r1, t1]
    show ((Datum.number s m (-149 + (k : Int))).sum (.number (!t) n (-149 + (q : Int)))).map single.write = _
    unfold Datum.sum
    simp only
    have e0 : min (-149 + (k : Int)) (-149 + (q : Int)) = -149 + ((min k q : Nat) : Int) := by omega
    rw [e0]
    have e1 : (-149 + (k : Int) - (-149 + ((min k q : Nat) : Int))).toNat = k - min k q := by omega
    have e2 : (-149 + (q : Int) - (-149 + ((min k q : Nat) : Int))).toNat = q - min k q := by omega
    rw [e1, e2]
    rfl
  rw [hv] at hv2
  rw [Option.some.inj hv2]
  by_cases hZ : signed s m (k - min k q) + signed (!t) n (q - min k q) = 0
  · rw [if_pos hZ, hZ]
    have hz : ∀ u, single.nearest u (0 : Int).natAbs (-149 + ((min k q : Nat) : Int)) = single.word u 0 := fun u => by simp [Format.nearest]
    rw [hz]
    cases hs : s
    · simp [word_plus]
    · subst hs
      cases ht : t
      · exfalso
        subst ht
        rw [signed_sg, signed_sg] at hZ
        have hm : m ≠ 0 := by
          intro e; subst e
          have := magS_pos (h1 rfl)
          omega
        have hp : 0 < m * 2 ^ (k - min k q) := Nat.mul_pos (by omega) (Nat.two_pow_pos _)
        generalize m * 2 ^ (k - min k q) = A at *
        generalize n * 2 ^ (q - min k q) = B at *
        simp only [sg, Bool.not_false, if_true] at hZ
        omega
      · simp [word_plus]
  · rw [if_neg hZ, near_sign]
    have := near_ge (N := (signed s m (k - min k q) + signed (!t) n (q - min k q)).natAbs) (k := min k q) (r := 1) (by omega) (by
      have e : magS 1 = 1 := by unfold magS; simp
      rw [e]
      exact Nat.mul_pos (by omega) (Nat.two_pow_pos _))
    have hX := near_inf (signed s m (k - min k q) + signed (!t) n (q - min k q)).natAbs (min k q)
    generalize single.nearest false (signed s m (k - min k q) + signed (!t) n (q - min k q)).natAbs (-149 + ((min k q : Nat) : Int)) = X at *
    generalize decide (signed s m (k - min k q) + signed (!t) n (q - min k q) < 0) = u
    cases u
    · rw [word_plus]; omega
    · rw [word_neg]; omega
/-- The size of a number that is not the zero with a sign. -/
theorem szS_fab {x : Nat} (h : x < 4294967296) (hf : x % 2147483648 < 2139095040) (hne : x ≠ 2147483648) : szS x = fab x := by
  unfold szS fab
  by_cases hx : x < 2147483648
  · have h1 := fge_zero (u := x) (by omega)
    have h2 : (FloatKind.f32.format.order x 0 == some .lt) = false := by
      rw [flt_eq, flt_fin (by omega) (by omega)]; simp
    rw [h2, if_neg Bool.false_ne_true]; omega
  · have hv := val_abs hf
    have hs : (x / 2147483648 % 2 == 1) = true := by
      have : x / 2147483648 % 2 = 1 := by omega
      rw [this]; rfl
    rw [hs] at hv
    have h2 : (FloatKind.f32.format.order x 0 == some .lt) = true := by
      rw [show FloatKind.f32.format.order x 0 = single.order x 0 from rfl, order_val hv zero_val, cmp_int]
      have := magS_pos (r := x % 2147483648) (by omega)
      rw [if_pos (by simp [sg]; omega)]; rfl
    rw [h2, if_pos rfl]
    have a := neg_low x
    have b := neg_sign x
    rw [hs] at b
    have c : Op.negFloat .f32 x < 4294967296 := by
      have : Op.negFloat .f32 x = x ^^^ 2 ^ 31 := rfl
      rw [this]
      exact Nat.xor_lt_two_pow (n := 32) h (by decide)
    have d : ¬ Op.negFloat .f32 x / 2147483648 % 2 = 1 := by
      intro e; rw [e] at b; cases b
    omega
/-! ### Levels. -/
def levX (l : Int) : Nat := fop .quo (fI l) 1098907648
theorem fI_sign (z : Int) : fI z = single.word (decide (z < 0)) (fI (z.natAbs : Int)) := by
  have e : ∀ y : Int, fI y = single.nearest (decide (y < 0)) y.natAbs 0 := fun y => rfl
  rw [e, e, near_sign]
  have : decide (((z.natAbs : Nat) : Int) < 0) = false := decide_eq_false (by omega)
  rw [this]
  rfl
/-- A level's word: its sign and the rest. -/
theorem levX_form {l : Int} (h1 : -32768 ≤ l) (h2 : l ≤ 32767) : ∃ (s : Bool) (R : Nat), levX l = single.word s R ∧ R ≤ 141 * 8388608 ∧ (s = true → 1 ≤ R) := by
  by_cases h0 : l = 0
  · subst h0
    exact ⟨false, 0, by decide +kernel, by omega, fun h => by cases h⟩
  · obtain ⟨n, hn⟩ : ∃ n, l.natAbs = n := ⟨_, rfl⟩
    have hN := fI_nrm (n := n) (lo := 0) (hi := 15) (by simp; omega) (by simp; omega) (by omega)
    have h16 : Nrm 1098907648 131 131 := ⟨by decide, by decide⟩
    have hq := hN.quo h16 (by omega) (by omega) (by omega) (by omega) (by omega) (by omega)
    obtain ⟨N, p, hw⟩ := quo_word (hN.hi (by omega)) (h16.lo (by omega)) (h16.hi (by omega))
    have hf := hw false
    rw [word_plus] at hf
    have hR := hq.hi (by omega)
    have hL := hq.lo (by omega)
    have e1 : fop .quo (fI (n : Int)) 1098907648 = single.nearest false N p := by
      have := fop_told (hq.num (by omega))
      rw [hf] at this
      exact (Option.some.inj this).symm
    refine ⟨decide (l < 0), fop .quo (fI (n : Int)) 1098907648, ?_, Nat.le_trans hq.2 (by omega), fun _ => by omega⟩
    have hx := hw (decide (l < 0))
    rw [near_sign, ← e1] at hx
    unfold levX
    rw [fI_sign l, hn]
    refine fop_is hx ?_
    refine finF_num ?_
    generalize decide (l < 0) = s
    cases s
    · rw [word_plus]; omega
    · rw [word_neg]; omega
theorem levX_mg {l : Int} (h1 : -32768 ≤ l) (h2 : l ≤ 32767) : Mg (levX l) 141 := by
  obtain ⟨s, R, e, hR, _⟩ := levX_form h1 h2
  rw [e]
  exact word_mg hR (by omega)
theorem levX_op {l : Int} (h1 : -32768 ≤ l) (h2 : l ≤ 32767) : Opr .quo (fI l) 1098907648 (levX l) := Opr.of (levX_mg h1 h2) (by omega)
/-! ### Sites. -/
/-- A site's numbers: its well, its place. -/
structure Si where
  px : Int
  py : Int
  rt : Nat
  x : Int
  y : Int
def Si.wl (s : Si) : Wl := ⟨s.px, s.py, s.rt⟩
def siR (k : Nat) : Nat := (floatBits .quo .f32 (floatOfInt .f32 (1 + (k : Int))) 1090519040).getD 0
/-- A drawn site. -/
structure SiD (s : Si) : Prop where
  px : 0 ≤ s.px ∧ s.px ≤ 5
  py : 0 ≤ s.py ∧ s.py ≤ 5
  x : 0 ≤ s.x ∧ s.x ≤ 9
  y : 0 ≤ s.y ∧ s.y ≤ 9
  rt : ∃ k, k < 900 ∧ s.rt = siR k
theorem siR_all : ∀ x : Nat, x < 900 → (floatBits .quo .f32 (floatOfInt .f32 (1 + (x : Int))) 1090519040).isSome = true ∧ plain (siR x) = true ∧ siR x % 2147483648 ≤ 134 * 8388608 ∧ siR x < 4294967296 := by
  have h : (List.range 900).all (fun (x : Nat) => (floatBits .quo .f32 (floatOfInt .f32 (1 + (x : Int))) 1090519040).isSome && (plain (siR x) && (decide (siR x % 2147483648 ≤ 134 * 8388608) && decide (siR x < 4294967296)))) = true := by kernel_rfl
  intro x hx
  have := List.all_eq_true.1 h x (List.mem_range.2 hx)
  simpa [and_assoc] using this
theorem siR_is {x : Nat} (h : x < 900) : floatBits .quo .f32 (floatOfInt .f32 (1 + (x : Int))) 1090519040 = some (siR x) := by
  obtain ⟨r, hr⟩ := Option.isSome_iff_exists.1 (siR_all x h).1
  unfold siR; rw [hr]; rfl
theorem SiD.rate {s : Si} (h : SiD s) : plain s.rt = true ∧ Mg s.rt 134 ∧ s.rt < 4294967296 := by
  obtain ⟨k, h1, h2⟩ := h.rt
  obtain ⟨_, a, b, c⟩ := siR_all k h1
  rw [h2]; exact ⟨a, b, c⟩
/-! ### Differences. -/
/-- The drawdown at a site. -/
def sdX (T S : Nat) (s : Si) (t : Nat) : Nat := ddX T S s.rt (s.x - s.px) (s.y - s.py) t
theorem ddX_mg134 {T S R : Nat} (h : Aq T S) (hR : Mg R 134) {x y : Int} (hx : -15 ≤ x ∧ x ≤ 15) (hy : -15 ≤ y ∧ y ≤ 15) {time : Nat} (h1 : 1 ≤ time) (h2 : time ≤ 100000) : Mg (ddX T S R x y time) 218 := by
  unfold ddX
  split
  · unfold Mg; decide
  · have hv := argV_in h hx hy h1 h2
    have hp : Nrm 1095307227 130 131 := ⟨by decide, by decide⟩
    have hl := hp.mul h.t (by omega) (by omega) (by omega) (by omega) (by omega) (by omega)
    have hq := hR.quo hl (l := 143) (by omega) (by omega) (by omega) (by omega) (by omega) (by omega) (by omega)
    exact hq.mul (wfX_mg hv.1 (by omega)) (by omega) (by omega) (by omega) (by omega) (by omega) (by omega) (by omega)
theorem sdX_mg {T S : Nat} {s : Si} (h : Aq T S) (hs : SiD s) {t : Nat} (h1 : 1 ≤ t) (h2 : t ≤ 100000) : Mg (sdX T S s t) 218 :=
  ddX_mg134 h hs.rate.2.1 (by have := hs.px; have := hs.x; omega) (by have := hs.py; have := hs.y; omega) h1 h2
/-- The difference of a reading. -/
def dfX (T S : Nat) (s : Si) (r : Rg) : Nat := fop .sub (levX r.lev) (sdX T S s r.tim.toNat)
/-- Such are the readings that are looked at. -/
def RgD (r : Rg) : Prop := (1 ≤ r.tim ∧ r.tim ≤ 100000) ∧ (-32768 ≤ r.lev ∧ r.lev ≤ 32767)
theorem dfX_mg {T S : Nat} {s : Si} {r : Rg} (h : Aq T S) (hs : SiD s) (hr : RgD r) : Mg (dfX T S s r) 220 :=
  (levX_mg hr.2.1 hr.2.2).sub (sdX_mg h hs (t := r.tim.toNat) (by have := hr.1; omega) (by have := hr.1; omega)) (by omega) (by omega) (by omega) (by omega) (by omega) (by omega) (by omega)
theorem dfX_op {T S : Nat} {s : Si} {r : Rg} (h : Aq T S) (hs : SiD s) (hr : RgD r) : Opr .sub (levX r.lev) (sdX T S s r.tim.toNat) (dfX T S s r) := Opr.of (dfX_mg h hs hr) (by omega)
theorem word_lt (s : Bool) {r : Nat} (h : r ≤ 2139095040 + 8388607) : single.word s r < 4294967296 := by
  cases s
  · rw [word_plus]; omega
  · rw [word_neg]; omega
theorem write_lt (d : Datum) : single.write d < 4294967296 := by
  obtain ⟨hb, hi, hl, hs, hf⟩ := single_facts
  cases d with
  | number s N p =>
    show single.nearest s N p < _
    by_cases h0 : N = 0
    · subst h0; simp only [Format.nearest, if_true]; exact word_lt s (by omega)
    · rw [nearest_of single s N p _ _ h0 rfl rfl, hi]
      exact word_lt s (Nat.le_trans (Nat.min_le_right _ _) (by omega))
  | infinity s => show single.word s single.infRung < _; rw [hi]; exact word_lt s (by omega)
  | nan s f =>
    show single.word s (single.infRung + f % single.binade) < _
    rw [hi, hb]; exact word_lt s (by have := Nat.mod_lt f (show 0 < 8388608 by omega); omega)
theorem map_lt {o : Option Datum} {r : Nat} (h : o.map single.write = some r) : r < 4294967296 := by
  cases o with
  | none => cases h
  | some d => injection h with h; rw [← h]; exact write_lt d
theorem fop_lt (op : BinOp) (a b : Nat) : fop op a b < 4294967296 := by
  unfold fop
  have hq : qn .f32 < 4294967296 := by decide +kernel
  cases h : floatBits op .f32 a b with
  | none =>
    show cn (qn .f32) < _
    unfold cn cnk
    split <;> exact hq
  | some r =>
    have hr : r < 4294967296 := by
      cases op <;> first | exact map_lt h | cases h
    show cn r < _
    unfold cn cnk
    split
    · exact hq
    · exact hr
theorem sdX_lt (T S : Nat) (s : Si) (t : Nat) : sdX T S s t < 4294967296 := by
  unfold sdX ddX
  split
  · omega
  · exact fop_lt _ _ _
theorem dfX_size {T S : Nat} {s : Si} {r : Rg} (h : Aq T S) (hs : SiD s) (hr : RgD r) : szS (dfX T S s r) = fab (dfX T S s r) := by
  have hm := dfX_mg h hs hr
  have hd := sdX_mg h hs (t := r.tim.toNat) (by have := hr.1; omega) (by have := hr.1; omega)
  refine szS_fab (fop_lt _ _ _) (hm.fin (by omega)) ?_
  obtain ⟨u, R, e, hR, hu⟩ := levX_form hr.2.1 hr.2.2
  have hn := hm.num (by omega)
  unfold dfX at hn ⊢
  rw [e] at hn ⊢
  exact fsub_ne (by omega) hu (hd.fin (by omega)) (sdX_lt _ _ _ _) hn
end Go.Proofs.Ytglimhkpndfjgaa
/- What a logger has of a level: the reference's walk. -/
namespace Go.Proofs.Ytglimhkpndfjgaa
open Ieee
open Go.ChangeShapes Go.WideShapes Go.ChangeAt Go.RowKit
set_option linter.unusedVariables false
set_option linter.unusedSimpArgs false
/-- A word's value, in the least places. -/
def vlS (u : Nat) : Int := sg (u / 2147483648 % 2 == 1) (magS (u % 2147483648))
/-- The whole part of a word's value. -/
def trW (u : Nat) : Int := Int.tdiv (vlS u) (pw 149 : Nat)
theorem val_vlS {u : Nat} (h : u % 2147483648 < 2139095040) : Val single u (vlS u) := val_abs h
theorem top_val : Val single 1191181824 (32767 * (pw 149 : Nat)) := by
  refine ⟨false, 16776704, 140, by decide +kernel, ?_⟩
  have e : pw 149 = 512 * 2 ^ 140 := by rw [pw_eq]
  have e2 : (16776704 * 2 ^ 140 : Nat) = 32767 * pw 149 := by rw [e, ← Nat.mul_assoc]
  show _ = sg false _
  rw [e2]; simp [sg]
theorem bot_val : Val single 3338665984 (-32768 * (pw 149 : Nat)) := by
  refine ⟨true, 8388608, 141, by decide +kernel, ?_⟩
  have e : pw 149 = 256 * 2 ^ 141 := by rw [pw_eq]
  have e2 : (8388608 * 2 ^ 141 : Nat) = 32768 * pw 149 := by rw [e, ← Nat.mul_assoc]
  show _ = sg true _
  rw [e2]; simp [sg, Int.neg_mul]
theorem fge_val {a b : Nat} {x y : Int} (ha : Val single a x) (hb : Val single b y) : fge a b = decide (y ≤ x) := by
  unfold fge; exact order_ge ha hb
theorem flt_val {a b : Nat} {x y : Int} (ha : Val single a x) (hb : Val single b y) : flt a b = decide (x < y) := by
  unfold flt
  rw [show FloatKind.f32.format.order a b = single.order a b from rfl, order_val ha hb, cmp_int]
  by_cases h : x < y
  · rw [if_pos h, decide_eq_true h]; rfl
  · rw [if_neg h, decide_eq_false h]; split <;> rfl
theorem fgt_val {a b : Nat} {x y : Int} (ha : Val single a x) (hb : Val single b y) : fgt a b = decide (y < x) := by
  unfold fgt
  rw [show FloatKind.f32.format.order a b = single.order a b from rfl, order_val ha hb, cmp_int]
  rcases Int.lt_trichotomy x y with h | h | h
  · rw [if_pos h, decide_eq_false (by omega)]; rfl
  · rw [if_neg (by omega), if_pos h, decide_eq_false (by omega)]; rfl
  · rw [if_neg (by omega), if_neg (by omega), decide_eq_true h]; rfl
def lgZ (b : Nat) : Nat := fop .mul b 1098907648
/-- What a logger has of the level b. -/
def lgR (b : Nat) : Int :=
  if fge (lgZ b) 0 = true then (if flt (fop .add (lgZ b) 1056964608) 1191181824 = true then trW (fop .add (lgZ b) 1056964608) else 32767)
  else (if fgt (fop .sub (lgZ b) 1056964608) 3338665984 = true then trW (fop .sub (lgZ b) 1056964608) else -32768)
theorem lgZ_mg {b : Nat} (h : Mg b 220) : Mg (lgZ b) 228 := by
  unfold lgZ
  have h16 : Mg 1098907648 131 := by unfold Mg; decide
  exact h.mul h16 (by omega) (by omega) (by omega) (by omega) (by omega) (by omega) (by omega)
theorem lgU_mg {b : Nat} (h : Mg b 220) : Mg (fop .add (lgZ b) 1056964608) 230 ∧ Mg (fop .sub (lgZ b) 1056964608) 230 := by
  have hh : Mg 1056964608 126 := by unfold Mg; decide
  exact ⟨(lgZ_mg h).add hh (by omega) (by omega) (by omega) (by omega) (by omega) (by omega) (by omega), (lgZ_mg h).sub hh (by omega) (by omega) (by omega) (by omega) (by omega) (by omega) (by omega)⟩
theorem half_val : vlS 1056964608 = ((pw 148 : Nat) : Int) := by
  have e : pw 148 = 8388608 * 2 ^ 125 := by rw [pw_eq]
  have : magS 1056964608 = 8388608 * 2 ^ 125 := by unfold magS; rfl
  unfold vlS sg
  rw [show (1056964608 / 2147483648 % 2 == 1) = false from rfl, show 1056964608 % 2147483648 = 1056964608 from rfl, this, e]
  rfl
/-- A half added to what is not below 0 is not below 0; what is below 0 less a half is below 0. -/
theorem half_add {z : Nat} (hf : z % 2147483648 < 2139095040) (hz : z < 4294967296) (h : 0 ≤ vlS z) (hn : Mg (fop .add z 1056964608) 230) : 0 ≤ vlS (fop .add z 1056964608) := by
  by_cases h1 : z < 2147483648
  · obtain ⟨g1, g2, g3⟩ := fadd_ge (a := z) (b := 1056964608) (by omega) (by omega)
    have : fop .add z 1056964608 < 2147483648 := by omega
    unfold vlS sg
    have e : (fop .add z 1056964608 / 2147483648 % 2 == 1) = false := by
      have : fop .add z 1056964608 / 2147483648 = 0 := by omega
      rw [this]; rfl
    rw [e]; simp
  · have hs : (z / 2147483648 % 2 == 1) = true := by
      have : z / 2147483648 % 2 = 1 := by omega
      rw [this]; rfl
    unfold vlS at h
    rw [hs] at h
    simp only [sg, if_true] at h
    have h0 : z % 2147483648 = 0 := by
      rcases Nat.eq_zero_or_pos (z % 2147483648) with h2 | h2
      · exact h2
      · have := magS_pos h2; omega
    obtain rfl : z = 2147483648 := by omega
    have e : fop .add 2147483648 1056964608 = 1056964608 := by decide +kernel
    rw [e, half_val]
    omega
theorem ilt (a b : Int) : a < b ∨ b ≤ a := by omega
theorem tr_in {x P : Int} (hP : 0 < P) (h1 : -32768 * P < x) (h2 : x < 32767 * P) : -32768 ≤ Int.tdiv x P ∧ Int.tdiv x P ≤ 32767 := by
  have a := Int.mul_tdiv_add_tmod x P
  have b1 := Int.tmod_lt_of_pos x hP
  have b2 := Int.lt_tmod_of_pos x hP
  constructor
  · rcases ilt (Int.tdiv x P) (-32768) with h | h
    · have : P * Int.tdiv x P ≤ P * (-32769) := Int.mul_le_mul_of_nonneg_left (by omega) (by omega)
      omega
    · exact h
  · rcases ilt 32767 (Int.tdiv x P) with h | h
    · have : P * 32768 ≤ P * Int.tdiv x P := Int.mul_le_mul_of_nonneg_left (by omega) (by omega)
      omega
    · omega
theorem pw149_pos : (0 : Int) < (pw 149 : Nat) := by have := pw_pos 149; omega
/-- Its whole part is a level. -/
theorem lgR_parts {b : Nat} (h : Mg b 220) : (fge (lgZ b) 0 = true → flt (fop .add (lgZ b) 1056964608) 1191181824 = true → -32768 ≤ trW (fop .add (lgZ b) 1056964608) ∧ trW (fop .add (lgZ b) 1056964608) ≤ 32767) ∧ (fge (lgZ b) 0 = false → flt (lgZ b) 0 = true ∧ (fgt (fop .sub (lgZ b) 1056964608) 3338665984 = true → -32768 ≤ trW (fop .sub (lgZ b) 1056964608) ∧ trW (fop .sub (lgZ b) 1056964608) ≤ 32767)) := by
  have hz := (lgZ_mg h).fin (by omega)
  obtain ⟨hu, hd⟩ := lgU_mg h
  have vz := val_vlS hz
  have vu := val_vlS (hu.fin (by omega))
  have vd := val_vlS (hd.fin (by omega))
  have hlt : lgZ b < 4294967296 := fop_lt _ _ _
  have hP := pw149_pos
  rw [fge_val vz zero_val, flt_val vu top_val, flt_val vz zero_val, fgt_val vd bot_val]
  simp only [decide_eq_true_eq, decide_eq_false_iff_not]
  refine ⟨fun h1 h2 => ?_, fun h1 => ⟨by omega, fun h2 => ?_⟩⟩
  · have h3 := half_add hz hlt h1 hu
    exact tr_in hP (by omega) h2
  · refine tr_in hP h2 ?_
    -- a negative number less a half is no more than 0
    rcases ilt (vlS (fop .sub (lgZ b) 1056964608)) (32767 * (pw 149 : Nat)) with h3 | h3
    · exact h3
    · exfalso
      have hzs : (lgZ b / 2147483648 % 2 == 1) = true := by
        cases hs : (lgZ b / 2147483648 % 2 == 1)
        · unfold vlS at h1; rw [hs] at h1; simp [sg] at h1
        · rfl
      obtain ⟨m, k, r1, r2, r3⟩ := read_sw (lgZ b / 2147483648 % 2 == 1) hz
      rw [word_sgl _ hlt] at r1
      obtain ⟨n, q, t1, t2, t3⟩ := read_pos (r := 1056964608) (by omega)
      rw [hzs] at r1
      have hv := fop_told (hd.num (by omega))
      have hv2 : floatBits .sub .f32 (lgZ b) 1056964608 = some (single.nearest (if signed true m (k - min k q) + signed (!false) n (q - min k q) = 0 then true && !false else decide (signed true m (k - min k q) + signed (!false) n (q - min k q) < 0)) (signed true m (k - min k q) + signed (!false) n (q - min k q)).natAbs (-149 + ((min k q : Nat) : Int))) := by
        show ((single.read (lgZ b)).sum (single.read 1056964608).opposite).map single.write = _
        rw [r1, t1]
        show ((Datum.number true m (-149 + (k : Int))).sum (.number (!false) n (-149 + (q : Int)))).map single.write = _
        unfold Datum.sum
        simp only
        have e0 : min (-149 + (k : Int)) (-149 + (q : Int)) = -149 + ((min k q : Nat) : Int) := by omega
        rw [e0]
        have e1 : (-149 + (k : Int) - (-149 + ((min k q : Nat) : Int))).toNat = k - min k q := by omega
        have e2 : (-149 + (q : Int) - (-149 + ((min k q : Nat) : Int))).toNat = q - min k q := by omega
        rw [e1, e2]
        rfl
      rw [hv] at hv2
      have hs : (if signed true m (k - min k q) + signed (!false) n (q - min k q) = 0 then true && !false else decide (signed true m (k - min k q) + signed (!false) n (q - min k q) < 0)) = true := by
        rw [signed_sg, signed_sg]
        simp only [sg, Bool.not_false, if_true, Bool.and_self]
        split
        · rfl
        · rw [decide_eq_true_eq]; omega
      rw [hs, near_sign] at hv2
      have hx := Option.some.inj hv2
      rw [word_neg] at hx
      have hxi := near_inf (signed true m (k - min k q) + signed (!false) n (q - min k q)).natAbs (min k q)
      unfold vlS at h3
      have e : (fop .sub (lgZ b) 1056964608 / 2147483648 % 2 == 1) = true := by
        have : fop .sub (lgZ b) 1056964608 / 2147483648 % 2 = 1 := by omega
        rw [this]; rfl
      rw [e] at h3
      simp only [sg, if_true] at h3
      omega
theorem lgR_in {b : Nat} (h : Mg b 220) : -32768 ≤ lgR b ∧ lgR b ≤ 32767 := by
  obtain ⟨h1, h2⟩ := lgR_parts h
  unfold lgR
  split
  · rename_i a
    split
    · rename_i c; exact h1 a c
    · omega
  · rename_i a
    split
    · rename_i c; exact (h2 (by simpa using a)).2 c
    · omega
attribute [local irreducible] Calls
theorem conv_tr {P : Program} (w : World) {t1 t2 : TypeId} {u : Nat} (hf : u % 2147483648 < 2139095040) (h1 : (P.underlying t1).isSome = true) (h2 : P.underlying t2 = some (.int .i64)) (hr : -32768 ≤ trW u ∧ trW u ≤ 32767) : (convert t1 t2 (.float .f32 u)).run P w = .ok (.int .i64 (trW u)) w := by
  refine run_convert_float_int (P := P) w t1 t2 .f32 .i64 _ _ h1 h2 ?_
  unfold floatToIntVal
  have e : (FloatKind.f32.decode u).toInt .zero = some (trW u) := toInt_val 149 (by decide) (val_vlS hf)
  rw [e]
  show (if IntKind.i64.min ≤ _ ∧ _ ≤ IntKind.i64.max then _ else none) = _
  rw [if_pos ⟨Int.le_trans (by decide) hr.1, Int.le_trans hr.2 (by decide)⟩]
set_option maxRecDepth 100000 in
set_option maxHeartbeats 1000000 in
theorem l04Logger_any (b : Nat) (hb : Mg b 220) (w : World) :
    Calls Try.prog 31 #[.float .f32 b] w fun e w' => e = .returned (.int .i16 (lgR b)) ∧ w' = w := by
  obtain ⟨c1, r1⟩ : Opr .mul b 1098907648 (lgZ b) := Opr.of (lgZ_mg hb) (by omega)
  obtain ⟨c2, r2⟩ : Opr .add (lgZ b) 1056964608 (fop .add (lgZ b) 1056964608) := Opr.of (lgU_mg hb).1 (by omega)
  obtain ⟨c3, r3⟩ : Opr .sub (lgZ b) 1056964608 (fop .sub (lgZ b) 1056964608) := Opr.of (lgU_mg hb).2 (by omega)
  obtain ⟨p1, p2⟩ := lgR_parts hb
  have f1 := (lgU_mg hb).1.fin (by omega)
  have f2 := (lgU_mg hb).2.fin (by omega)
  have o1 := fge_eq (lgZ b) 0
  have o2 := flt_eq (fop .add (lgZ b) 1056964608) 1191181824
  have o3 := flt_eq (lgZ b) 0
  have o4 := fgt_eq (fop .sub (lgZ b) 1056964608) 3338665984
  have cv := fun u (hf : u % 2147483648 < 2139095040) (hr : -32768 ≤ trW u ∧ trW u ≤ 32767) (w : World) => conv_tr (P := Try.prog) w (t1 := 24) (t2 := 2) hf (by kernel_rfl) Try.underlying2 hr
  unfold lgR
  generalize fop .add (lgZ b) 1056964608 = U at *
  generalize fop .sub (lgZ b) 1056964608 = D at *
  generalize lgZ b = z at *
  clear hb
  cases hz : fge z 0
  · obtain ⟨p3, p4⟩ := p2 hz
    rw [hz] at o1
    rw [p3] at o3
    rw [if_neg (by simp)]
    cases hd : fgt D 3338665984
    · rw [hd] at o4
      rw [if_neg (by simp)]
      clear p1 p2 p3 p4 cv hz hd o2
      go_enter Try.func31, Try.ntmps31
      go_wp2_with fail
      go_ret
      exact ⟨rfl, rfl⟩
    · rw [hd] at o4
      rw [if_pos rfl]
      have hr := p4 hd
      have cv := cv D f2 hr
      obtain ⟨hr1, hr2⟩ := hr
      generalize trW D = tD at *
      clear p1 p2 p3 p4 hz hd o2
      go_enter Try.func31, Try.ntmps31
      go_wp2_with fail
      go_ret
      exact ⟨rfl, rfl⟩
  · rw [hz] at o1
    rw [if_pos rfl]
    cases hd : flt U 1191181824
    · rw [hd] at o2
      rw [if_neg (by simp)]
      clear p1 p2 cv hz hd o3 o4
      go_enter Try.func31, Try.ntmps31
      go_wp2_with fail
      go_ret
      exact ⟨rfl, rfl⟩
    · rw [hd] at o2
      rw [if_pos rfl]
      have hr := p1 hz hd
      have cv := cv U f1 hr
      obtain ⟨hr1, hr2⟩ := hr
      generalize trW U = tU at *
      clear p1 p2 hz hd o3 o4
      go_enter Try.func31, Try.ntmps31
      go_wp2_with fail
      go_ret
      exact ⟨rfl, rfl⟩
end Go.Proofs.Ytglimhkpndfjgaa
