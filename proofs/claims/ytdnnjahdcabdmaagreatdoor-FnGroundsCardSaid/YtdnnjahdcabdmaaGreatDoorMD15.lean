import Derived.Test.YtdnnjahdcabdmaaGreatDoorMD14
import Derived.Maps.Range
import Derived.Test.YtdnnjahdcabdmaaGreatDoorMD13
import Derived.Test.YtdnnjahdcabdmaaGreatDoorMD08
/- Grounds that the reference draws (l01Drawn, A2Ground): all are valid. -/
namespace Go.Proofs.YtdnnjahdcabdmaaGreatDoor
open Go.ChangeShapes Go.WideShapes Go.ChangeAt Go.RowKit
set_option linter.unusedVariables false
set_option linter.unusedSimpArgs false

/-! ### Bits among bits. -/
def bv (z : Int) : BitVec 64 := BitVec.ofInt 64 z
theorem bv_nat (x : BitVec 64) : bv (x.toNat : Int) = x := by unfold bv; simp
theorem bits_eq (op : BinOp) (f : BitVec 64 → BitVec 64 → BitVec 64) (a b : Int) (h : bits op .u64 a b = IntKind.u64.wrap ((f (bv a) (bv b)).toNat : Int)) : bits op .u64 a b = ((f (bv a) (bv b)).toNat : Int) := by
  rw [h, IntKind.wrap_u64]
  have := (f (bv a) (bv b)).isLt
  simp only [Nat.reducePow] at this
  omega
theorem orB_bv (x : Int) (k : Nat) : orB x k = ((bv x ||| bv (IntKind.u64.wrap (2 ^ k))).toNat : Int) := by
  unfold orB; exact bits_eq .or (· ||| ·) _ _ rfl
theorem andNot_bv (x y : Int) : bits .andNot .u64 x y = ((bv x &&& ~~~ bv y).toNat : Int) := bits_eq .andNot (fun x y => x &&& ~~~ y) _ _ rfl
theorem andNot_zero {x y : Int} : (bits .andNot .u64 x y == 0) = true ↔ bv x &&& ~~~ bv y = 0#64 := by
  rw [andNot_bv, beq_iff_eq]
  constructor
  · intro h; apply BitVec.eq_of_toNat_eq; simp only [BitVec.toNat_ofNat]; omega
  · intro h; rw [h]; rfl
theorem lsb_and {x m : BitVec 64} (h : x &&& ~~~ m = 0#64) (i : Nat) (hi : i < 64) : (x.getLsbD i && !m.getLsbD i) = false := by
  have h1 : (x &&& ~~~ m).getLsbD i = (0#64).getLsbD i := by rw [h]
  rw [BitVec.getLsbD_and, BitVec.getLsbD_not, decide_eq_true hi, Bool.true_and, BitVec.getLsbD_zero] at h1
  exact h1
theorem and_lsb {x m : BitVec 64} (h : ∀ i, i < 64 → (x.getLsbD i && !m.getLsbD i) = false) : x &&& ~~~ m = 0#64 := by
  apply BitVec.eq_of_getLsbD_eq
  intro i hi
  rw [BitVec.getLsbD_and, BitVec.getLsbD_not, decide_eq_true hi, Bool.true_and, BitVec.getLsbD_zero]
  exact h i hi
theorem and_or (x p m : BitVec 64) (h : x &&& ~~~ m = 0#64) (h' : p &&& ~~~ m = 0#64) : (x ||| p) &&& ~~~ m = 0#64 := and_lsb fun i hi => by
  have h1 := lsb_and h i hi
  have h2 := lsb_and h' i hi
  rw [BitVec.getLsbD_or]
  generalize x.getLsbD i = a at *
  generalize p.getLsbD i = b at *
  generalize m.getLsbD i = c at *
  revert h1 h2
  cases a <;> cases b <;> cases c <;> decide
theorem and_more (p m q : BitVec 64) (h : p &&& ~~~ m = 0#64) : p &&& ~~~ (m ||| q) = 0#64 := and_lsb fun i hi => by
  have h1 := lsb_and h i hi
  rw [BitVec.getLsbD_or]
  generalize p.getLsbD i = a at *
  generalize m.getLsbD i = b at *
  generalize q.getLsbD i = c at *
  revert h1
  cases a <;> cases b <;> cases c <;> decide
theorem and_self_not (p m : BitVec 64) : p &&& ~~~ (m ||| p) = 0#64 := and_lsb fun i hi => by
  rw [BitVec.getLsbD_or]
  generalize p.getLsbD i = a at *
  generalize m.getLsbD i = b at *
  cases a <;> cases b <;> decide
theorem fold_has (k : Nat) : ∀ (L : List Nat) (x : Int), (k ∈ L ∨ bv (IntKind.u64.wrap (2 ^ k)) &&& ~~~ bv x = 0#64) → bv (IntKind.u64.wrap (2 ^ k)) &&& ~~~ bv (L.foldl orB x) = 0#64
  | [], x, h => by rcases h with h | h; · cases h
                   · exact h
  | j :: L, x, h => by
    refine fold_has k L (orB x j) ?_
    rw [orB_bv, bv_nat]
    rcases h with h | h
    · rcases List.mem_cons.1 h with h | h
      · subst h; exact .inr (and_self_not _ _)
      · exact .inl h
    · exact .inr (and_more _ _ _ h)
theorem mask_has {L : List Nat} {k : Nat} (h : k ∈ L) : bv (IntKind.u64.wrap (2 ^ k)) &&& ~~~ bv (maskOf L) = 0#64 := fold_has k L 0 (.inl h)
theorem or_in {x : Int} {L : List Nat} {k : Nat} (h : (bits .andNot .u64 x (maskOf L) == 0) = true) (hk : k ∈ L) : (bits .andNot .u64 (orB x k) (maskOf L) == 0) = true := by
  rw [andNot_zero] at h ⊢
  rw [orB_bv, bv_nat]
  exact and_or _ _ _ h (mask_has hk)
theorem orB_bd (x : Int) (k : Nat) : 0 ≤ orB x k ∧ orB x k < 18446744073709551616 := by
  rw [orB_bv]
  have := (bv x ||| bv (IntKind.u64.wrap (2 ^ k))).isLt
  simp only [Nat.reducePow] at this
  omega
/-! ### A ground that is being drawn: up to cell k. -/
structure Drawn (W H : Int) (k : Nat) (G : Gr) : Prop where
  wide : G.wide = W
  high : G.high = H
  con : ∀ i, i < 64 → G.con i = 0 ∨ (isC G i = true ∧ ∃ x, x < 12 ∧ G.con i = conOf x)
  gai : ∀ i, i < 64 → G.gai i = 0 ∨ (isC G i = true ∧ ∃ x, x < 65 ∧ G.gai i = fewOf x)
  hea : ∀ i, i < 64 → (isC G i = false → G.hea i = 0) ∧ (i < k → isC G i = true → ∃ x, x < 65 ∧ G.hea i = headOf x)
  fix : (0 ≤ G.fix ∧ G.fix < 18446744073709551616) ∧ (bits .andNot .u64 G.fix (maskOf (cellsTo G 64)) == 0) = true
theorem upd_same (f : Nat → Nat) (k x : Nat) : upd f k x k = x := by unfold upd; rw [if_pos rfl]
theorem upd_ne (f : Nat → Nat) (k x i : Nat) (h : i ≠ k) : upd f k x i = f i := by unfold upd; rw [if_neg h]
section
variable {W H : Int} {k : Nat} {G : Gr}
theorem Drawn.skip (h : Drawn W H k G) (hc : isC G k = false) : Drawn W H (k + 1) G :=
  { h with hea := fun i hi => ⟨(h.hea i hi).1, fun hk hc' => (h.hea i hi).2 (by
      by_cases e : i = k
      · subst e; rw [hc] at hc'; cases hc'
      · omega) hc'⟩ }
theorem Drawn.setC (h : Drawn W H k G) (j c : Nat) (hj : isC G j = true) (hc : c = 0 ∨ ∃ x, x < 12 ∧ c = conOf x) : Drawn W H k { G with con := upd G.con j c } :=
  { wide := h.wide, high := h.high, gai := h.gai, hea := h.hea, fix := h.fix,
    con := fun i hi => by
      show upd G.con j c i = 0 ∨ (isC G i = true ∧ ∃ x, x < 12 ∧ upd G.con j c i = conOf x)
      by_cases e : i = j
      · subst e; rw [upd_same]
        rcases hc with hc | hc
        · exact .inl hc
        · exact .inr ⟨hj, hc⟩
      · rw [upd_ne _ _ _ _ e]; exact h.con i hi }
theorem Drawn.setG (h : Drawn W H k G) (j c : Nat) (hj : isC G j = true) (hc : ∃ x, x < 65 ∧ c = fewOf x) : Drawn W H k { G with gai := upd G.gai j c } :=
  { wide := h.wide, high := h.high, con := h.con, hea := h.hea, fix := h.fix,
    gai := fun i hi => by
      show upd G.gai j c i = 0 ∨ (isC G i = true ∧ ∃ x, x < 65 ∧ upd G.gai j c i = fewOf x)
      by_cases e : i = j
      · subst e; rw [upd_same]; exact .inr ⟨hj, hc⟩
      · rw [upd_ne _ _ _ _ e]; exact h.gai i hi }
theorem Drawn.setH (h : Drawn W H k G) (c : Nat) (hk : isC G k = true) (hc : ∃ x, x < 65 ∧ c = headOf x) : Drawn W H (k + 1) { G with hea := upd G.hea k c } :=
  { wide := h.wide, high := h.high, con := h.con, gai := h.gai, fix := h.fix,
    hea := fun i hi => by
      show (isC G i = false → upd G.hea k c i = 0) ∧ (i < k + 1 → isC G i = true → ∃ x, x < 65 ∧ upd G.hea k c i = headOf x)
      by_cases e : i = k
      · subst e; rw [upd_same]; exact ⟨(fun h0 => by rw [hk] at h0; cases h0), fun _ _ => hc⟩
      · rw [upd_ne _ _ _ _ e]; exact ⟨(h.hea i hi).1, fun hi' => (h.hea i hi).2 (by omega)⟩ }
theorem Drawn.setF (h : Drawn W H k G) (j : Nat) (hj : j < 64) (hc : isC G j = true) : Drawn W H k { G with fix := orB G.fix j } :=
  { wide := h.wide, high := h.high, con := h.con, gai := h.gai, hea := h.hea,
    fix := ⟨orB_bd _ _, or_in h.fix.2 (cellsTo_mem.2 ⟨hj, hc⟩)⟩ }
theorem Drawn.ok (h : Drawn W H k G) (hW : 2 ≤ W ∧ W ≤ 4) (hH : 2 ≤ H ∧ H ≤ 4) : G.ok := ⟨by rw [h.wide]; omega, by rw [h.high]; omega, h.fix.1⟩
end
/-- A drawn ground. -/
structure IsDrawn (G : Gr) : Prop where
  ok : G.ok
  valid : validG G = true
  hea : ∀ i, i < 64 → isC G i = true → ∃ x, x < 65 ∧ G.hea i = headOf x
  small : G.wide ≤ 4 ∧ G.high ≤ 4
  con : ∀ i, i < 64 → G.con i = 0 ∨ (isC G i = true ∧ ∃ x, x < 12 ∧ G.con i = conOf x)
  gai : ∀ i, i < 64 → G.gai i = 0 ∨ (isC G i = true ∧ ∃ x, x < 65 ∧ G.gai i = fewOf x)
  off : ∀ i, i < 64 → isC G i = false → G.hea i = 0
theorem field_of {q : Nat → Bool} {G : Gr} {f : Nat → Nat} (h : ∀ i, i < 64 → (isC G i = true → q (f i) = true) ∧ (isC G i = false → f i = 0)) : fieldIs q G f = true := by
  unfold fieldIs
  rw [Bool.not_eq_true', anyTo_false]
  intro i hi
  unfold badAt
  obtain ⟨h1, h2⟩ := h i hi
  cases hc : isC G i
  · rw [if_neg (by decide), h2 hc]; kernel_rfl
  · rw [if_pos rfl, h1 hc]; rfl
theorem amount_zero : amount 0 = true := by kernel_rfl
theorem plain_zero : plain 0 = true := by kernel_rfl
theorem Drawn.done {W H : Int} {G : Gr} (h : Drawn W H 64 G) (hW : 2 ≤ W ∧ W ≤ 4) (hH : 2 ≤ H ∧ H ≤ 4) (hf : (G.fix == 0) = false) : IsDrawn G := by
  refine ⟨h.ok hW hH, ?_, fun i hi => (h.hea i hi).2 hi, by rw [h.wide, h.high]; omega, h.con, h.gai, fun i hi hc => (h.hea i hi).1 hc⟩
  unfold validG
  have e1 : (decide (2 ≤ G.wide) && decide (G.wide ≤ 8)) = true := by rw [h.wide]; simp; omega
  have e2 : (decide (2 ≤ G.high) && decide (G.high ≤ 8)) = true := by rw [h.high]; simp; omega
  have e3 : fieldIs amount G G.con = true := field_of fun i hi => by
    rcases h.con i hi with h0 | ⟨hc, x, hx, h0⟩
    · rw [h0]; exact ⟨fun _ => amount_zero, fun _ => rfl⟩
    · rw [h0]; exact ⟨fun _ => (con_all x hx).2, fun hn => by rw [hc] at hn; cases hn⟩
  have e4 : fieldIs plain G G.gai = true := field_of fun i hi => by
    rcases h.gai i hi with h0 | ⟨hc, x, hx, h0⟩
    · rw [h0]; exact ⟨fun _ => plain_zero, fun _ => rfl⟩
    · rw [h0]; exact ⟨fun _ => (few_all x hx).2.2.1, fun hn => by rw [hc] at hn; cases hn⟩
  have e5 : fieldIs plain G G.hea = true := field_of fun i hi => ⟨fun hc => by
    obtain ⟨x, hx, h0⟩ := (h.hea i hi).2 hi hc
    rw [h0]; exact (few_all x hx).2.2.2, (h.hea i hi).1⟩
  have e6 : fixOk G = true := by
    unfold fixOk
    have : (G.fix != 0) = true := by unfold bne; rw [hf]; rfl
    rw [this, h.fix.2]; rfl
  rw [e1, e2, e3, e4, e5, e6]; rfl
end Go.Proofs.YtdnnjahdcabdmaaGreatDoor
/- Differences of single precision: less nothing, and of two numbers in order. Plain laws on words; no statement is proved here. -/
namespace Go.Proofs.YtdnnjahdcabdmaaGreatDoor
open Ieee
set_option linter.unusedVariables false
set_option linter.unusedSimpArgs false

theorem sg_natAbs32 (s : Bool) (n : Nat) : (sg s n).natAbs = n := by unfold sg; cases s <;> simp
theorem word_sgl (x : Nat) (h : x < 4294967296) : single.word (x / 2147483648 % 2 == 1) (x % 2147483648) = x := by
  obtain ⟨hb, hi, hl, hs, hf⟩ := single_facts
  unfold Format.word
  rw [hs]
  by_cases h1 : x < 2147483648
  · rw [show (x / 2147483648 % 2 == 1) = false by rw [Nat.div_eq_of_lt h1]; rfl]
    simp only [Bool.false_eq_true, if_false]; omega
  · rw [show (x / 2147483648 % 2 == 1) = true by rw [show x / 2147483648 = 1 by omega]; rfl]
    simp only [if_true]; omega
/-- A number that is finite, read. -/
theorem fin_read {x : Nat} (h : x % 2147483648 < 2139095040) : ∃ (m k : Nat), single.read x = .number (x / 2147483648 % 2 == 1) m (-149 + (k : Int)) ∧ m < 16777216 ∧ k ≤ 253 := by
  obtain ⟨hb, hi, hl, hs, hf⟩ := single_facts
  unfold Format.read
  simp only [hs, hb, hi, hl]
  generalize x % 2147483648 = r at *
  by_cases h1 : r < 8388608
  · rw [if_pos h1]; exact ⟨r, 0, by simp, by omega, by omega⟩
  · rw [if_neg h1, if_pos h]; exact ⟨_, _, rfl, by omega, by omega⟩
theorem fin_of_num {x : Nat} {s : Bool} {m : Nat} {e : Int} (h : single.read x = .number s m e) : x % 2147483648 < 2139095040 := by
  obtain ⟨hb, hi, hl, hs, hf⟩ := single_facts
  unfold Format.read at h
  simp only [hs, hb, hi, hl] at h
  generalize x % 2147483648 = r at *
  by_cases h1 : r < 8388608
  · omega
  · by_cases h2 : r < 2139095040
    · exact h2
    · simp only [h1, h2, if_false] at h
      split at h <;> cases h
theorem finF_num {x : Nat} (h : x % 2147483648 < 2139095040) : isN .f32 x = false := by
  obtain ⟨m, k, h1, _⟩ := fin_read h
  show (single.read x).isNaN = false
  rw [h1]; rfl
theorem plain_fin {x : Nat} (h : plain x = true) : x % 2147483648 < 2139095040 := by
  obtain ⟨s, m, k, h1, _⟩ := plain_form h
  exact fin_of_num h1
/-- Less nothing. -/
theorem sub_zeroF {x : Nat} (h : x < 4294967296) (hf : x % 2147483648 < 2139095040) : fop .sub x 0 = x := by
  obtain ⟨m, k, h1, h2, h3⟩ := fin_read hf
  have hr0 : single.read 0 = .number false 0 (-149) := by decide
  have hw := nearest_word single (by decide) x (x / 2147483648 % 2 == 1) (x / 2147483648 % 2 == 1) m (-149 + (k : Int)) k h1
  have hs : single.signWeight = 2147483648 := single_facts.2.2.2.1
  have hk : (-149 + (k : Int) - (k : Int)) = -149 := by omega
  rw [hk, hs, word_sgl x h] at hw
  have hb : floatBits .sub .f32 x 0 = some x := by
    show ((single.read x).sum (single.read 0).opposite).map single.write = some x
    rw [h1, hr0]
    generalize (x / 2147483648 % 2 == 1) = s at *
    simp only [Datum.opposite, Datum.sum, Option.map_some, Bool.not_false]
    rw [show min (-149 + (k : Int)) (-149) = -149 by omega, show (-149 + (k : Int) - -149).toNat = k by omega, show ((-149 : Int) - -149).toNat = 0 by omega, signed_sg, signed_sg]
    have h0 : sg true (0 * 2 ^ 0) = 0 := by decide
    rw [h0, Int.add_zero, sg_natAbs32]
    show some (single.nearest (if sg s (m * 2 ^ k) = 0 then s && true else decide (sg s (m * 2 ^ k) < 0)) (m * 2 ^ k) (-149)) = some x
    congr 1
    rw [← hw, Nat.shiftLeft_eq]
    congr 1
    rw [Bool.and_true]
    split
    · rfl
    · rename_i hne
      generalize m * 2 ^ k = V at hne ⊢
      unfold sg at hne ⊢
      cases s
      · simp only [Bool.false_eq_true, if_false] at hne ⊢; exact decide_eq_false (by omega)
      · simp only [if_true] at hne ⊢; exact decide_eq_true (by omega)
  unfold fop
  rw [hb, Option.getD_some]
  exact cnk_of_not (finF_num hf)
theorem word_plus (r : Nat) : single.word false r = r := by unfold Format.word; simp
theorem rung_pos {x t K : Nat} (hn : x = single.word false (min (t * 8388608 + K) 2139095040)) (h : 1 ≤ t ∨ 1 ≤ K) : ∃ R, x = R ∧ 1 ≤ R ∧ R ≤ 2139095040 := by
  rw [word_plus] at hn
  refine ⟨_, hn, ?_, Nat.min_le_right _ _⟩
  refine Nat.le_min.2 ⟨?_, by decide⟩
  rcases h with h | h
  · have := Nat.mul_le_mul_right 8388608 h; omega
  · omega
/-- A number less a smaller one is more than nothing. -/
theorem sub_posF {a b : Nat} (ha : a % 2147483648 < 2139095040) (hb : b % 2147483648 < 2139095040) (h : flt a b = true) : fgt (fop .sub b a) 0 = true := by
  obtain ⟨m, k, h1, _, _⟩ := fin_read ha
  obtain ⟨n, l, h2, _, _⟩ := fin_read hb
  generalize (a / 2147483648 % 2 == 1) = s at *
  generalize (b / 2147483648 % 2 == 1) = t at *
  have va := val_num h1
  have vb := val_num h2
  obtain ⟨u, hu⟩ : ∃ u, u = min l k := ⟨_, rfl⟩
  obtain ⟨D, hD⟩ : ∃ D, D = sg t (n * 2 ^ (l - u)) + sg (!s) (m * 2 ^ (k - u)) := ⟨_, rfl⟩
  have hDp : 0 < D := by
    have ho : single.order a b = some (compare (sg s (m * 2 ^ k)) (sg t (n * 2 ^ l))) := order_val va vb
    unfold flt at h
    rw [show FloatKind.f32.format.order a b = single.order a b from rfl, ho, cmp_int] at h
    have hlt : sg s (m * 2 ^ k) < sg t (n * 2 ^ l) := by
      by_cases q : sg s (m * 2 ^ k) < sg t (n * 2 ^ l)
      · exact q
      · rw [if_neg q] at h
        split at h <;> cases h
    have eD : D * (2 ^ u : Nat) = sg t (n * 2 ^ l) - sg s (m * 2 ^ k) := by
      rw [hD, Int.add_mul, ← sg_mul, ← sg_mul, Nat.mul_assoc, Nat.mul_assoc, ← Nat.pow_add, ← Nat.pow_add, Nat.sub_add_cancel (by omega), Nat.sub_add_cancel (by omega)]
      have : sg (!s) (m * 2 ^ k) = - sg s (m * 2 ^ k) := by unfold sg; cases s <;> simp
      rw [this]; omega
    have hp : (0 : Int) < D * (2 ^ u : Nat) := by rw [eD]; omega
    have h2u : (0 : Int) < ((2 ^ u : Nat) : Int) := by have := Nat.two_pow_pos u; omega
    by_cases q : 0 < D
    · exact q
    · have := Int.mul_le_mul_of_nonneg_right (show D ≤ 0 by omega) (Int.le_of_lt h2u)
      omega
  obtain ⟨M, rfl⟩ : ∃ M : Nat, D = (M : Int) := ⟨D.toNat, by omega⟩
  have hM0 : M ≠ 0 := by omega
  obtain ⟨hbn, hi, hl, hs, hf⟩ := single_facts
  obtain ⟨last, hlast⟩ : ∃ last, max (-149 + (u : Int) + M.log2 - single.fractionBits) single.leastPlace = last := ⟨_, rfl⟩
  have hn := nearest_of single false M (-149 + (u : Int)) last _ hM0 hlast rfl
  rw [hf, hl] at hlast
  obtain ⟨K, hK⟩ : ∃ K, Toward.even.cut false (M <<< ((-149 + (u : Int)) - last).toNat) (last - (-149 + (u : Int))).toNat = K := ⟨_, rfl⟩
  rw [hK, hbn, hi, hl] at hn
  have hpos : 1 ≤ (last - -149).toNat ∨ 1 ≤ K := by
    by_cases q : last = -149
    · right
      rw [← hK, q, show (-149 - (-149 + (u : Int))).toNat = 0 by omega]
      have := cut_shl false (M <<< ((-149 + (u : Int)) - -149).toNat) 0
      rw [Nat.shiftLeft_zero] at this
      rw [this, Nat.shiftLeft_eq]
      exact Nat.mul_pos (by omega) (Nat.two_pow_pos _)
    · left; omega
  have hR : ∃ R, single.nearest false M (-149 + (u : Int)) = R ∧ 1 ≤ R ∧ R ≤ 2139095040 := rung_pos hn hpos
  obtain ⟨R, e1, e2, e3⟩ := hR
  have hbits : floatBits .sub .f32 b a = some R := by
    show ((single.read b).sum (single.read a).opposite).map single.write = some R
    rw [h1, h2]
    simp only [Datum.opposite, Datum.sum, Option.map_some]
    rw [show min (-149 + (l : Int)) (-149 + (k : Int)) = -149 + (u : Int) by omega, show (-149 + (l : Int) - (-149 + (u : Int))).toNat = l - u by omega, show (-149 + (k : Int) - (-149 + (u : Int))).toNat = k - u by omega, signed_sg, signed_sg, ← hD]
    show some (single.nearest (if (M : Int) = 0 then t && !s else decide ((M : Int) < 0)) (M : Int).natAbs (-149 + (u : Int))) = some R
    rw [if_neg (by omega), decide_eq_false (by omega), Int.natAbs_natCast, e1]
  unfold fop
  rw [hbits, Option.getD_some]
  have hr0 : single.read 0 = .number false 0 (-149) := by decide
  have hrR : ∃ d, single.read R = d ∧ (d = .infinity false ∨ ∃ m' e' : Nat, d = .number false m' (-149 + (e' : Int)) ∧ 0 < m' * 2 ^ e') := by
    have hw := read_word single false R (by rw [hs]; omega)
    have hwR : single.word false R = R := word_plus R
    rw [hwR, hbn, hi, hl] at hw
    refine ⟨_, hw, ?_⟩
    by_cases q1 : R < 8388608
    · rw [if_pos q1]; exact .inr ⟨R, 0, by simp, by simp; omega⟩
    · by_cases q2 : R < 2139095040
      · rw [if_neg q1, if_pos q2]; exact .inr ⟨_, _, rfl, Nat.mul_pos (by omega) (Nat.two_pow_pos _)⟩
      · rw [if_neg q1, if_neg q2, if_pos (by omega)]; exact .inl rfl
  obtain ⟨d, hd, hcase⟩ := hrR
  have hnn : isN .f32 R = false := by
    show (single.read R).isNaN = false
    rw [hd]
    rcases hcase with rfl | ⟨m', e', rfl, _⟩ <;> rfl
  rw [show cn R = R from cnk_of_not hnn]
  unfold fgt
  show (single.order R 0 == some .gt) = true
  unfold Format.order
  rw [hd, hr0]
  rcases hcase with rfl | ⟨m', e', rfl, hpos⟩
  · rfl
  · simp only [Datum.order]
    rw [show min (-149 + (e' : Int)) (-149) = -149 by omega, show (-149 + (e' : Int) - -149).toNat = e' by omega, show ((-149 : Int) - -149).toNat = 0 by omega, signed_sg, signed_sg]
    rw [show sg false (0 * 2 ^ 0) = 0 by decide, show sg false (m' * 2 ^ e') = ((m' * 2 ^ e' : Nat) : Int) from rfl, cmp_int, if_neg (by omega), if_neg (by omega)]
    rfl
end Go.Proofs.YtdnnjahdcabdmaaGreatDoor
