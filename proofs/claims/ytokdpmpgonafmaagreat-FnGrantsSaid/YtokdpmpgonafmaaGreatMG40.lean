import Derived.Test.YtokdpmpgonafmaaGreatMG39
import Derived.Maps.Range
/- Grounds that the reference draws (l01Drawn, A2Ground): all are valid. -/
namespace Go.Proofs.YtokdpmpgonafmaaGreat
open Go.ChangeShapes Go.WideShapes Go.ChangeAt Go.RowKit
set_option linter.unusedVariables false
set_option linter.unusedSimpArgs false

/-! ### Bits among bits. -/
def bv (z : Int) : BitVec 64 := BitVec.ofInt 64 z
theorem bv_nat (x : BitVec 64) : bv (x.toNat : Int) = x := by unfold bv; simp
theorem bits_eq (op : BinOp) (f : BitVec 64 → BitVec 64 → BitVec 64) (a b : Int) (h : bits op .u64 a b = IntKind.u64.wrap ((f (bv a) (bv b)).toNat : Int)) : bits op .u64 a b = ((f (bv a) (bv b)).toNat : Int) := by
  rw [h, IntKind.wrap_u64]
  have := (f (bv a) (bv b)).isLt
  simp only [Nat.reducePow] at this
  omega
theorem orB_bv (x : Int) (k : Nat) : orB x k = ((bv x ||| bv (IntKind.u64.wrap (2 ^ k))).toNat : Int) := by
  unfold orB; exact bits_eq .or (· ||| ·) _ _ rfl
theorem andNot_bv (x y : Int) : bits .andNot .u64 x y = ((bv x &&& ~~~ bv y).toNat : Int) := bits_eq .andNot (fun x y => x &&& ~~~ y) _ _ rfl
theorem andNot_zero {x y : Int} : (bits .andNot .u64 x y == 0) = true ↔ bv x &&& ~~~ bv y = 0#64 := by
  rw [andNot_bv, beq_iff_eq]
  constructor
  · intro h; apply BitVec.eq_of_toNat_eq; simp only [BitVec.toNat_ofNat]; omega
  · intro h; rw [h]; rfl
theorem lsb_and {x m : BitVec 64} (h : x &&& ~~~ m = 0#64) (i : Nat) (hi : i < 64) : (x.getLsbD i && !m.getLsbD i) = false := by
  have h1 : (x &&& ~~~ m).getLsbD i = (0#64).getLsbD i := by rw [h]
  rw [BitVec.getLsbD_and, BitVec.getLsbD_not, decide_eq_true hi, Bool.true_and, BitVec.getLsbD_zero] at h1
  exact h1
theorem and_lsb {x m : BitVec 64} (h : ∀ i, i < 64 → (x.getLsbD i && !m.getLsbD i) = false) : x &&& ~~~ m = 0#64 := by
  apply BitVec.eq_of_getLsbD_eq
  intro i hi
  rw [BitVec.getLsbD_and, BitVec.getLsbD_not, decide_eq_true hi, Bool.true_and, BitVec.getLsbD_zero]
  exact h i hi
theorem and_or (x p m : BitVec 64) (h : x &&& ~~~ m = 0#64) (h' : p &&& ~~~ m = 0#64) : (x ||| p) &&& ~~~ m = 0#64 := and_lsb fun i hi => by
  have h1 := lsb_and h i hi
  have h2 := lsb_and h' i hi
  rw [BitVec.getLsbD_or]
  generalize x.getLsbD i = a at *
  generalize p.getLsbD i = b at *
  generalize m.getLsbD i = c at *
  revert h1 h2
  cases a <;> cases b <;> cases c <;> decide
theorem and_more (p m q : BitVec 64) (h : p &&& ~~~ m = 0#64) : p &&& ~~~ (m ||| q) = 0#64 := and_lsb fun i hi => by
  have h1 := lsb_and h i hi
  rw [BitVec.getLsbD_or]
  generalize p.getLsbD i = a at *
  generalize m.getLsbD i = b at *
  generalize q.getLsbD i = c at *
  revert h1
  cases a <;> cases b <;> cases c <;> decide
theorem and_self_not (p m : BitVec 64) : p &&& ~~~ (m ||| p) = 0#64 := and_lsb fun i hi => by
  rw [BitVec.getLsbD_or]
  generalize p.getLsbD i = a at *
  generalize m.getLsbD i = b at *
  cases a <;> cases b <;> decide
theorem fold_has (k : Nat) : ∀ (L : List Nat) (x : Int), (k ∈ L ∨ bv (IntKind.u64.wrap (2 ^ k)) &&& ~~~ bv x = 0#64) → bv (IntKind.u64.wrap (2 ^ k)) &&& ~~~ bv (L.foldl orB x) = 0#64
  | [], x, h => by rcases h with h | h; · cases h
                   · exact h
  | j :: L, x, h => by
    refine fold_has k L (orB x j) ?_
    rw [orB_bv, bv_nat]
    rcases h with h | h
    · rcases List.mem_cons.1 h with h | h
      · subst h; exact .inr (and_self_not _ _)
      · exact .inl h
    · exact .inr (and_more _ _ _ h)
theorem mask_has {L : List Nat} {k : Nat} (h : k ∈ L) : bv (IntKind.u64.wrap (2 ^ k)) &&& ~~~ bv (maskOf L) = 0#64 := fold_has k L 0 (.inl h)
theorem or_in {x : Int} {L : List Nat} {k : Nat} (h : (bits .andNot .u64 x (maskOf L) == 0) = true) (hk : k ∈ L) : (bits .andNot .u64 (orB x k) (maskOf L) == 0) = true := by
  rw [andNot_zero] at h ⊢
  rw [orB_bv, bv_nat]
  exact and_or _ _ _ h (mask_has hk)
theorem orB_bd (x : Int) (k : Nat) : 0 ≤ orB x k ∧ orB x k < 18446744073709551616 := by
  rw [orB_bv]
  have := (bv x ||| bv (IntKind.u64.wrap (2 ^ k))).isLt
  simp only [Nat.reducePow] at this
  omega
/-! ### A ground that is being drawn: up to cell k. -/
structure Drawn (W H : Int) (k : Nat) (G : Gr) : Prop where
  wide : G.wide = W
  high : G.high = H
  con : ∀ i, i < 64 → G.con i = 0 ∨ (isC G i = true ∧ ∃ x, x < 12 ∧ G.con i = conOf x)
  gai : ∀ i, i < 64 → G.gai i = 0 ∨ (isC G i = true ∧ ∃ x, x < 65 ∧ G.gai i = fewOf x)
  hea : ∀ i, i < 64 → (isC G i = false → G.hea i = 0) ∧ (i < k → isC G i = true → ∃ x, x < 65 ∧ G.hea i = headOf x)
  fix : (0 ≤ G.fix ∧ G.fix < 18446744073709551616) ∧ (bits .andNot .u64 G.fix (maskOf (cellsTo G 64)) == 0) = true
theorem upd_same (f : Nat → Nat) (k x : Nat) : upd f k x k = x := by unfold upd; rw [if_pos rfl]
theorem upd_ne (f : Nat → Nat) (k x i : Nat) (h : i ≠ k) : upd f k x i = f i := by unfold upd; rw [if_neg h]
section
variable {W H : Int} {k : Nat} {G : Gr}
theorem Drawn.skip (h : Drawn W H k G) (hc : isC G k = false) : Drawn W H (k + 1) G :=
  { h with hea := fun i hi => ⟨(h.hea i hi).1, fun hk hc' => (h.hea i hi).2 (by
      by_cases e : i = k
      · subst e; rw [hc] at hc'; cases hc'
      · omega) hc'⟩ }
theorem Drawn.setC (h : Drawn W H k G) (j c : Nat) (hj : isC G j = true) (hc : c = 0 ∨ ∃ x, x < 12 ∧ c = conOf x) : Drawn W H k { G with con := upd G.con j c } :=
  { wide := h.wide, high := h.high, gai := h.gai, hea := h.hea, fix := h.fix,
    con := fun i hi => by
      show upd G.con j c i = 0 ∨ (isC G i = true ∧ ∃ x, x < 12 ∧ upd G.con j c i = conOf x)
      by_cases e : i = j
      · subst e; rw [upd_same]
        rcases hc with hc | hc
        · exact .inl hc
        · exact .inr ⟨hj, hc⟩
      · rw [upd_ne _ _ _ _ e]; exact h.con i hi }
theorem Drawn.setG (h : Drawn W H k G) (j c : Nat) (hj : isC G j = true) (hc : ∃ x, x < 65 ∧ c = fewOf x) : Drawn W H k { G with gai := upd G.gai j c } :=
  { wide := h.wide, high := h.high, con := h.con, hea := h.hea, fix := h.fix,
    gai := fun i hi => by
      show upd G.gai j c i = 0 ∨ (isC G i = true ∧ ∃ x, x < 65 ∧ upd G.gai j c i = fewOf x)
      by_cases e : i = j
      · subst e; rw [upd_same]; exact .inr ⟨hj, hc⟩
      · rw [upd_ne _ _ _ _ e]; exact h.gai i hi }
theorem Drawn.setH (h : Drawn W H k G) (c : Nat) (hk : isC G k = true) (hc : ∃ x, x < 65 ∧ c = headOf x) : Drawn W H (k + 1) { G with hea := upd G.hea k c } :=
  { wide := h.wide, high := h.high, con := h.con, gai := h.gai, fix := h.fix,
    hea := fun i hi => by
      show (isC G i = false → upd G.hea k c i = 0) ∧ (i < k + 1 → isC G i = true → ∃ x, x < 65 ∧ upd G.hea k c i = headOf x)
      by_cases e : i = k
      · subst e; rw [upd_same]; exact ⟨(fun h0 => by rw [hk] at h0; cases h0), fun _ _ => hc⟩
      · rw [upd_ne _ _ _ _ e]; exact ⟨(h.hea i hi).1, fun hi' => (h.hea i hi).2 (by omega)⟩ }
theorem Drawn.setF (h : Drawn W H k G) (j : Nat) (hj : j < 64) (hc : isC G j = true) : Drawn W H k { G with fix := orB G.fix j } :=
  { wide := h.wide, high := h.high, con := h.con, gai := h.gai, hea := h.hea,
    fix := ⟨orB_bd _ _, or_in h.fix.2 (cellsTo_mem.2 ⟨hj, hc⟩)⟩ }
theorem Drawn.ok (h : Drawn W H k G) (hW : 2 ≤ W ∧ W ≤ 4) (hH : 2 ≤ H ∧ H ≤ 4) : G.ok := ⟨by rw [h.wide]; omega, by rw [h.high]; omega, h.fix.1⟩
end
/-- A drawn ground. -/
structure IsDrawn (G : Gr) : Prop where
  ok : G.ok
  valid : validG G = true
  hea : ∀ i, i < 64 → isC G i = true → ∃ x, x < 65 ∧ G.hea i = headOf x
  small : G.wide ≤ 4 ∧ G.high ≤ 4
theorem field_of {q : Nat → Bool} {G : Gr} {f : Nat → Nat} (h : ∀ i, i < 64 → (isC G i = true → q (f i) = true) ∧ (isC G i = false → f i = 0)) : fieldIs q G f = true := by
  unfold fieldIs
  rw [Bool.not_eq_true', anyTo_false]
  intro i hi
  unfold badAt
  obtain ⟨h1, h2⟩ := h i hi
  cases hc : isC G i
  · rw [if_neg (by decide), h2 hc]; kernel_rfl
  · rw [if_pos rfl, h1 hc]; rfl
theorem amount_zero : amount 0 = true := by kernel_rfl
theorem plain_zero : plain 0 = true := by kernel_rfl
theorem Drawn.done {W H : Int} {G : Gr} (h : Drawn W H 64 G) (hW : 2 ≤ W ∧ W ≤ 4) (hH : 2 ≤ H ∧ H ≤ 4) (hf : (G.fix == 0) = false) : IsDrawn G := by
  refine ⟨h.ok hW hH, ?_, fun i hi => (h.hea i hi).2 hi, by rw [h.wide, h.high]; omega⟩
  unfold validG
  have e1 : (decide (2 ≤ G.wide) && decide (G.wide ≤ 8)) = true := by rw [h.wide]; simp; omega
  have e2 : (decide (2 ≤ G.high) && decide (G.high ≤ 8)) = true := by rw [h.high]; simp; omega
  have e3 : fieldIs amount G G.con = true := field_of fun i hi => by
    rcases h.con i hi with h0 | ⟨hc, x, hx, h0⟩
    · rw [h0]; exact ⟨fun _ => amount_zero, fun _ => rfl⟩
    · rw [h0]; exact ⟨fun _ => (con_all x hx).2, fun hn => by rw [hc] at hn; cases hn⟩
  have e4 : fieldIs plain G G.gai = true := field_of fun i hi => by
    rcases h.gai i hi with h0 | ⟨hc, x, hx, h0⟩
    · rw [h0]; exact ⟨fun _ => plain_zero, fun _ => rfl⟩
    · rw [h0]; exact ⟨fun _ => (few_all x hx).2.2.1, fun hn => by rw [hc] at hn; cases hn⟩
  have e5 : fieldIs plain G G.hea = true := field_of fun i hi => ⟨fun hc => by
    obtain ⟨x, hx, h0⟩ := (h.hea i hi).2 hi hc
    rw [h0]; exact (few_all x hx).2.2.2, (h.hea i hi).1⟩
  have e6 : fixOk G = true := by
    unfold fixOk
    have : (G.fix != 0) = true := by unfold bne; rw [hf]; rfl
    rw [this, h.fix.2]; rfl
  rw [e1, e2, e3, e4, e5, e6]; rfl
end Go.Proofs.YtokdpmpgonafmaaGreat
