import Derived.Test.YtmmfnklnmdhkiaaGreatMU23
import Derived.Test.YtmmfnklnmdhkiaaGreatMU04
import Derived.IntWalk
import Derived.OwnWalk
import Derived.Deep.Strs
import Derived.Test.YtmmfnklnmdhkiaaGreatMU06
import Derived.Test.YtmmfnklnmdhkiaaGreatMU15
/- The ground with permits: the walks through the program's function and the reference's. -/
namespace Go.Proofs.YtmmfnklnmdhkiaaGreat
open Go.ChangeShapes Go.WideShapes Go.ChangeAt Go.RowKit
set_option linter.unusedVariables false
set_option linter.unusedSimpArgs false
attribute [local irreducible] Calls

theorem Gr.setG (g : Gr) (k b : Nat) (hk : k < 64) : g.cells.setIfInBounds (66 + k) (.float .f32 b) = ({ g with gai := upd g.gai k b } : Gr).cells := by
  refine Gr.cells_of _ (by simp [g.size]) fun i hi => ?_
  rw [Array.getElem?_setIfInBounds]
  by_cases h : 66 + k = i
  · rw [if_pos h, if_pos (by rw [g.size]; omega)]
    subst h
    unfold Gr.at upd
    simp only [show ¬ (66 + k = 0) by omega, show ¬ (66 + k = 1) by omega, show ¬ (66 + k < 66) by omega, show 66 + k < 130 by omega, if_true, if_false, show 66 + k - 66 = k by omega]
  · rw [if_neg h, g.get i hi]
    congr 1
    unfold Gr.at upd
    by_cases i0 : i = 0
    · simp only [i0, if_true]
    · by_cases i1 : i = 1
      · simp only [i1]; rfl
      · by_cases i2 : i < 66
        · simp only [i0, i1, i2, if_true, if_false]
        · by_cases i3 : i < 130
          · simp only [i0, i1, i2, i3, if_true, if_false, show ¬ (i - 66 = k) by omega]
          · simp only [i0, i1, i2, i3, if_false]
def rate4 (r : Int) : Nat := fop .quo (floatOfInt .f32 r) 1082130432
/-- The gain of a cell with a permit. -/
def lessX (G : Gr) (c : Nat) (r : Int) : Nat := fop .sub (G.gai c) (rate4 r)
def lessG (G : Gr) (p : Pm) : Gr := { G with gai := upd G.gai p.cel.toNat (lessX G p.cel.toNat p.rat) }
theorem isN_fieldG {G : Gr} {f : Nat → Nat} {c x : Nat} (h : fieldIs plain G f = true) (hc : isC G c = true) (hk : c < 64) : fieldIs plain G (upd f c x) = plain x := by
  cases hp : plain x
  · cases hf : fieldIs plain G (upd f c x)
    · rfl
    · have := (fieldIs_at hf c hk).1 hc
      unfold upd at this
      rw [if_pos rfl, hp] at this
      cases this
  · unfold fieldIs
    rw [anyTo_false.2]
    · rfl
    intro i hi
    have hh := fieldIs_at h i hi
    unfold badAt upd
    by_cases hic : i = c
    · subst hic; simp [hc, hp]
    · simp only [hic, if_false]
      cases hci : isC G i
      · simp [hh.2 hci]
      · simp [hh.1 hci]
theorem validG_less {G : Gr} {c x : Nat} (h : validG G = true) (hc : isC G c = true) (hk : c < 64) : validG { G with gai := upd G.gai c x } = plain x := by
  obtain ⟨h1, h2, h3, h4, h5, h6⟩ := validG_parts h
  have e3 : fieldIs amount { G with gai := upd G.gai c x } G.con = true := h3
  have e4 : fieldIs plain { G with gai := upd G.gai c x } (upd G.gai c x) = plain x := isN_fieldG h4 hc hk
  have e5 : fieldIs plain { G with gai := upd G.gai c x } G.hea = true := h5
  have e6 : fixOk { G with gai := upd G.gai c x } = true := h6
  unfold validG
  rw [e3, e4, e5, e6]
  simp only [h1.1, h1.2, h2.1, h2.2, decide_true, Bool.and_self, Bool.true_and, Bool.and_true]
/-- What comes of a ground with permits, l permits being left. -/
def withT (Q : Nat → Pm) : Nat → Nat → Gr → Gr × Int
  | 0, _, G => ((settT 981467136 1000 0 G).1, (settT 981467136 1000 0 G).2.2)
  | l + 1, i, G => if validG (lessG G (Q i)) then withT Q l (i + 1) (lessG G (Q i)) else (zeroG, 4)
theorem withT_bad {Q : Nat → Pm} {l i : Nat} {G : Gr} (h : validG (lessG G (Q i)) = false) : withT Q (l + 1) i G = (zeroG, 4) := by simp [withT, h]
theorem withT_on {Q : Nat → Pm} {l i : Nat} {G : Gr} (h : validG (lessG G (Q i)) = true) : withT Q (l + 1) i G = withT Q l (i + 1) (lessG G (Q i)) := by simp [withT, h]
/-- The cells of permits are cells of the ground. -/
def cellsIn (g : Gr) (m : Nat) (Q : Nat → Pm) : Prop := ∀ i, i < m → isCI g (Q i).cel = true
theorem isCI_parts {g : Gr} {k : Int} (h : isCI g k = true) : ∃ c : Nat, k = c ∧ c < 64 ∧ isC g c = true := by
  unfold isCI at h
  simp only [Bool.and_eq_true, decide_eq_true_eq] at h
  exact ⟨k.toNat, by omega, by omega, h.2⟩

end Go.Proofs.YtmmfnklnmdhkiaaGreat
/- GroundWith, in the program and in the reference. -/
namespace Go.Proofs.YtmmfnklnmdhkiaaGreat
open Go.ChangeShapes Go.WideShapes Go.ChangeAt Go.RowKit
set_option linter.unusedVariables false
set_option linter.unusedSimpArgs false
attribute [local irreducible] Calls

theorem validP_use {g : Gr} {n m : Nat} {P : Nat → Wt} {Q : Nat → Pm} (h : validP g n P m Q = true) : validG g = true ∧ validO g n P = true ∧ cellsIn g m Q ∧ m ≤ 6 ∧ ∀ i, i < m → badPG g (Q i) = false := by
  unfold validP at h
  simp only [Bool.and_eq_true, decide_eq_true_eq, Bool.not_eq_true'] at h
  have h0 : validO g n P = true := h.1
  have hv : validG g = true := by unfold validO at h0; exact (Bool.and_eq_true_iff.1 h0).1
  have hb := anyTo_false.1 h.2.2
  refine ⟨hv, h0, fun i hi => ?_, h.2.1, hb⟩
  have := hb i hi
  unfold badPG at this
  simp only [Bool.or_eq_false_iff, Bool.not_eq_false'] at this
  exact this.2.2
def gwT (g : Gr) (n : Nat) (P : Nat → Wt) (m : Nat) (Q : Nat → Pm) : Gr × Int := if validP g n P m Q then withT Q m 0 g else (zeroG, 1)

end Go.Proofs.YtmmfnklnmdhkiaaGreat
/- The first watch that is below its level, and whether permits are kept: the walks. -/
namespace Go.Proofs.YtmmfnklnmdhkiaaGreat
open Go.ChangeShapes Go.WideShapes Go.ChangeAt Go.RowKit
set_option linter.unusedVariables false
set_option linter.unusedSimpArgs false
attribute [local irreducible] Calls

/-- The first index of which q is true, -1 if there is none. -/
def firstI {α : Type} (q : α → Bool) (P : Nat → α) : Nat → Int
  | 0 => -1
  | n + 1 => if 0 ≤ firstI q P n then firstI q P n else if q (P n) then n else -1
theorem firstI_to {α : Type} (q : α → Bool) (P : Nat → α) : ∀ n, firstTo q P n (firstI q P n)
  | 0 => .inl ⟨rfl, fun i hi => by omega⟩
  | n + 1 => by
    have ih := firstI_to q P n
    unfold firstI
    rcases ih with ⟨h1, h2⟩ | ⟨k, h1, h2, h3, h4⟩
    · rw [h1, if_neg (by omega)]
      by_cases hq : q (P n) = true
      · rw [if_pos hq]; exact .inr ⟨n, rfl, by omega, hq, h2⟩
      · rw [if_neg hq]
        exact .inl ⟨rfl, fun i hi => by
          by_cases h : i < n
          · exact h2 i h
          · obtain rfl : i = n := by omega
            simpa using hq⟩
    · rw [h1, if_pos (by omega)]; exact .inr ⟨k, rfl, by omega, h3, h4⟩
theorem firstTo_uniq {α : Type} {q : α → Bool} {P : Nat → α} {n : Nat} {r r' : Int} (h : firstTo q P n r) (h' : firstTo q P n r') : r = r' := by
  rcases h with ⟨h1, h2⟩ | ⟨k, h1, h2, h3, h4⟩ <;> rcases h' with ⟨g1, g2⟩ | ⟨j, g1, g2, g3, g4⟩
  · omega
  · rw [h2 j g2] at g3; cases g3
  · rw [g2 k h2] at h3; cases h3
  · by_cases hkj : k < j
    · rw [g4 k hkj] at h3; cases h3
    · by_cases hjk : j < k
      · rw [h4 j hjk] at g3; cases g3
      · omega
theorem firstTo_eq {α : Type} {q : α → Bool} {P : Nat → α} {n : Nat} {r : Int} (h : firstTo q P n r) : r = firstI q P n := firstTo_uniq h (firstI_to q P n)
theorem firstI_lt {α : Type} (q : α → Bool) (P : Nat → α) (n : Nat) : -1 ≤ firstI q P n ∧ firstI q P n < n := by
  rcases firstI_to q P n with ⟨h1, h2⟩ | ⟨k, h1, h2, h3, h4⟩ <;> omega
/-- Is the head of this watch less than its level? -/
def lowW (G : Gr) (p : Wt) : Bool := flt (G.hea p.cel.toNat) p.lim
/-- The watches lie in cells. -/
def watchIn (n : Nat) (P : Nat → Wt) : Prop := ∀ i, i < n → ∃ c : Nat, (P i).cel = c ∧ c < 64

end Go.Proofs.YtmmfnklnmdhkiaaGreat
/- Whether permits are kept; AreKept: the walks. -/
namespace Go.Proofs.YtmmfnklnmdhkiaaGreat
open Go.ChangeShapes Go.WideShapes Go.ChangeAt Go.RowKit
set_option linter.unusedVariables false
set_option linter.unusedSimpArgs false
attribute [local irreducible] Calls

theorem validO_watch {g : Gr} {n : Nat} {P : Nat → Wt} (h : validO g n P = true) : watchIn n P := fun i hi => by
  unfold validO at h
  simp only [Bool.and_eq_true, decide_eq_true_eq, Bool.not_eq_true'] at h
  have := anyTo_false.1 h.2.2 i hi
  unfold badW at this
  simp only [Bool.or_eq_false_iff, Bool.not_eq_false'] at this
  obtain ⟨c, h1, h2, _⟩ := isCI_parts this.1
  exact ⟨c, h1, h2⟩
def keptB (g : Gr) (n : Nat) (P : Nat → Wt) (m : Nat) (Q : Nat → Pm) : Bool := decide ((withT Q m 0 g).2 = 0) && decide (firstI (lowW (withT Q m 0 g).1) P n < 0)
def akT (g : Gr) (n : Nat) (P : Nat → Wt) (m : Nat) (Q : Nat → Pm) : Bool × Int := if validP g n P m Q then (keptB g n P m Q, 0) else (false, 1)

end Go.Proofs.YtmmfnklnmdhkiaaGreat
/- The permits' rates, scaled; marks that a caller leaves in a list: the walks that FnExactScaledPermits needs. -/
namespace Go.Proofs.YtmmfnklnmdhkiaaGreat
open Go.ChangeShapes Go.WideShapes Go.ChangeAt Go.RowKit
set_option linter.unusedVariables false

theorem Own.setCell {w : World} {g : Nat} {e : TypeId} {s : Nat} {v : Value} {n : Nat} {xs : List Value} (h : Own w g e s v n xs) (j : Nat) (u : Value) : Own (w.setCell ⟨g, j, none⟩ u) g e s v n (xs.set j u) := by
  obtain ⟨h1, cap, cur, rfl, hb, h2, h3, h4, h5⟩ := h
  refine ⟨by simpa using h1, cap, _, rfl, hb.setCell j u, h2, h3, by simpa using h4, ?_⟩
  have hle : n * s ≤ cur.size := by rw [h4]; exact Nat.mul_le_mul_right s h2
  rw [Array.toList_setIfInBounds, ← h5]
  apply List.ext_getElem?
  intro i
  simp only [List.getElem?_take, List.getElem?_set, List.length_take, Array.length_toList]
  by_cases hi : i < n * s
  · by_cases hj : j = i
    · subst hj; simp [hi, show j < cur.size by omega]; omega
    · simp [hi, hj]
  · by_cases hj : j = i
    · subst hj; simp [hi]; omega
    · simp [hi, hj]
theorem own_full {w : World} {g : Nat} {e : TypeId} {s n : Nat} {xs : List Value} (h : Own w g e s (.slice (some ⟨g, 0, none⟩) n n) n xs) : Blk w g xs.toArray e := by
  obtain ⟨h1, cap, cur, hv, hb, h2, h3, h4, h5⟩ := h
  have hc : cap = n := by injection hv with _ _ h; exact h.symm
  subst hc
  rw [← h5, List.take_of_length_le (by simp [h4])]
  exact hb

/-- P with another permit at i. -/
def updP (P : Nat → Pm) (i : Nat) (p : Pm) : Nat → Pm := fun j => if j = i then p else P j
theorem updP_same (P : Nat → Pm) (i : Nat) (p : Pm) : updP P i p i = p := by simp [updP]
theorem updP_other (P : Nat → Pm) (i : Nat) (p : Pm) (j : Nat) (h : j ≠ i) : updP P i p j = P j := by simp [updP, h]
theorem pls_set (n : Nat) (P : Nat → Pm) (i c : Nat) (u : Value) (p : Pm) (hi : i < n) (hc : c < 3) (hp : (P i).cells.toList.set c u = p.cells.toList) : (pls n P).set (i * 3 + c) u = pls n (updP P i p) := by
  apply List.ext_getElem?
  intro j
  by_cases hj : j < n * 3
  · obtain ⟨k, d, hd, rfl⟩ : ∃ k d, d < 3 ∧ j = k * 3 + d := ⟨j / 3, j % 3, Nat.mod_lt _ (by decide), by omega⟩
    have hk : k < n := by omega
    rw [pls_get n _ k d hk hd, List.getElem?_set, pls_length]
    by_cases hki : k = i
    · subst hki
      rw [updP_same]
      have := congrArg (fun l : List Value => l[d]?) hp
      simp only [List.getElem?_set, Array.getElem?_toList, Array.length_toList, Pm.cells_size] at this
      rw [← this]
      by_cases hcd : c = d
      · subst hcd; simp [hc, hj]
      · rw [if_neg (by omega), if_neg hcd, pls_get n P k d hk hd]
    · rw [updP_other P i p k hki, if_neg (by omega), pls_get n P k d hk hd]
  · rw [List.getElem?_eq_none (by simp [pls_length]; omega), List.getElem?_eq_none (by simp [pls_length]; omega)]

/-- Nothing but block g has turned. -/
structure Only (g : Nat) (w w' : World) : Prop where
  os : w'.os = w.os
  tape : w'.tape = w.tape
  output : w'.output = w.output
  size : w'.heap.size = w.heap.size
  block : ∀ b, b ≠ g → w'.heap[b]? = w.heap[b]?
theorem Only.refl (g : Nat) (w : World) : Only g w w := ⟨rfl, rfl, rfl, rfl, fun _ _ => rfl⟩
theorem Only.setCell {g : Nat} {w w' : World} (h : Only g w w') (j : Nat) (u : Value) : Only g w (w'.setCell ⟨g, j, none⟩ u) :=
  ⟨h.os, h.tape, h.output, by rw [← h.size]; simp [World.setCell], fun b hb => (heap_setCell_other w' ⟨g, j, none⟩ b u hb).trans (h.block b hb)⟩
theorem Only.drew {g : Nat} {w w' : World} (h : Only g w w') : Only g w w'.drew := ⟨h.os, h.tape, h.output, h.size, h.block⟩
theorem Only.drewN {g : Nat} {w w' : World} (h : Only g w w') (k : Nat) : Only g w (w'.drewN k) := ⟨h.os, h.tape, h.output, h.size, h.block⟩
theorem below_only {B g : Nat} {w0 w w' : World} (h : Below B w0 w) (ho : Only g w w') (hg : B ≤ g) : Below B w0 w' :=
  ⟨ho.os.trans h.os, ho.tape.trans h.tape, ho.output.trans h.output, by rw [ho.size]; exact h.size, fun b hb => (ho.block b (by omega)).trans (h.block b hb)⟩

/-- The marks that a list's cells get, from m on. -/
def markP (m : Int) (i : Nat) : Pm := ⟨IntKind.i8.wrap (m + 3 * i), IntKind.i8.wrap (m + 3 * i + 1), IntKind.i16.wrap (m + 3 * i + 2)⟩
/-- .. after k rounds. -/
def marked (m : Int) (P : Nat → Pm) (k : Nat) : Nat → Pm := fun i => if i < k then markP m i else P i

/-- The rate of a permit, scaled. -/
def scl (pc : Int) (p : Pm) : Pm := ⟨p.own, p.cel, p.rat * pc / 100⟩
def scaledTo (pc : Int) (P : Nat → Pm) (k : Nat) : Nat → Pm := fun i => if i < k then scl pc (P i) else P i
/-- What both functions return: how many permits, which, and the code. -/
def scN (n : Nat) (P : Nat → Pm) (pc : Int) : Nat := if ratesAre n P && (decide (0 ≤ pc) && decide (pc ≤ 100)) then n else 0
def scC (n : Nat) (P : Nat → Pm) (pc : Int) : Int := if ratesAre n P then (if decide (0 ≤ pc) && decide (pc ≤ 100) then 0 else 2) else 1
theorem rates_bd {n : Nat} {P : Nat → Pm} (h : ratesAre n P = true) : n ≤ 6 ∧ ∀ i, i < n → 0 ≤ (P i).rat ∧ (P i).rat ≤ 400 := by
  simp [ratesAre] at h
  refine ⟨h.1, fun i hi => ?_⟩
  have h2 := anyTo_false.1 h.2 i hi
  simp [badRate] at h2
  omega

end Go.Proofs.YtmmfnklnmdhkiaaGreat
/- LevelsWith, in the program and in the reference; lists that a call has made, or none. -/
namespace Go.Proofs.YtmmfnklnmdhkiaaGreat
open Go.ChangeShapes Go.WideShapes Go.ChangeAt Go.RowKit
set_option linter.unusedVariables false
set_option linter.unusedSimpArgs false
attribute [local irreducible] Calls

/-- A list of single cells that a call has made, or none. -/
def Rs (e : TypeId) (w : World) (g : Nat) (v : Value) (n : Nat) (xs : List Value) : Prop := (n = 0 ∧ ∃ a cap, v = .slice a 0 cap ∧ cap ≤ maxLen) ∨ Own w g e 1 v n xs
theorem Rs.form {e : TypeId} {w : World} {g : Nat} {v : Value} {n : Nat} {xs : List Value} (h : Rs e w g v n xs) : ∃ a cap, v = .slice a n cap ∧ n ≤ cap ∧ cap ≤ maxLen ∧ (n = 0 ∨ (a = some ⟨g, 0, none⟩ ∧ g < w.heap.size ∧ ∀ j, j < n → w.cell? ⟨g, j, none⟩ = xs[j]?)) := by
  rcases h with ⟨rfl, a, cap, rfl, h⟩ | h
  · exact ⟨a, cap, rfl, Nat.zero_le _, h, .inl rfl⟩
  · obtain ⟨cap, rfl, h1, h2⟩ := h.form
    exact ⟨_, cap, rfl, h1, h2, .inr ⟨rfl, h.lt, fun j hj => h.cell j (by omega)⟩⟩
theorem Rs.below {e : TypeId} {w w' : World} {g : Nat} {v : Value} {n : Nat} {xs : List Value} (h : Rs e w g v n xs) (hb : Below w.heap.size w w') : Rs e w' g v n xs := by
  rcases h with h | h
  · exact .inl h
  · exact .inr (h.below hb h.lt)
theorem Rs.only {e : TypeId} {w w' : World} {g k : Nat} {v : Value} {n : Nat} {xs : List Value} (h : Rs e w g v n xs) (hb : Only k w w') (hk : n = 0 ∨ g ≠ k) : Rs e w' g v n xs := by
  rcases h with h | h
  · exact .inl h
  · rcases hk with rfl | hk
    · obtain ⟨cap, rfl, _, hc⟩ := h.form
      exact .inl ⟨rfl, _, cap, rfl, hc⟩
    · exact .inr (h.move (hb.block g hk))
theorem Rs.ne {e : TypeId} {w : World} {g : Nat} {v : Value} {n : Nat} {xs : List Value} (h : Rs e w g v n xs) {k : Nat} (hk : w.heap.size ≤ k) : n = 0 ∨ g ≠ k := by
  rcases h with h | h
  · exact .inl h.1
  · have := h.lt; exact .inr (by omega)
theorem elFl : ElemTy Tryz.prog 53 25 1 4 := elem_of (z := .float .f32 0) Tryz.underlying53 (by kernel_rfl) rfl

def lvF (G : Gr) (P : Nat → Wt) (i : Nat) : Nat := G.hea (P i).cel.toNat
def lvN (g : Gr) (n : Nat) (P : Nat → Wt) (m : Nat) (Q : Nat → Pm) : Nat := if (gwT g n P m Q).2 = 0 then n else 0
theorem gwT_watch' {g : Gr} {n m : Nat} {P : Nat → Wt} {Q : Nat → Pm} (h : (gwT g n P m Q).2 = 0) : watchIn n P ∧ n ≤ 6 := by
  unfold gwT at h
  cases hv : validP g n P m Q
  · rw [hv] at h; simp at h
  · have h0 := (validP_use hv).2.1
    refine ⟨validO_watch h0, ?_⟩
    unfold validO at h0
    simp only [Bool.and_eq_true, decide_eq_true_eq] at h0
    exact h0.2.1

end Go.Proofs.YtmmfnklnmdhkiaaGreat
/- Permits that a caller hands in, opened. -/
namespace Go.Proofs.YtmmfnklnmdhkiaaGreat
open Go.ChangeShapes Go.WideShapes Go.ChangeAt Go.RowKit
set_option linter.unusedVariables false
theorem lt_of_cell {w : World} {a : Addr} {v : Value} (h : w.cell? a = some v) : a.block < w.heap.size := by
  unfold World.cell? at h
  by_cases hb : a.block < w.heap.size
  · exact hb
  · rw [Array.getElem?_eq_none (by omega)] at h; simp at h
section
variable {H : Type} {enc : TypeId × Value → H} {W : World} {r : Reach} {b0 : Nat}
end
end Go.Proofs.YtmmfnklnmdhkiaaGreat
/- The law over ValidOffice: the walk through the law's own function; offices that a caller hands in, opened. -/
namespace Go.Proofs.YtmmfnklnmdhkiaaGreat
open Go.ChangeShapes Go.WideShapes Go.ChangeAt Go.RowKit
set_option linter.unusedVariables false
set_option linter.unusedSimpArgs false
attribute [local irreducible] Calls

end Go.Proofs.YtmmfnklnmdhkiaaGreat
/- Marks that a law writes into lists and offices, and lists of floats compared: the walks through the law's helpers. -/
namespace Go.Proofs.YtmmfnklnmdhkiaaGreat
open Go.ChangeShapes Go.WideShapes Go.ChangeAt Go.RowKit
set_option linter.unusedVariables false
set_option linter.unusedSimpArgs false
attribute [local irreducible] Calls

theorem settT_valid {within : Nat} : ∀ (l : Nat) (n : Int) (G : Gr), (settT within l n G).2.2 = 0 → validG (settT within l n G).1 = true
  | 0, _, _, h => by simp [settT] at h
  | l + 1, n, G, h => by
    unfold settT at h ⊢
    cases hv : validG (sweepG G)
    · rw [hv] at h; simp at h
    · rw [hv] at h
      simp only [if_true] at h ⊢
      cases hf : fle (chg G (sweepG G)) within
      · rw [hf] at h
        simp only [if_false, Bool.false_eq_true] at h ⊢
        exact settT_valid l _ _ h
      · simp only [if_true]; exact hv
theorem withT_valid {Q : Nat → Pm} : ∀ (l i : Nat) (G : Gr), (withT Q l i G).2 = 0 → validG (withT Q l i G).1 = true
  | 0, _, G, h => settT_valid 1000 0 G h
  | l + 1, i, G, h => by
    unfold withT at h ⊢
    cases hv : validG (lessG G (Q i))
    · rw [hv] at h; simp at h
    · rw [hv] at h
      simp only [if_true] at h ⊢
      exact withT_valid l _ _ h
theorem plainW {G : Gr} (h : validG G = true) (k : Nat) (hk : k < 64) : isN .f32 (G.hea k) = false := fieldIs_num (fun _ => plain_num) (validG_parts h).2.2.2.2.1 k hk
theorem lv_num {g : Gr} {n m : Nat} {P : Nat → Wt} {Q : Nat → Pm} : ∀ i, i < lvN g n P m Q → isN .f32 (lvF (gwT g n P m Q).1 P i) = false := fun i hi => by
  unfold lvN at hi
  by_cases h : (gwT g n P m Q).2 = 0
  · rw [if_pos h] at hi
    obtain ⟨c, hc, hc64⟩ := (gwT_watch' h).1 i hi
    have hv : validG (gwT g n P m Q).1 = true := by
      unfold gwT at h ⊢
      cases hp : validP g n P m Q
      · rw [hp] at h; simp at h
      · rw [hp] at h
        simp only [if_true] at h ⊢
        exact withT_valid _ _ _ h
    unfold lvF
    exact plainW hv _ (by rw [hc]; omega)
  · rw [if_neg h] at hi; omega
theorem isN_int (n : Int) : isN .f32 (floatOfInt .f32 n) = false := by
  unfold floatOfInt FloatKind.nearest FloatKind.encode Ieee.Format.write
  exact isN_nearest _ _ _
theorem fls_setL (n : Nat) (f : Nat → Nat) (k b : Nat) (hk : k < n) : (fls n f).set k (.float .f32 b) = fls n (upd f k b) := by
  have := congrArg Array.toList (fls_set n f k b hk)
  simpa using this

theorem Blk.only {w w' : World} {b g : Nat} {C : Array Value} {t : TypeId} (h : Blk w b C t) (ho : Only g w w') (hb : b ≠ g) : Blk w' b C t := (ho.block b hb).trans h
theorem Own.only {w w' : World} {b g : Nat} {e : TypeId} {s : Nat} {v : Value} {n : Nat} {xs : List Value} (h : Own w b e s v n xs) (ho : Only g w w') (hb : b ≠ g) : Own w' b e s v n xs := h.move (ho.block b hb)
theorem lvN_le {g : Gr} {n m : Nat} {P : Nat → Wt} {Q : Nat → Pm} : lvN g n P m Q ≤ n := by unfold lvN; split <;> omega
end Go.Proofs.YtmmfnklnmdhkiaaGreat
/- The permits that are granted in order: appends that must grow, slices.Clip, the walks through the program's inOrder and the reference's l07Grant. -/
namespace Go.Proofs.YtmmfnklnmdhkiaaGreat
open Go.ChangeShapes Go.WideShapes Go.ChangeAt Go.RowKit
set_option linter.unusedVariables false
set_option linter.unusedSimpArgs false

/-- An append onto a slice without room. -/
theorem run_grow {P : Program} {w : World} {t ty e : TypeId} {s bytes : Nat} (hE : ElemTy P t e s bytes) {b : Addr} {n cap m c : Nat} {ad : Addr} {olds news : List Value} (hlo : olds.length = n * s) (holds : ∀ j u, olds[j]? = some u → w.cell? (b.add j) = some u)
    (hl : news.length = m * s) (hnews : ∀ j u, news[j]? = some u → w.cell? (ad.add j) = some u) (hg : cap < n + m) (h63 : n + m ≤ maxLen) (hbytes : (n + m) * bytes ≤ 140737488355328) :
    ∃ cap' w', (Builtin.append_ #[t, t] ty #[.slice (some b) n cap, .slice (some ad) m c]).run P w = .ok (.slice (some ⟨w.heap.size, 0, none⟩) (n + m) cap') w' ∧ Own w' w.heap.size e s (.slice (some ⟨w.heap.size, 0, none⟩) (n + m) cap') (n + m) (olds ++ news) ∧ Below w.heap.size w w' := by
  obtain ⟨ht, i, z, hi, hz, hsize, hby, hzs⟩ := hE
  have hsmall : n + m ≤ 9223372036854775807 := by simp only [maxLen] at h63; omega
  have hr := run_append_grow (P := P) w t ty e i z ht hi hz b n cap olds (by rw [hsize]; exact hlo) holds ad m c news (by rw [hsize]; exact hl) hnews hg (by omega) (by rw [hby]; exact growslice_fits (by omega) hbytes)
  have hge := grownCap_ge w (n + m) cap e
  have hle := grownCap_le_maxLen w (n + m) cap e h63
  refine ⟨_, _, hr, ⟨by rw [List.length_append, hlo, hl, Nat.add_mul], _, olds.toArray ++ news.toArray ++ Builtin.zeroCells z.cells (grownCap w (n + m) cap e - (n + m)), rfl, Blk.new w.drew _ _, hge, hle, ?_, ?_⟩, ?_⟩
  · simp only [Array.size_append, List.size_toArray, size_zeroCells, hzs, hlo, hl, ← Nat.add_mul]
    congr 1
    omega
  · rw [Array.toList_append, Array.toList_append]
    rw [List.take_append_of_le_length (by simp [hlo, hl, Nat.add_mul])]
    exact List.take_of_length_le (by simp [hlo, hl, Nat.add_mul])
  · exact (below_drewN (Below.refl w.heap.size w) 1).alloc (by simp) _

/-- Which permits are granted among the first k. -/
def grantTo (K : List Nat → Bool) : Nat → List Nat
  | 0 => []
  | k + 1 => if K (grantTo K k ++ [k]) then grantTo K k ++ [k] else grantTo K k
theorem grantTo_lt (K : List Nat → Bool) : ∀ k, (∀ i, i ∈ grantTo K k → i < k) ∧ (grantTo K k).length ≤ k
  | 0 => ⟨fun i hi => absurd hi (List.not_mem_nil), Nat.le_refl _⟩
  | k + 1 => by
    obtain ⟨h1, h2⟩ := grantTo_lt K k
    unfold grantTo
    split
    · refine ⟨fun i hi => ?_, by simp; omega⟩
      rcases List.mem_append.1 hi with h | h
      · have := h1 i h; omega
      · simp at h; omega
    · exact ⟨fun i hi => by have := h1 i hi; omega, by omega⟩
/-- The permits of a list. -/
def pickP (Q : Nat → Pm) (L : List Nat) : Nat → Pm := fun i => Q (L.getD i 0)
def grK (g : Gr) (n : Nat) (P : Nat → Wt) (Q : Nat → Pm) (L : List Nat) : Bool := keptB g n P L.length (pickP Q L)
theorem pickP_in {g : Gr} {m : Nat} {Q : Nat → Pm} (h : cellsIn g m Q) {L : List Nat} (hL : ∀ i, i ∈ L → i < m) : cellsIn g L.length (pickP Q L) := fun i hi => by
  unfold pickP
  rw [show L.getD i 0 = L[i] by simp [List.getD_eq_getElem?_getD, List.getElem?_eq_getElem hi]]
  exact h _ (hL _ (List.getElem_mem hi))
theorem pickP_pls (Q : Nat → Pm) (L : List Nat) (k : Nat) : pls (L ++ [k]).length (pickP Q (L ++ [k])) = pls L.length (pickP Q L) ++ (Q k).cells.toList := by
  rw [List.length_append, List.length_singleton, pls_succ]
  congr 1
  · exact pls_congr fun i hi => by unfold pickP; simp [List.getD_eq_getElem?_getD, List.getElem?_append_left hi]
  · unfold pickP; simp [List.getD_eq_getElem?_getD]
theorem PSl.cells {w : World} {b o n c : Nat} {P : Nat → Pm} (h : PSl w (.slice (some ⟨b, o, none⟩) n c) n P) : ∀ j u, (pls n P)[j]? = some u → w.cell? ((⟨b, o, none⟩ : Addr).add j) = some u := by
  obtain ⟨a, cap, he, h1, h2, h3⟩ := h
  injection he with e1 e2 e3
  intro j u hu
  have hj : j < n * 3 := by have := (List.getElem?_eq_some_iff.1 hu).1; rwa [pls_length] at this
  rcases h3 with h3 | ⟨b', o', hb, hlt, hc⟩
  · subst h3; omega
  · rw [hb] at e1
    injection e1 with e1
    injection e1 with e1 e4
    subst e1; subst e4
    have := hc (j / 3) (j % 3) (by omega) (by omega)
    rw [show o + j / 3 * 3 + j % 3 = o + j by omega] at this
    have hadd : (⟨b, o, none⟩ : Addr).add j = ⟨b, o + j, none⟩ := by unfold Addr.add; split <;> simp_all
    rw [hadd, this, ← pls_get n P (j / 3) (j % 3) (by omega) (by omega), show j / 3 * 3 + j % 3 = j by omega]
    exact hu
attribute [local irreducible] Calls

section
variable {P : Program} {ops : Array Oper} {rest : List Oper} {o : Oper} {a : Act} {w : World} {Q : Exit → Act → World → Prop}
/-- 'append(s, x)', s having no room. -/
theorem wpList_grow {t e : TypeId} {s bytes : Nat} {sl x : Operand} {b : Addr} {n cap m c : Nat} {ad : Addr} {olds news : List Value} (hE : ElemTy P t e s bytes) (hgd : o.guard = none) (ho : o.op = .call { callee := .builtin .append, args := #[sl, x], argTypes := #[t, t] }) (hv : a.eval sl = .slice (some b) n cap) (hx : a.eval x = .slice (some ad) m c)
    (hlo : olds.length = n * s) (holds : ∀ j u, olds[j]? = some u → w.cell? (b.add j) = some u) (hl : news.length = m * s) (hnews : ∀ j u, news[j]? = some u → w.cell? (ad.add j) = some u) (hg : cap < n + m) (h63 : n + m ≤ maxLen) (hbytes : (n + m) * bytes ≤ 140737488355328)
    (h : ∀ cap' w', Own w' w.heap.size e s (.slice (some ⟨w.heap.size, 0, none⟩) (n + m) cap') (n + m) (olds ++ news) → Below w.heap.size w w' → wpList P ops Q rest (a.put o.dst (.slice (some ⟨w.heap.size, 0, none⟩) (n + m) cap')) w') : wpList P ops Q (o :: rest) a w :=
  wpList_plain hgd fun K hK => by
    obtain ⟨cap', w', hr, h2, h3⟩ := run_grow (P := P) (w := w) (ty := o.type) (c := c) (ad := ad) (b := b) hE hlo holds hl hnews hg h63 hbytes
    unfold Oper.wp execOp
    simp only [ho, resolve, invoke, builtin, Sem.run_bind, Sem.run_pure, Result.andThen_ok, List.map_toArray, List.map_cons, List.map_nil, hv, hx, hr]
    exact hK _ _ (h cap' w' h2 h3)
end
theorem Own.at {w : World} {g : Nat} {e : TypeId} {s : Nat} {v : Value} {n : Nat} {xs : List Value} (h : Own w g e s v n xs) : ∀ j u, xs[j]? = some u → w.cell? ((⟨g, 0, none⟩ : Addr).add j) = some u := fun j u hu => by
  have hj : j < n * s := by have := (List.getElem?_eq_some_iff.1 hu).1; rw [h.1] at this; exact this
  have hadd : (⟨g, 0, none⟩ : Addr).add j = ⟨g, j, none⟩ := by unfold Addr.add; split <;> simp_all
  rw [hadd, h.cell j hj]; exact hu
theorem Blk.at {w : World} {b : Nat} {C : Array Value} {t : TypeId} (h : Blk w b C t) : ∀ j u, C.toList[j]? = some u → w.cell? ((⟨b, 0, none⟩ : Addr).add j) = some u := fun j u hu => by
  have hadd : (⟨b, 0, none⟩ : Addr).add j = ⟨b, j, none⟩ := by unfold Addr.add; split <;> simp_all
  rw [hadd, h.cell]; simpa using hu

/-- An append onto an empty slice without room: nothing that was there turns. -/
theorem run_app0 {P : Program} {w : World} {t ty e : TypeId} {s bytes : Nat} (hE : ElemTy P t e s bytes) {r m c : Nat} {ad : Addr} {news : List Value} (hown : Own w r e s (.slice (some ⟨r, 0, none⟩) 0 0) 0 [])
    (hl : news.length = m * s) (hnews : ∀ j u, news[j]? = some u → w.cell? (ad.add j) = some u) (h63 : m ≤ maxLen) (hbytes : m * bytes ≤ 140737488355328) :
    ∃ g' c' w', (Builtin.append_ #[t, t] ty #[.slice (some ⟨r, 0, none⟩) 0 0, .slice (some ad) m c]).run P w = .ok (.slice (some ⟨g', 0, none⟩) m c') w' ∧ Own w' g' e s (.slice (some ⟨g', 0, none⟩) m c') m news ∧ Below w.heap.size w w' ∧ (g' = r ∨ g' = w.heap.size) := by
  by_cases hm : m = 0
  · subst hm
    obtain rfl : news = [] := List.length_eq_zero_iff.1 (by omega)
    obtain ⟨ht, i, z, hi, hz, hsize, hby, hzs⟩ := hE
    have hr := run_append_room_cells (P := P) w t ty e i ht hi r 0 0 0 ad 0 c [] (by simp) (fun j u h => by simp at h) (fun u h => by cases h) (by omega) (fun j h => by simp at h) (fun j h => by simp at h)
    exact ⟨r, 0, w, hr.trans (by first | rfl | simp [World.setCells]), hown, Below.refl _ _, .inl rfl⟩
  · obtain ⟨cap', w', hr, h2, h3⟩ := run_grow (P := P) (w := w) (ty := ty) (b := ⟨r, 0, none⟩) (n := 0) (cap := 0) (c := c) (olds := []) (ad := ad) hE (by simp) (fun j u h => by simp at h) hl hnews (by omega) (by omega) (by simpa using hbytes)
    rw [Nat.zero_add] at hr h2
    exact ⟨_, cap', w', hr, by simpa using h2, h3, .inr rfl⟩

end Go.Proofs.YtmmfnklnmdhkiaaGreat
