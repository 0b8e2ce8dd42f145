/- The permits' rates, scaled; marks that a caller leaves in a list: the walks that FnExactScaledPermits needs. -/
import Derived.Test.YtcojgmgoiopboaaDoorPerm
import Derived.IntWalk
namespace Go.Proofs.YtcojgmgoiopboaaDoor
open Go.ChangeShapes Go.WideShapes Go.ChangeAt Go.RowKit
set_option linter.unusedVariables false

theorem Own.setCell {w : World} {g : Nat} {e : TypeId} {s : Nat} {v : Value} {n : Nat} {xs : List Value} (h : Own w g e s v n xs) (j : Nat) (u : Value) : Own (w.setCell ⟨g, j, none⟩ u) g e s v n (xs.set j u) := by
  obtain ⟨h1, cap, cur, rfl, hb, h2, h3, h4, h5⟩ := h
  refine ⟨by simpa using h1, cap, _, rfl, hb.setCell j u, h2, h3, by simpa using h4, ?_⟩
  have hle : n * s ≤ cur.size := by rw [h4]; exact Nat.mul_le_mul_right s h2
  rw [Array.toList_setIfInBounds, ← h5]
  apply List.ext_getElem?
  intro i
  simp only [List.getElem?_take, List.getElem?_set, List.length_take, Array.length_toList]
  by_cases hi : i < n * s
  · by_cases hj : j = i
    · subst hj; simp [hi, show j < cur.size by omega]; omega
    · simp [hi, hj]
  · by_cases hj : j = i
    · subst hj; simp [hi]; omega
    · simp [hi, hj]
theorem own_full {w : World} {g : Nat} {e : TypeId} {s n : Nat} {xs : List Value} (h : Own w g e s (.slice (some ⟨g, 0, none⟩) n n) n xs) : Blk w g xs.toArray e := by
  obtain ⟨h1, cap, cur, hv, hb, h2, h3, h4, h5⟩ := h
  have hc : cap = n := by injection hv with _ _ h; exact h.symm
  subst hc
  rw [← h5, List.take_of_length_le (by simp [h4])]
  exact hb

/-- P with another permit at i. -/
def updP (P : Nat → Pm) (i : Nat) (p : Pm) : Nat → Pm := fun j => if j = i then p else P j
theorem updP_same (P : Nat → Pm) (i : Nat) (p : Pm) : updP P i p i = p := by simp [updP]
theorem updP_other (P : Nat → Pm) (i : Nat) (p : Pm) (j : Nat) (h : j ≠ i) : updP P i p j = P j := by simp [updP, h]
theorem pls_set (n : Nat) (P : Nat → Pm) (i c : Nat) (u : Value) (p : Pm) (hi : i < n) (hc : c < 3) (hp : (P i).cells.toList.set c u = p.cells.toList) : (pls n P).set (i * 3 + c) u = pls n (updP P i p) := by
  apply List.ext_getElem?
  intro j
  by_cases hj : j < n * 3
  · obtain ⟨k, d, hd, rfl⟩ : ∃ k d, d < 3 ∧ j = k * 3 + d := ⟨j / 3, j % 3, Nat.mod_lt _ (by decide), by omega⟩
    have hk : k < n := by omega
    rw [pls_get n _ k d hk hd, List.getElem?_set, pls_length]
    by_cases hki : k = i
    · subst hki
      rw [updP_same]
      have := congrArg (fun l : List Value => l[d]?) hp
      simp only [List.getElem?_set, Array.getElem?_toList, Array.length_toList, Pm.cells_size] at this
      rw [← this]
      by_cases hcd : c = d
      · subst hcd; simp [hc, hj]
      · rw [if_neg (by omega), if_neg hcd, pls_get n P k d hk hd]
    · rw [updP_other P i p k hki, if_neg (by omega), pls_get n P k d hk hd]
  · rw [List.getElem?_eq_none (by simp [pls_length]; omega), List.getElem?_eq_none (by simp [pls_length]; omega)]

/-- Nothing but block g has turned. -/
structure Only (g : Nat) (w w' : World) : Prop where
  os : w'.os = w.os
  tape : w'.tape = w.tape
  output : w'.output = w.output
  size : w'.heap.size = w.heap.size
  block : ∀ b, b ≠ g → w'.heap[b]? = w.heap[b]?
theorem Only.refl (g : Nat) (w : World) : Only g w w := ⟨rfl, rfl, rfl, rfl, fun _ _ => rfl⟩
theorem Only.setCell {g : Nat} {w w' : World} (h : Only g w w') (j : Nat) (u : Value) : Only g w (w'.setCell ⟨g, j, none⟩ u) :=
  ⟨h.os, h.tape, h.output, by rw [← h.size]; simp [World.setCell], fun b hb => (heap_setCell_other w' ⟨g, j, none⟩ b u hb).trans (h.block b hb)⟩
theorem Only.drew {g : Nat} {w w' : World} (h : Only g w w') : Only g w w'.drew := ⟨h.os, h.tape, h.output, h.size, h.block⟩
theorem Only.drewN {g : Nat} {w w' : World} (h : Only g w w') (k : Nat) : Only g w (w'.drewN k) := ⟨h.os, h.tape, h.output, h.size, h.block⟩
theorem below_only {B g : Nat} {w0 w w' : World} (h : Below B w0 w) (ho : Only g w w') (hg : B ≤ g) : Below B w0 w' :=
  ⟨ho.os.trans h.os, ho.tape.trans h.tape, ho.output.trans h.output, by rw [ho.size]; exact h.size, fun b hb => (ho.block b (by omega)).trans (h.block b hb)⟩

/-- A list of permits that a call has made, or none. -/
def Res (w : World) (g : Nat) (v : Value) (n : Nat) (P : Nat → Pm) : Prop := (n = 0 ∧ ∃ a cap, v = .slice a 0 cap ∧ cap ≤ maxLen) ∨ Own w g 42 3 v n (pls n P)
theorem Res.psl {w : World} {g : Nat} {v : Value} {n : Nat} {P : Nat → Pm} (h : Res w g v n P) : PSl w v n P := by
  rcases h with ⟨rfl, a, cap, rfl, h⟩ | h
  · exact ⟨a, cap, rfl, Nat.zero_le _, h, .inl rfl⟩
  · exact h.psl
theorem Res.below {w w' : World} {g : Nat} {v : Value} {n : Nat} {P : Nat → Pm} (h : Res w g v n P) (hb : Below w.heap.size w w') : Res w' g v n P := by
  rcases h with h | h
  · exact .inl h
  · exact .inr (h.below hb h.lt)
theorem Res.only {w w' : World} {g k : Nat} {v : Value} {n : Nat} {P : Nat → Pm} (h : Res w g v n P) (hb : Only k w w') (hk : n = 0 ∨ g ≠ k) : Res w' g v n P := by
  rcases h with h | h
  · exact .inl h
  · rcases hk with rfl | hk
    · obtain ⟨cap, rfl, _, hc⟩ := h.form
      exact .inl ⟨rfl, _, cap, rfl, hc⟩
    · exact .inr (h.move (hb.block g hk))
theorem Res.ne {w : World} {g : Nat} {v : Value} {n : Nat} {P : Nat → Pm} (h : Res w g v n P) {k : Nat} (hk : w.heap.size ≤ k) : n = 0 ∨ g ≠ k := by
  rcases h with h | h
  · exact .inl h.1
  · have := h.lt; exact .inr (by omega)

/-- The marks that a list's cells get, from m on. -/
def markP (m : Int) (i : Nat) : Pm := ⟨IntKind.i8.wrap (m + 3 * i), IntKind.i8.wrap (m + 3 * i + 1), IntKind.i16.wrap (m + 3 * i + 2)⟩
/-- .. after k rounds. -/
def marked (m : Int) (P : Nat → Pm) (k : Nat) : Nat → Pm := fun i => if i < k then markP m i else P i

set_option maxRecDepth 100000 in
set_option maxHeartbeats 400000 in
theorem mark_any (n g : Nat) (P : Nat → Pm) (v : Value) (m : Int) (hm : 0 ≤ m ∧ m ≤ 1048576) (hn : n ≤ 1048576) (w : World) (hv : Res w g v n P) :
    Calls Tryd.prog 13 #[v, .int .i64 m] w fun e w' => e = .returned (.int .i64 (m + 3 * n)) ∧ Res w' g v n (markP m) ∧ Only g w w' := by
  rcases hv with ⟨rfl, a, cap, rfl, hc⟩ | hown
  · go_enter Tryd.func13, Tryd.ntmps13
    go_wp2_with fail
    go_loop [1, 5] (fun q i => q = .int .i64 m ∧ i = .int .i64 0) (fun _ _ => 0)
    case atStart => exact ⟨rfl, rfl⟩
    case round =>
      obtain ⟨rfl, rfl⟩ := hrel
      go_wp2_with fail
      go_ret
      exact ⟨by simp, .inl ⟨rfl, a, cap, rfl, hc⟩, Only.refl _ _⟩
  · obtain ⟨cap, rfl, hc1, hc2⟩ := hown.form
    unfold maxLen at hc2
    go_enter Tryd.func13, Tryd.ntmps13
    go_wp2_with fail
    go_loopw [1, 5] (fun q i wr => ∃ k : Nat, k ≤ n ∧ i = .int .i64 k ∧ q = .int .i64 (m + 3 * k) ∧ Own wr g 42 3 (.slice (some ⟨g, 0, none⟩) n cap) n (pls n (marked m P k)) ∧ Only g w wr) (fun _ i _ => n - (intOf i).toNat)
    case atStart => exact ⟨0, by omega, rfl, by simp, by rw [show marked m P 0 = P from funext fun i => by simp [marked]]; exact hown, Only.refl _ _⟩
    case round =>
      clear hown
      obtain ⟨k, hk, rfl, rfl, hown, honly⟩ := hrel
      by_cases hlt : k < n
      · have f0 := hown.free (k * 3)
        have f1 := fun u => (hown.setCell (k * 3) u).free (k * 3 + 1)
        have f2 := fun u u' => ((hown.setCell (k * 3) u).setCell (k * 3 + 1) u').free (k * 3 + 2)
        have bk : (0 : Int) ≤ k := by omega
        have bl : (k : Int) < n := by omega
        have hmk : marked m P k k = P k := by simp [marked]
        have e0 : wr.cell? ⟨g, k * 3, none⟩ = some (.int .i8 (P k).own) := by rw [hown.cell _ (by omega), show k * 3 = k * 3 + 0 from rfl, pls_get n _ k 0 hlt (by omega), hmk, Pm.get0]
        have e1 : wr.cell? ⟨g, k * 3 + 1, none⟩ = some (.int .i8 (P k).cel) := by rw [hown.cell _ (by omega), pls_get n _ k 1 hlt (by omega), hmk, Pm.get1]
        have e2 : wr.cell? ⟨g, k * 3 + 2, none⟩ = some (.int .i16 (P k).rat) := by rw [hown.cell _ (by omega), pls_get n _ k 2 hlt (by omega), hmk, Pm.get2]
        go_wp2_with fail
        go_roundw
        case rel =>
          refine ⟨k + 1, by omega, by go_num, by go_num, ?_, ((honly.setCell _ _).setCell _ _).setCell _ _⟩
          have hset := ((hown.setCell (k * 3) (.int .i8 (IntKind.i8.wrap (m + 3 * k)))).setCell (k * 3 + 1) (.int .i8 (IntKind.i8.wrap (m + 3 * k + 1)))).setCell (k * 3 + 2) (.int .i16 (IntKind.i16.wrap (m + 3 * k + 1 + 1)))
          rw [show k * 3 = k * 3 + 0 from rfl, pls_set n _ k 0 _ ⟨IntKind.i8.wrap (m + 3 * k), (P k).cel, (P k).rat⟩ hlt (by omega) (by rw [hmk, Pm.cells_eq, Pm.cells_eq]; rfl),
            pls_set n _ k 1 _ ⟨IntKind.i8.wrap (m + 3 * k), IntKind.i8.wrap (m + 3 * k + 1), (P k).rat⟩ hlt (by omega) (by rw [updP_same, Pm.cells_eq, Pm.cells_eq]; rfl),
            pls_set n _ k 2 _ (markP m k) hlt (by omega) (by rw [updP_same, Pm.cells_eq, Pm.cells_eq]; simp [markP]; congr 1; omega)] at hset
          rw [pls_congr (P' := marked m P (k + 1)) (fun i hi => by
            by_cases hik : i = k
            · subst hik; rw [updP_same]; simp [marked]
            · rw [updP_other _ _ _ _ hik, updP_other _ _ _ _ hik, updP_other _ _ _ _ hik]; simp only [marked, show i < k + 1 ↔ i < k by omega])] at hset
          exact hset
        case measure => simp [intOf]; omega
      · obtain rfl : k = n := by omega
        go_wp2_with fail
        go_ret
        exact ⟨rfl, .inr (by rw [pls_congr (P' := marked m P k) (fun i hi => by simp [marked, hi])]; exact hown), honly⟩
set_option maxRecDepth 100000 in
set_option maxHeartbeats 400000 in
theorem held_any (n : Nat) (v : Value) (m : Int) (hm : 0 ≤ m ∧ m ≤ 1048576) (hn : n ≤ 1048576) (w : World) (hv : PSl w v n (markP m)) :
    Calls Tryd.prog 14 #[v, .int .i64 m] w fun e w' => e = .returned (.int .i64 (m + 3 * n)) ∧ w' = w := by
  obtain ⟨a, cap, rfl, hc1, hc2, hcell⟩ := hv
  unfold maxLen at hc2
  have HC := Lib.hid hcell
  clear hcell
  go_enter Tryd.func14, Tryd.ntmps14
  go_wp2_with fail
  go_loop [1, 5] (fun q i => ∃ k : Nat, k ≤ n ∧ i = .int .i64 k ∧ q = .int .i64 (m + 3 * k)) (fun _ i => n - (intOf i).toNat)
  case atStart => exact ⟨0, by omega, rfl, by simp⟩
  case round =>
    obtain ⟨k, hk, rfl, rfl⟩ := hrel
    by_cases hlt : k < n
    · obtain ⟨b, o, rfl, hb, hcell⟩ := HC.out.resolve_left (by omega)
      have e0 : w.cell? ⟨b, o + k * 3, none⟩ = some (.int .i8 (IntKind.i8.wrap (m + 3 * k))) := (hcell k 0 hlt (by omega)).trans (markP m k).get0
      have e1 : w.cell? ⟨b, o + k * 3 + 1, none⟩ = some (.int .i8 (IntKind.i8.wrap (m + 3 * k + 1))) := (hcell k 1 hlt (by omega)).trans (markP m k).get1
      have e2 : w.cell? ⟨b, o + k * 3 + 2, none⟩ = some (.int .i16 (IntKind.i16.wrap (m + 3 * k + 1 + 1))) := (hcell k 2 hlt (by omega)).trans ((markP m k).get2.trans (by unfold markP; simp only [show m + 3 * (k : Int) + 1 + 1 = m + 3 * k + 2 by omega]))
      clear hcell
      have bk : (0 : Int) ≤ k := by omega
      have bl : (k : Int) < n := by omega
      go_wp2_with fail
      go_round
      case rel => exact ⟨k + 1, by omega, by go_num, by go_num⟩
      case measure => simp [intOf]; omega
    · obtain rfl : k = n := by omega
      go_wp2_with fail
      go_ret
      exact ⟨rfl, rfl⟩

/-- The rate of a permit, scaled. -/
def scl (pc : Int) (p : Pm) : Pm := ⟨p.own, p.cel, p.rat * pc / 100⟩
def scaledTo (pc : Int) (P : Nat → Pm) (k : Nat) : Nat → Pm := fun i => if i < k then scl pc (P i) else P i
theorem elPm' : ElemTy Tryd.prog 25 42 3 4 := elPm

/-- What both functions return: how many permits, which, and the code. -/
def scN (n : Nat) (P : Nat → Pm) (pc : Int) : Nat := if ratesAre n P && (decide (0 ≤ pc) && decide (pc ≤ 100)) then n else 0
def scC (n : Nat) (P : Nat → Pm) (pc : Int) : Int := if ratesAre n P then (if decide (0 ≤ pc) && decide (pc ≤ 100) then 0 else 2) else 1
theorem rates_bd {n : Nat} {P : Nat → Pm} (h : ratesAre n P = true) : n ≤ 6 ∧ ∀ i, i < n → 0 ≤ (P i).rat ∧ (P i).rat ≤ 400 := by
  simp [ratesAre] at h
  refine ⟨h.1, fun i hi => ?_⟩
  have h2 := anyTo_false.1 h.2 i hi
  simp [badRate] at h2
  omega

end Go.Proofs.YtcojgmgoiopboaaDoor
