import Derived.Test.YtglimhkpndfjgaaMT30
import Derived.Test.YtglimhkpndfjgaaMT25
import Derived.Test.YtglimhkpndfjgaaMT20
/- Fits: facts that the law asks for. -/
namespace Go.Proofs.Ytglimhkpndfjgaa
open Go.ChangeShapes Go.WideShapes Go.ChangeAt Go.RowKit
set_option linter.unusedVariables false
set_option linter.unusedSimpArgs false
attribute [local irreducible] Calls
theorem sameIL_self (n : Nat) (f : Nat → Int) : sameIL n n f f = true := by
  unfold sameIL
  have : anyTo (fun i => f i != f i) (fun i => i) n = false := anyTo_false.2 fun i hi => by simp
  rw [this]; simp
set_option maxRecDepth 100000 in
set_option maxHeartbeats 400000 in
theorem sameTicks_any (n : Nat) (f : Nat → Int) (v u : Value) (w : World) (hv : ISl w v n f) (hu : ISl w u n f) :
    Calls Try.prog 22 #[v, u] w fun e w' => e = .returned (.bool true) ∧ ∃ q, w' = w.drewN q := by
  have h := l00Same_any n n f f v u w hv hu
  rw [sameIL_self] at h
  clear hv hu
  go_enter Try.func22, Try.ntmps22
  go_wp2_with (go_at_call 49; refine h.mono ?_; rintro e w' ⟨rfl, q, rfl⟩)
  go_ret
  exact ⟨rfl, q, rfl⟩
/-! ### Those within a bound. -/
theorem wtTo_mono (F : Nat → Nat) (bd : Nat) {k : Nat} : ∀ {n}, k ≤ n → (wtTo F bd k).length ≤ (wtTo F bd n).length ∧ ∀ i, i < (wtTo F bd k).length → (wtTo F bd n).getD i 0 = (wtTo F bd k).getD i 0
  | 0, h => by
    obtain rfl : k = 0 := by omega
    exact ⟨Nat.le_refl _, fun _ _ => rfl⟩
  | n + 1, h => by
    by_cases e : k = n + 1
    · subst e; exact ⟨Nat.le_refl _, fun _ _ => rfl⟩
    · obtain ⟨h1, h2⟩ := wtTo_mono F bd (k := k) (n := n) (by omega)
      have hs : wtTo F bd (n + 1) = if fle (F n) bd = true then wtTo F bd n ++ [n] else wtTo F bd n := rfl
      rw [hs]
      split
      · refine ⟨by rw [List.length_append]; omega, fun i hi => ?_⟩
        rw [getD_app (by omega)]; exact h2 i hi
      · exact ⟨h1, h2⟩
theorem wtTo_at (F : Nat → Nat) (bd : Nat) {k n : Nat} (hk : k < n) (h : fle (F k) bd = true) : (wtTo F bd k).length < (wtTo F bd n).length ∧ (wtTo F bd n).getD (wtTo F bd k).length 0 = k := by
  have hs : wtTo F bd (k + 1) = wtTo F bd k ++ [k] := by
    show (if fle (F k) bd = true then wtTo F bd k ++ [k] else wtTo F bd k) = _
    rw [if_pos h]
  obtain ⟨h1, h2⟩ := wtTo_mono F bd (k := k + 1) (n := n) hk
  rw [hs] at h1 h2
  rw [List.length_append, List.length_singleton] at h1 h2
  refine ⟨by omega, ?_⟩
  rw [h2 _ (by omega), getD_last]
theorem wtTo_len1 (F : Nat → Nat) (bd k : Nat) : (wtTo F bd (k + 1)).length = if fle (F k) bd = true then (wtTo F bd k).length + 1 else (wtTo F bd k).length := by
  have hs : wtTo F bd (k + 1) = if fle (F k) bd = true then wtTo F bd k ++ [k] else wtTo F bd k := rfl
  rw [hs]
  split
  · simp
  · rfl
/-- The span holds each Transmit of those within the bound. -/
theorem span_in (F : Nat → Nat) (bd : Nat) {k n : Nat} (P : Nat → Aqf) (hk : k < n) (h : fle (F k) bd = true) : mnTo (wtT F bd n P) (wtTo F bd n).length ≤ (P k).T ∧ (P k).T ≤ mxTo (wtT F bd n P) (wtTo F bd n).length := by
  obtain ⟨h1, h2⟩ := wtTo_at F bd hk h
  have e : wtT F bd n P (wtTo F bd k).length = (P k).T := by unfold wtT; rw [h2]
  constructor
  · rw [mnTo_is _ _ (by omega), ← e]; exact lsTo_min _ _ _ h1
  · rw [← e]; exact mxTo_ge _ _ _ h1
theorem span_form (F : Nat → Nat) (bd n : Nat) (P : Nat → Aqf) : ∃ (lo hi : Nat) (cd : Int), spanR F bd n P = .tuple #[.float .f32 lo, .float .f32 hi, .int .i64 cd] ∧ ((wtTo F bd n).length = 0 → cd = 6) ∧ ((wtTo F bd n).length ≠ 0 → cd = 0 ∧ lo = mnTo (wtT F bd n P) (wtTo F bd n).length ∧ hi = mxTo (wtT F bd n P) (wtTo F bd n).length) := by
  unfold spanR
  by_cases h : (wtTo F bd n).length = 0
  · rw [if_pos h]
    exact ⟨0, 0, 6, rfl, fun _ => rfl, fun h2 => (h2 h).elim⟩
  · rw [if_neg h]
    exact ⟨_, _, 0, rfl, fun h2 => (h h2).elim, fun _ => ⟨rfl, rfl, rfl⟩⟩
/-- The three guesses. -/
def gsP (T1 S1 T2 S2 T3 S3 : Nat) (i : Nat) : Aqf := if i = 0 then ⟨T1, S1⟩ else if i = 1 then ⟨T2, S2⟩ else ⟨T3, S3⟩
theorem gsP_list (T1 S1 T2 S2 T3 S3 : Nat) : lqs 3 (gsP T1 S1 T2 S2 T3 S3) = [.float .f32 T1, .float .f32 S1, .float .f32 T2, .float .f32 S2, .float .f32 T3, .float .f32 S3] := by
  rw [lqs_succ, lqs_succ, lqs_succ, lqs_zero, Aqf.cells_eq, Aqf.cells_eq, Aqf.cells_eq]; rfl
theorem gsP_aq {T1 S1 T2 S2 T3 S3 : Nat} (h1 : AqD T1 S1) (h2 : AqD T2 S2) (h3 : AqD T3 S3) : ∀ i, i < 3 → AqD (gsP T1 S1 T2 S2 T3 S3 i).T (gsP T1 S1 T2 S2 T3 S3 i).S := fun i hi => by
  unfold gsP
  split
  · exact h1
  · split
    · exact h2
    · exact h3
end Go.Proofs.Ytglimhkpndfjgaa
