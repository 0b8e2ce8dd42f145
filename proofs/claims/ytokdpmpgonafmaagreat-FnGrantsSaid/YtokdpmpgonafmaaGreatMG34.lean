import Derived.Test.YtokdpmpgonafmaaGreatMG31
/- What is granted in order is one of the choices: the best are not less. Plain laws; no statement is proved here. -/
namespace Go.Proofs.YtokdpmpgonafmaaGreat
set_option linter.unusedVariables false
set_option linter.unusedSimpArgs false
theorem grant_kept (K : List Nat → Bool) : ∀ k, grantTo K k = [] ∨ K (grantTo K k) = true
  | 0 => .inl rfl
  | k + 1 => by
    unfold grantTo
    by_cases h : K (grantTo K k ++ [k]) = true
    · rw [if_pos h]; exact .inr h
    · rw [if_neg h]; exact grant_kept K k
theorem bitB_test (x i : Nat) : bitB x i = x.testBit i := by unfold bitB; rw [Nat.testBit_eq_decide_div_mod_eq]; cases hx : (x / 2 ^ i % 2 == 1) <;> simp_all
theorem picks_congr {s t k : Nat} (h : ∀ i, i < k → bitB s i = bitB t i) : picks s k = picks t k := by
  unfold picks
  exact List.filter_congr fun i hi => h i (List.mem_range.1 hi)
theorem grant_picks (K : List Nat → Bool) : ∀ k, ∃ s, s < 2 ^ k ∧ picks s k = grantTo K k
  | 0 => ⟨0, by decide, rfl⟩
  | k + 1 => by
    obtain ⟨s, h1, h2⟩ := grant_picks K k
    unfold grantTo
    by_cases h : K (grantTo K k ++ [k]) = true
    · rw [if_pos h]
      refine ⟨2 ^ k + s, by rw [Nat.pow_succ]; omega, ?_⟩
      have e1 : bitB (2 ^ k + s) k = true := by rw [bitB_test, Nat.testBit_two_pow_add_eq, Nat.testBit_lt_two_pow h1]; rfl
      rw [picks_succ, if_pos e1, picks_congr (t := s) fun i hi => by rw [bitB_test, bitB_test, Nat.testBit_two_pow_add_gt hi], h2]
    · rw [if_neg h]
      refine ⟨s, by rw [Nat.pow_succ]; omega, ?_⟩
      have e1 : bitB s k = false := by rw [bitB_test, Nat.testBit_lt_two_pow h1]
      rw [picks_succ, e1, if_neg (by decide), h2]
/-- Numbers that are granted rise. -/
theorem grant_rise (K : List Nat → Bool) : ∀ k i j, i < j → j < (grantTo K k).length → (grantTo K k).getD i 0 < (grantTo K k).getD j 0
  | 0, i, j, _, hj => absurd hj (by simp [grantTo])
  | k + 1, i, j, hij, hj => by
    have ih := grant_rise K k
    have hl := (grantTo_lt K k).1
    have e0 : grantTo K (k + 1) = if K (grantTo K k ++ [k]) then grantTo K k ++ [k] else grantTo K k := rfl
    rw [e0] at hj ⊢
    by_cases h : K (grantTo K k ++ [k]) = true
    · rw [if_pos h] at hj ⊢
      rw [List.length_append, List.length_singleton] at hj
      have e1 : (grantTo K k ++ [k]).getD i 0 = (grantTo K k).getD i 0 := by
        rw [List.getD_eq_getElem?_getD, List.getD_eq_getElem?_getD, List.getElem?_append_left (by omega)]
      rw [e1]
      by_cases hjl : j < (grantTo K k).length
      · rw [List.getD_eq_getElem?_getD (l := grantTo K k ++ [k]), List.getElem?_append_left hjl, ← List.getD_eq_getElem?_getD]
        exact ih i j hij hjl
      · have e2 : (grantTo K k ++ [k]).getD j 0 = k := by
          rw [List.getD_eq_getElem?_getD, List.getElem?_append_right (by omega), show j - (grantTo K k).length = 0 by omega]; rfl
        rw [e2]
        exact hl _ (getD_mem (l := grantTo K k) (i := i) (by omega))
    · rw [if_neg h] at hj ⊢
      exact ih i j hij hj
theorem mem_kept {K : List Nat → Bool} {m s : Nat} (hs : s < 2 ^ m) (h : K (picks s m) = true) : s ∈ keptTo K m (2 ^ m) := by
  unfold keptTo; exact List.mem_filter.2 ⟨List.mem_range.2 hs, h⟩
/-- What is granted, where it is kept, is not better than the best one. -/
theorem best_ge {gt : Nat → Nat → Bool} (hg : Weak gt) {K : List Nat → Bool} {m : Nat} (h : K (grantTo K m) = true) : 0 < (keptTo K m (2 ^ m)).length ∧ ∃ s, picks s m = grantTo K m ∧ gt s (bestTo (over gt m) (keptTo K m (2 ^ m)) (keptTo K m (2 ^ m)).length) = false := by
  obtain ⟨s, h1, h2⟩ := grant_picks K m
  have hm := mem_kept (K := K) h1 (by rw [h2]; exact h)
  have hl : 0 < (keptTo K m (2 ^ m)).length := List.length_pos_of_mem hm
  refine ⟨hl, s, h2, ?_⟩
  have hb := best_over hg (l := keptTo K m (2 ^ m)) (m := m) (fun x y hx hy e => picks_inj (kept_lt hx) (kept_lt hy) e) _ hl (Nat.le_refl _)
  obtain ⟨j, hj⟩ := List.getElem?_of_mem hm
  have hjl : j < (keptTo K m (2 ^ m)).length := by
    rcases Nat.lt_or_ge j (keptTo K m (2 ^ m)).length with h | h
    · exact h
    · rw [List.getElem?_eq_none h] at hj; cases hj
  exact (hb.2 s ⟨j, hjl, by rw [List.getD_eq_getElem?_getD, hj]; rfl⟩).1
theorem few_ge {K : List Nat → Bool} {m : Nat} (h : K (grantTo K m) = true) : 0 < (keptTo K m (2 ^ m)).length ∧ (grantTo K m).length ≤ (picks (bestTo (over (fewGt m) m) (keptTo K m (2 ^ m)) (keptTo K m (2 ^ m)).length) m).length := by
  obtain ⟨h1, s, h2, h3⟩ := best_ge (few_weak m) h
  refine ⟨h1, ?_⟩
  unfold fewGt at h3
  rw [h2] at h3
  have := of_decide_eq_false h3
  unfold fewGt
  omega
theorem wat_ge {K : List Nat → Bool} {m : Nat} {Q : Nat → Pm} (h : K (grantTo K m) = true) : 0 < (keptTo K m (2 ^ m)).length ∧ sumOf Q (grantTo K m) ≤ sumOf Q (picks (bestTo (over (watGt m Q) m) (keptTo K m (2 ^ m)) (keptTo K m (2 ^ m)).length) m) := by
  obtain ⟨h1, s, h2, h3⟩ := best_ge (wat_weak m Q) h
  refine ⟨h1, ?_⟩
  rw [← h2]
  generalize bestTo (over (watGt m Q) m) (keptTo K m (2 ^ m)) (keptTo K m (2 ^ m)).length = r at *
  unfold watGt at h3
  rw [Bool.or_eq_false_iff] at h3
  have := of_decide_eq_false h3.1
  omega
/-- Where no permit at all is kept as well, some choice is kept. -/
theorem none_kept {K : List Nat → Bool} {m : Nat} (h : K [] = true) : 0 < (keptTo K m (2 ^ m)).length := by
  have e : picks 0 m = [] := by unfold picks; rw [List.filter_eq_nil_iff]; intro i _; unfold bitB; simp
  exact List.length_pos_of_mem (mem_kept (s := 0) (Nat.two_pow_pos m) (by rw [e]; exact h))
end Go.Proofs.YtokdpmpgonafmaaGreat
