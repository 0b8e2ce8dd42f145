import Derived.Test.YtdnnjahdcabdmaaGreatDoorMD12
import Derived.Test.YtdnnjahdcabdmaaGreatDoorMD13
import Derived.Maps.AppendAt
/- What a logger keeps of a head, in the program (logged) and in the reference (l07Logged). -/
namespace Go.Proofs.YtdnnjahdcabdmaaGreatDoor
open Go.ChangeShapes Go.WideShapes Go.ChangeAt Go.RowKit Ieee
set_option linter.unusedVariables false
set_option linter.unusedSimpArgs false
attribute [local irreducible] Calls

theorem magW_zero : magW 0 = 0 := by simp [magW]
theorem magW_bin (e : Nat) : magW ((e + 1) * 4503599627370496) = 4503599627370496 * pw e := by
  rw [magW_ge (by omega), pw_eq, show (e + 1) * 4503599627370496 % 4503599627370496 = 0 by omega, show (e + 1) * 4503599627370496 / 4503599627370496 - 1 = e by omega]
theorem magW_one : magW 4607182418800017408 = one64 := by
  have h := magW_bin 1022
  have h2 := one64_split 52 (by omega)
  rw [show pw 52 = 4503599627370496 by rw [pw_eq], show 1074 - 52 = 1022 from rfl] at h2
  rw [h2]
  exact h
theorem toInt_i16 {z : Nat} {n : Int} (h : Val double z (n * (one64 : Int))) (h1 : -32768 ≤ n) (h2 : n ≤ 32767) : floatToIntVal .f64 z .i16 = some n := by
  unfold floatToIntVal
  have hp := one64_pos
  have e := toInt64_val h
  rw [Int.mul_tdiv_cancel _ (by omega)] at e
  rw [e]
  show (if IntKind.i16.min ≤ n ∧ n ≤ IntKind.i16.max then some n else none) = some n
  rw [if_pos ⟨h1, h2⟩]
/-! ### The reference. -/
theorem word_form (s : Bool) (r : Nat) (h : r < 9218868437227405312) : ∃ m k : Nat, double.read (double.word s r) = .number s m (-1074 + (k : Int)) ∧ m < 9007199254740992 ∧ magW r = m * 2 ^ k ∧ k ≤ r / 4503599627370496 - 1 := by
  obtain ⟨hb, hi, hl, hs, hf⟩ := double_facts
  have := read_word double s r (by rw [hs]; omega)
  rw [hb, hi, hl] at this
  by_cases h1 : r < 4503599627370496
  · rw [if_pos h1] at this
    exact ⟨r, 0, by rw [this]; simp, by omega, by unfold magW; rw [if_pos h1]; simp, by omega⟩
  · rw [if_neg h1, if_pos h] at this
    exact ⟨_, r / 4503599627370496 - 1, this, by omega, by unfold magW; rw [if_neg h1], Nat.le_refl _⟩
theorem sg_bound (s : Bool) {q : Nat} (h : q ≤ 32767) : sg s q ≤ 32767 ∧ -32767 ≤ sg s q := by
  unfold sg
  cases s
  · simp only [Bool.false_eq_true, if_false]; omega
  · simp only [if_true]; omega
theorem sg_natAbs (s : Bool) (n : Nat) : (sg s n).natAbs = n := by unfold sg; cases s <;> simp
theorem sg_of (D : Int) (s : Bool) (h : D ≠ 0 → s = decide (D < 0)) : D = sg s D.natAbs := by
  by_cases h0 : D = 0
  · subst h0; unfold sg; cases s <;> simp
  · rw [h h0]; unfold sg
    by_cases h1 : D < 0
    · rw [decide_eq_true h1, if_pos rfl]; omega
    · rw [decide_eq_false h1]; simp only [Bool.false_eq_true, if_false]; omega
/-- A difference of few digits is exact. -/
theorem sub_exact {y z : Nat} {s : Bool} {m k : Nat} {Y : Int} (hy : double.read y = .number s m (-1074 + (k : Int))) (hz : Val double z Y) (m2 : Nat) (hd : (sg s (m * 2 ^ k) - Y).natAbs = m2 * 2 ^ k) (hm2 : m2 < 9007199254740992) (hk : k ≤ 2044) :
    ∃ x, floatBits .sub .f64 y z = some x ∧ Val double x (sg s (m * 2 ^ k) - Y) := by
  obtain ⟨t, n, l, h2, rfl⟩ := hz
  rw [double_facts.2.2.1] at h2
  show ∃ x, ((double.read y).sum (double.read z).opposite).map double.write = some x ∧ _
  rw [hy, h2]
  simp only [Datum.opposite, Datum.sum, Option.map_some]
  obtain ⟨u, hu⟩ : ∃ u, u = min k l := ⟨_, rfl⟩
  have e0 : min (-1074 + (k : Int)) (-1074 + (l : Int)) = -1074 + (u : Int) := by omega
  rw [e0, show (-1074 + (k : Int) - (-1074 + (u : Int))).toNat = k - u by omega, show (-1074 + (l : Int) - (-1074 + (u : Int))).toNat = l - u by omega, signed_sg, signed_sg]
  have eD : (sg s (m * 2 ^ (k - u)) + sg (!t) (n * 2 ^ (l - u))) * (2 ^ u : Nat) = sg s (m * 2 ^ k) - sg t (n * 2 ^ l) := by
    rw [Int.add_mul, ← sg_mul, ← sg_mul, Nat.mul_assoc, Nat.mul_assoc, ← Nat.pow_add, ← Nat.pow_add, Nat.sub_add_cancel (by omega), Nat.sub_add_cancel (by omega)]
    have : sg (!t) (n * 2 ^ l) = - sg t (n * 2 ^ l) := by unfold sg; cases t <;> simp
    rw [this]; omega
  rw [← eD] at hd ⊢
  generalize sg s (m * 2 ^ (k - u)) + sg (!t) (n * 2 ^ (l - u)) = D at *
  have hA : D.natAbs = m2 * 2 ^ (k - u) := by
    rw [Int.natAbs_mul, Int.natAbs_natCast, show m2 * 2 ^ k = m2 * 2 ^ (k - u) * 2 ^ u by rw [Nat.mul_assoc, ← Nat.pow_add, Nat.sub_add_cancel (by omega)]] at hd
    exact Nat.eq_of_mul_eq_mul_right (Nat.two_pow_pos _) hd
  obtain ⟨r, g1, g2, g3⟩ := nearest_exact (if D = 0 then s && !t else decide (D < 0)) m2 (k - u) u hm2 (by omega)
  refine ⟨_, rfl, ?_⟩
  show Val double (double.nearest (if D = 0 then s && !t else decide (D < 0)) D.natAbs (-1074 + (u : Int))) _
  rw [hA, g1]
  have := val_word (if D = 0 then s && !t else decide (D < 0)) r g2
  rw [g3, Nat.pow_add, ← Nat.mul_assoc, ← hA, sg_mul, ← sg_of D _ (fun h => by rw [if_neg h])] at this
  exact this
theorem rnd_split (M H : Nat) (h : one64 = 2 * H) : rnd M = M / one64 + if H ≤ M % one64 then 1 else 0 := by
  have hp := one64_pos
  have hdm := Nat.div_add_mod M one64
  have hlt := Nat.mod_lt M hp
  unfold rnd
  generalize M % one64 = ρ at *
  generalize M / one64 = q at *
  have e : 2 * M + one64 = 2 * one64 * q + (2 * ρ + one64) := by rw [← hdm, Nat.mul_add, Nat.mul_assoc]; omega
  rw [e, Nat.mul_add_div (by omega)]
  congr 1
  by_cases h1 : H ≤ ρ
  · rw [if_pos h1, Nat.div_eq_iff (by omega)]; omega
  · rw [if_neg h1, Nat.div_eq_iff (by omega)]; omega
/-- What is left of a number where its whole part is taken away. -/
theorem rest_val (s : Bool) (r : Nat) (hr : r < 9218868437227405312) (he : r / 4503599627370496 < 1075) (hq : magW r / one64 < 9007199254740992) :
    ∃ x, floatBits .sub .f64 (double.word s r) (floatOfInt .f64 (sg s (magW r / one64))) = some x ∧ Val double x (sg s (magW r % one64)) := by
  obtain ⟨m, k, h1, h2, h3, h4⟩ := word_form s r hr
  have hfn : Val double (floatOfInt .f64 (sg s (magW r / one64))) (sg s (magW r / one64) * (one64 : Int)) := by
    generalize magW r / one64 = q at *
    show Val double (double.nearest (decide (sg s q < 0)) (sg s q).natAbs 0) _
    obtain ⟨c, hc⟩ : ∃ c : Nat, c = 1074 := ⟨_, rfl⟩
    have hone : one64 = pw c := by rw [hc]; rfl
    obtain ⟨r', g1, g2, g3⟩ := nearest_exact (decide (sg s q < 0)) q 0 c hq (by omega)
    rw [Nat.pow_zero, Nat.mul_one, show (-1074 + (c : Int)) = 0 by omega] at g1
    rw [sg_natAbs, g1]
    have := val_word (decide (sg s q < 0)) r' g2
    rw [g3, Nat.zero_add, ← pw_eq, ← hone, sg_mul] at this
    have e : sg (decide (sg s q < 0)) q = sg s q := by
      have := sg_of (sg s q) (decide (sg s q < 0)) (fun _ => rfl)
      rw [sg_natAbs] at this
      exact this.symm
    rw [e] at this
    exact this
  have hd : sg s (m * 2 ^ k) - sg s (magW r / one64) * (one64 : Int) = sg s (magW r % one64) := by
    rw [← h3, ← sg_mul]
    have := Nat.div_add_mod (magW r) one64
    rw [Nat.mul_comm] at this
    unfold sg
    cases s
    · simp only [Bool.false_eq_true, if_false]; omega
    · simp only [if_true]; omega
  have ho : one64 = 2 ^ k * 2 ^ (1074 - k) := by rw [one64_split k (by omega), pw_eq, pw_eq]
  have hm : magW r % one64 = m % 2 ^ (1074 - k) * 2 ^ k := by
    rw [h3, ho, Nat.mul_comm m, Nat.mul_mod_mul_left, Nat.mul_comm]
  obtain ⟨x, g1, g2⟩ := sub_exact h1 hfn (m % 2 ^ (1074 - k)) (by rw [hd, sg_natAbs, hm]) (Nat.lt_of_le_of_lt (Nat.mod_le _ _) h2) (by omega)
  rw [hd] at g2
  exact ⟨x, g1, g2⟩

theorem order_f64_ge {a b : Nat} {x y : Int} (ha : Val double a x) (hb : Val double b y) : (FloatKind.f64.format.order a b == some .gt || FloatKind.f64.format.order a b == some .eq) = decide (y ≤ x) := order_ge ha hb
theorem order_f64_le {a b : Nat} {x y : Int} (ha : Val double a x) (hb : Val double b y) : (FloatKind.f64.format.order a b == some .lt || FloatKind.f64.format.order a b == some .eq) = decide (x ≤ y) := order_le ha hb
theorem lgv_pos {s : Bool} {r : Nat} (h : 32767 * (one64 : Int) ≤ sg s (magW r)) : lgv s r = 32767 := by
  have hp := one64_pos
  have hr := rnd_split
  unfold sg at h
  cases s
  · simp only [Bool.false_eq_true, if_false] at h
    have : 32767 ≤ rnd (magW r) := by
      unfold rnd
      rw [Nat.le_div_iff_mul_le (by omega)]
      have : 32767 * one64 ≤ magW r := by omega
      omega
    unfold lgv sg
    simp only [Bool.false_eq_true, if_false]
    omega
  · simp only [if_true] at h; omega
theorem lgv_neg {s : Bool} {r : Nat} (h : sg s (magW r) ≤ -32768 * (one64 : Int)) : lgv s r = -32768 := by
  have hp := one64_pos
  unfold sg at h
  cases s
  · simp only [Bool.false_eq_true, if_false] at h; omega
  · simp only [if_true] at h
    have : 32768 ≤ rnd (magW r) := by
      unfold rnd
      rw [Nat.le_div_iff_mul_le (by omega)]
      have : 32768 * one64 ≤ magW r := by omega
      omega
    unfold lgv sg
    simp only [if_true]
    omega
theorem clamp_mid {x : Int} (h1 : -32768 ≤ x) (h2 : x ≤ 32767) : max (min x 32767) (-32768) = x := by rw [Int.min_eq_left h2, Int.max_eq_left h1]
/-- The number that the reference ends with, between both bounds. -/
theorem lgv_mid {s : Bool} {r H : Nat} (hH : one64 = 2 * H) (h1 : ¬ 32767 * (one64 : Int) ≤ sg s (magW r)) (h2 : ¬ sg s (magW r) ≤ -32768 * (one64 : Int)) :
    magW r / one64 ≤ 32767 ∧ -32768 ≤ lgv s r ∧ lgv s r ≤ 32767 ∧ lgv s r = sg s (magW r / one64) + (if (H : Int) ≤ sg s (magW r % one64) then 1 else 0) - (if sg s (magW r % one64) ≤ -(H : Int) then 1 else 0) := by
  have hp := one64_pos
  have hs := rnd_split (magW r) H hH
  have hdm := Nat.div_add_mod (magW r) one64
  have hlt := Nat.mod_lt (magW r) hp
  have hq : magW r / one64 ≤ 32767 := by
    have : magW r < 32768 * one64 := by
      unfold sg at h1 h2
      cases s
      · simp only [Bool.false_eq_true, if_false] at h1; omega
      · simp only [if_true] at h2; omega
    have := (Nat.div_lt_iff_lt_mul hp).2 this
    omega
  have hq2 : s = false → magW r / one64 ≤ 32766 := by
    intro h; subst h
    unfold sg at h1
    simp only [Bool.false_eq_true, if_false] at h1
    have : magW r < 32767 * one64 := by omega
    have := (Nat.div_lt_iff_lt_mul hp).2 this
    omega
  refine ⟨hq, by unfold lgv; omega, by unfold lgv; omega, ?_⟩
  unfold lgv
  rw [hs]
  generalize magW r % one64 = ρ at *
  generalize magW r / one64 = q at *
  clear h1 h2 hs hdm
  unfold sg
  cases s
  · have hq3 := hq2 rfl
    clear hq2
    simp only [Bool.false_eq_true, if_false]
    by_cases h : H ≤ ρ
    · rw [if_pos h, if_pos (show (H : Int) ≤ ρ by omega), if_neg (by omega), clamp_mid (by omega) (by omega)]; omega
    · rw [if_neg h, if_neg (show ¬ (H : Int) ≤ ρ by omega), if_neg (by omega), clamp_mid (by omega) (by omega)]; omega
  · clear hq2
    simp only [if_true]
    by_cases h : H ≤ ρ
    · rw [if_pos h, if_neg (by omega), if_pos (by omega), clamp_mid (by omega) (by omega)]; omega
    · rw [if_neg h, if_neg (by omega), if_neg (by omega), clamp_mid (by omega) (by omega)]; omega
end Go.Proofs.YtdnnjahdcabdmaaGreatDoor
/- The reference's source of choices (l00Src), whatever bytes it reads: what it picks lies within its bounds, and it changes its own block alone. -/
namespace Go.Proofs.YtdnnjahdcabdmaaGreatDoor
open Go.ChangeShapes Go.WideShapes Go.ChangeAt Go.RowKit
set_option linter.unusedVariables false
set_option linter.unusedSimpArgs false
attribute [local irreducible] Calls

/-- The bytes that a slice holds lie below block B. -/
def Bytes (w : World) (B : Nat) (v : Value) (n : Nat) : Prop :=
  ∃ (a : Option Addr) (c : Nat), v = .slice a n c ∧ n ≤ 4096 ∧ ∀ j, j < n → ∃ (r o x : Nat), a = some ⟨r, o, none⟩ ∧ r < B ∧ x < 256 ∧ w.cell? ⟨r, o + j, none⟩ = some (.int .u8 x)
theorem Bytes.move {w w' : World} {B : Nat} {v : Value} {n : Nat} (h : Bytes w B v n) (hh : ∀ r, r < B → w'.heap[r]? = w.heap[r]?) : Bytes w' B v n := by
  obtain ⟨a, c, hv, hn, hc⟩ := h
  refine ⟨a, c, hv, hn, fun j hj => ?_⟩
  obtain ⟨r, o, x, h1, h2, h3, h4⟩ := hc j hj
  exact ⟨r, o, x, h1, h2, h3, (World.cell?_of_block (w := w) (w' := w') (a := ⟨r, o + j, none⟩) (hh r h2)).trans h4⟩
/-- The source at block b has been asked at most k times. -/
def Src (w : World) (b k : Nat) : Prop := ∃ (v : Value) (n i : Nat) (sd : Int), Blk w b #[v, .int .i64 i, .int .u64 sd] 149 ∧ i ≤ k ∧ 0 ≤ sd ∧ sd < 18446744073709551616 ∧ Bytes w b v n
theorem Src.lt {w : World} {b k : Nat} (h : Src w b k) : b < w.heap.size := by obtain ⟨_, _, _, _, h, _⟩ := h; exact h.lt
theorem Src.mono {w : World} {b k k' : Nat} (h : Src w b k) (hk : k ≤ k') : Src w b k' := by
  obtain ⟨v, n, i, sd, h1, h2, h3⟩ := h
  exact ⟨v, n, i, sd, h1, by omega, h3⟩
theorem Src.move {w w' : World} {b k : Nat} (h : Src w b k) (hh : ∀ r, r ≤ b → w'.heap[r]? = w.heap[r]?) : Src w' b k := by
  obtain ⟨v, n, i, sd, h1, h2, h3, h4, h5⟩ := h
  exact ⟨v, n, i, sd, (hh b (Nat.le_refl _)).trans h1, h2, h3, h4, h5.move fun r hr => hh r (by omega)⟩
theorem wrap_u64_bd (z : Int) : 0 ≤ IntKind.u64.wrap z ∧ IntKind.u64.wrap z < 18446744073709551616 := by rw [IntKind.wrap_u64]; omega
/-- What a source gives: a number with P, the source a little later, and nothing else changed. -/
def Gave (w : World) (b k : Nat) (P : Int → Prop) (e : Ending) (w' : World) : Prop := ∃ x : Int, P x ∧ e = .returned (.int .i64 x) ∧ Src w' b k ∧ w.grownBy w' (some b)
theorem and255 (sd : Int) (h0 : 0 ≤ sd) (h1 : sd < 18446744073709551616) : ∃ x : Nat, x < 256 ∧ bits .and .u64 (sd / 1099511627776) 255 = (x : Int) := by
  obtain ⟨a, rfl⟩ : ∃ a : Nat, sd = a := ⟨sd.toNat, by omega⟩
  refine ⟨a / 1099511627776 % 256, Nat.mod_lt _ (by decide), ?_⟩
  exact and_low (a / 1099511627776) 8 (by omega) (by omega)
theorem grown_set (w : World) (b i : Nat) (v : Value) : w.grownBy (w.setCell ⟨b, i, none⟩ v) (some b) := ⟨rfl, rfl, rfl, by simp, fun j hj hne => heap_setCell_other w ⟨b, i, none⟩ j v (fun e => hne (by rw [e]))⟩
theorem grown_drewN (w : World) (q : Nat) (row : Option Nat) : w.grownBy (w.drewN q) row := ⟨rfl, rfl, rfl, Nat.le_refl _, fun _ _ _ => rfl⟩
theorem src_turn {w : World} {b k i n : Nat} {sd : Int} {v : Value} (hB : Blk w b #[v, .int .i64 i, .int .u64 sd] 149) (hik : i ≤ k) (hby : Bytes w b v n) (m q : Nat) (z : Int) :
    Src ((((w.drewN m).setCell ⟨b, 1, none⟩ (.int .i64 ((i : Int) + 1))).setCell ⟨b, 2, none⟩ (.int .u64 (IntKind.u64.wrap z))).drewN q) b (k + 1) ∧ w.grownBy ((((w.drewN m).setCell ⟨b, 1, none⟩ (.int .i64 ((i : Int) + 1))).setCell ⟨b, 2, none⟩ (.int .u64 (IntKind.u64.wrap z))).drewN q) (some b) := by
  have hg : w.grownBy ((((w.drewN m).setCell ⟨b, 1, none⟩ (.int .i64 ((i : Int) + 1))).setCell ⟨b, 2, none⟩ (.int .u64 (IntKind.u64.wrap z))).drewN q) (some b) :=
    (((grown_drewN w m _).trans (grown_set _ b 1 _)).trans (grown_set _ b 2 _)).trans (grown_drewN _ q _)
  refine ⟨⟨v, n, i + 1, IntKind.u64.wrap z, ?_, by omega, (wrap_u64_bd z).1, (wrap_u64_bd z).2, hby.move fun r hr => hg.block r (by have := hB.lt; omega) (fun e => by injection e; omega)⟩, hg⟩
  have h1 := (((hB.drewN m).setCell 1 (.int .i64 ((i : Int) + 1))).setCell 2 (.int .u64 (IntKind.u64.wrap z))).drewN q
  exact h1
set_option maxRecDepth 100000 in
set_option maxHeartbeats 400000 in
theorem next_any (b k : Nat) (hk : k < 1000000) (w : World) (hs : Src w b k) :
    Calls Tryz.prog 101 #[.pointer (some ⟨b, 0, none⟩)] w (Gave w b (k + 1) fun x => 0 ≤ x ∧ x < 256) := by
  obtain ⟨v, n, i, sd, hB, hik, h0, h1, hby⟩ := hs
  have hby' := hby
  obtain ⟨a, c, rfl, hn, hc⟩ := hby'
  have c0 := hB.cell 0
  have c1 := hB.cell 1
  have c2 := hB.cell 2
  have f1 := hB.free 1
  have f2 := hB.free 2
  simp only [List.getElem?_toArray, List.getElem?_cons_zero, List.getElem?_cons_succ] at c0 c1 c2
  have d0 : (0 : Int) ≤ i := by omega
  by_cases hlt : i < n
  · obtain ⟨r, o, x, rfl, hr, hx, hcx⟩ := hc i hlt
    have d1 : (i : Int) < n := by omega
    have d2 : (i : Int) + 1 ≤ n := by omega
    have hne : r ≠ b := by omega
    clear hc
    go_enter Tryz.func101, Tryz.ntmps101
    go_wp2_with fail
    go_quiet (fail)
    go_wp2_with fail
    go_quiet (fail)
    go_wp2_with fail
    go_quiet (fail)
    go_wp2_with fail
    go_ret
    exact ⟨x, ⟨by omega, by omega⟩, rfl, src_turn hB hik hby _ _ _⟩
  · have d1 : ¬ (i : Int) < n := by omega
    have d2 : ¬ (i : Int) + 1 ≤ n := by omega
    clear hc
    go_enter Tryz.func101, Tryz.ntmps101
    go_wp2_with fail
    go_quiet (fail)
    go_wp2_with fail
    go_quiet (fail)
    go_wp2_with fail
    go_ret
    refine ⟨_, ?_, rfl, src_turn hB hik hby _ _ _⟩
    obtain ⟨x, hx, he⟩ := and255 _ (wrap_u64_bd (IntKind.u64.wrap (IntKind.u64.wrap (sd * 6364136223846793005)) + 1442695040888963407)).1 (wrap_u64_bd _).2
    rw [he]
    show 0 ≤ wrap64 (x : Int) ∧ wrap64 (x : Int) < 256
    unfold wrap64
    omega

set_option maxRecDepth 100000 in
set_option maxHeartbeats 400000 in
theorem pick_any (b k : Nat) (n : Int) (hk : k + 1 < 1000000) (h1 : 1 ≤ n) (h2 : n ≤ 1099511627776) (w : World) (hs : Src w b k) :
    Calls Tryz.prog 44 #[.pointer (some ⟨b, 0, none⟩), .int .i64 n] w (Gave w b (k + 2) fun x => 0 ≤ x ∧ x < n) := by
  have hx := next_any b k (by omega) w hs
  by_cases c1 : n ≤ 1
  · clear hx
    go_enter Tryz.func44, Tryz.ntmps44
    go_wp2_with fail
    go_ret
    exact ⟨0, ⟨by omega, by omega⟩, rfl, hs.mono (by omega), World.grownBy.refl _ _⟩
  · by_cases c2 : n ≤ 200
    · have c2' : decide (n > 200) = false := by simp; omega
      go_enter Tryz.func44, Tryz.ntmps44
      go_wp2_with (go_at_call 101; refine hx.mono ?_; rintro e w1 ⟨x, ⟨x0, x1⟩, rfl, hs1, hg1⟩)
      go_ret
      exact ⟨x % n, ⟨Int.emod_nonneg _ (by omega), Int.emod_lt_of_pos _ (by omega)⟩, rfl, hs1.mono (by omega), hg1⟩
    · have c2' : decide (n > 200) = true := by simp; omega
      have hx2 := fun w1 hs1 => next_any b (k + 1) (by omega) w1 hs1
      go_enter Tryz.func44, Tryz.ntmps44
      go_upto_region 5 with (go_at_call 101; refine hx.mono ?_; rintro e w1 ⟨x, ⟨x0, x1⟩, rfl, hs1, hg1⟩)
      go_wp2_with (go_at_call 101; refine (hx2 _ hs1).mono ?_; rintro e w2 ⟨y, ⟨y0, y1⟩, rfl, hs2, hg2⟩)
      go_ret
      exact ⟨(x * 256 + y) % n, ⟨Int.emod_nonneg _ (by omega), Int.emod_lt_of_pos _ (by omega)⟩, rfl, hs2, hg1.trans hg2⟩
/-- The same with a Bool. -/
def GaveB (w : World) (b k : Nat) (e : Ending) (w' : World) : Prop := ∃ x : Bool, e = .returned (.bool x) ∧ Src w' b k ∧ w.grownBy w' (some b)
set_option maxRecDepth 100000 in
set_option maxHeartbeats 400000 in
theorem one_any (b k : Nat) (n : Int) (hk : k + 1 < 1000000) (h1 : 1 ≤ n) (h2 : n ≤ 1099511627776) (w : World) (hs : Src w b k) :
    Calls Tryz.prog 117 #[.pointer (some ⟨b, 0, none⟩), .int .i64 n] w (GaveB w b (k + 2)) := by
  have hx := pick_any b k n hk h1 h2 w hs
  go_enter Tryz.func117, Tryz.ntmps117
  go_wp2_with (go_at_call 44; refine hx.mono ?_; rintro e w1 ⟨x, ⟨x0, x1⟩, rfl, hs1, hg1⟩)
  go_ret
  exact ⟨x == 0, rfl, hs1, hg1⟩
/-- The same with a number of single precision. -/
def GaveF (w : World) (b k : Nat) (P : Nat → Prop) (e : Ending) (w' : World) : Prop := ∃ x : Nat, P x ∧ e = .returned (.float .f32 x) ∧ Src w' b k ∧ w.grownBy w' (some b)
theorem fres_some {op : BinOp} {x y r : Nat} {w : World} (h : floatBits op .f32 x y = some r) : fres op x y w = r := by unfold fres; rw [h]; rfl
theorem fcnt_some {op : BinOp} {x y r : Nat} (h : floatBits op .f32 x y = some r) : fcnt op x y = 0 := by unfold fcnt; rw [h]; rfl
/-- Some quarters. -/
def fewOf (x : Nat) : Nat := (floatBits .quo .f32 (floatOfInt .f32 ((x : Int) - 32)) 1082130432).getD 0
def conOf (x : Nat) : Nat := (floatBits .quo .f32 (floatOfInt .f32 (1 + (x : Int))) 1082130432).getD 0
def headOf (x : Nat) : Nat := (floatBits .add .f32 1092616192 (fewOf x)).getD 0
theorem few_all : ∀ x : Nat, x < 65 → (floatBits .quo .f32 (floatOfInt .f32 ((x : Int) - 32)) 1082130432).isSome = true ∧ (floatBits .add .f32 1092616192 (fewOf x)).isSome = true ∧ plain (fewOf x) = true ∧ plain (headOf x) = true := by
  have h : (List.range 65).all (fun (x : Nat) => (floatBits .quo .f32 (floatOfInt .f32 ((x : Int) - 32)) 1082130432).isSome && (floatBits .add .f32 1092616192 (fewOf x)).isSome && plain (fewOf x) && plain (headOf x)) = true := by kernel_rfl
  intro x hx
  have := List.all_eq_true.1 h x (List.mem_range.2 hx)
  simpa [and_assoc] using this
theorem con_all : ∀ x : Nat, x < 12 → (floatBits .quo .f32 (floatOfInt .f32 (1 + (x : Int))) 1082130432).isSome = true ∧ amount (conOf x) = true := by
  have h : (List.range 12).all (fun (x : Nat) => (floatBits .quo .f32 (floatOfInt .f32 (1 + (x : Int))) 1082130432).isSome && amount (conOf x)) = true := by kernel_rfl
  intro x hx
  have := List.all_eq_true.1 h x (List.mem_range.2 hx)
  simpa using this
theorem few_is {x : Nat} (h : x < 65) : floatBits .quo .f32 (floatOfInt .f32 ((x : Int) - 32)) 1082130432 = some (fewOf x) := by
  obtain ⟨r, hr⟩ := Option.isSome_iff_exists.1 (few_all x h).1
  unfold fewOf; rw [hr]; rfl
theorem head_is {x : Nat} (h : x < 65) : floatBits .add .f32 1092616192 (fewOf x) = some (headOf x) := by
  obtain ⟨r, hr⟩ := Option.isSome_iff_exists.1 (few_all x h).2.1
  unfold headOf; rw [hr]; rfl
theorem con_is {x : Nat} (h : x < 12) : floatBits .quo .f32 (floatOfInt .f32 (1 + (x : Int))) 1082130432 = some (conOf x) := by
  obtain ⟨r, hr⟩ := Option.isSome_iff_exists.1 (con_all x h).1
  unfold conOf; rw [hr]; rfl
theorem float_eq {k : FloatKind} {a b : Nat} (h : a = b) : Ending.returned (.float k a) = Ending.returned (.float k b) := by rw [h]
set_option maxRecDepth 100000 in
set_option maxHeartbeats 400000 in
theorem l01Few_any (b k : Nat) (hk : k + 1 < 1000000) (w : World) (hs : Src w b k) :
    Calls Tryz.prog 118 #[.pointer (some ⟨b, 0, none⟩)] w (GaveF w b (k + 2) fun r => ∃ x, x < 65 ∧ r = fewOf x) := by
  have hx := pick_any b k 65 hk (by omega) (by omega) w hs
  go_enter Tryz.func118, Tryz.ntmps118
  go_wp2_with (go_at_call 44; refine hx.mono ?_; rintro e w1 ⟨x, ⟨x0, x1⟩, rfl, hs1, hg1⟩)
  go_ret
  obtain ⟨m, rfl⟩ : ∃ m : Nat, x = m := ⟨x.toNat, by omega⟩
  have hf := few_is (x := m) (by omega)
  exact ⟨fewOf m, ⟨m, by omega, rfl⟩, float_eq (fres_some hf), by rw [fcnt_some hf]; exact hs1, by rw [fcnt_some hf]; exact hg1⟩
end Go.Proofs.YtdnnjahdcabdmaaGreatDoor
