import Derived.Test.YtokdpmpgonafmaaGreatMG33
import Derived.Test.YtokdpmpgonafmaaGreatMG34
import Derived.Test.YtokdpmpgonafmaaGreatMG35
import Derived.Test.YtokdpmpgonafmaaGreatMG37
import Derived.Test.YtokdpmpgonafmaaGreatMG25
import Derived.Test.YtokdpmpgonafmaaGreatMG44
import Derived.Test.YtokdpmpgonafmaaGreatMG41
import Derived.Test.YtokdpmpgonafmaaGreatMG22
/- Plain laws on what is granted, for FnGrants: what the functions return for a drawn office and drawn permits. -/
namespace Go.Proofs.YtokdpmpgonafmaaGreat
set_option linter.unusedVariables false
set_option linter.unusedSimpArgs false
/-- What the functions of permits return where all is drawn: D is granted, N0 says whether none at all are kept, C is the code of the best ones. -/
structure GrFacts (g : Gr) (n : Nat) (P : Nat → Wt) (m : Nat) (Q : Nat → Pm) (D : List Nat) (N0 : Bool) (C : Int) : Prop where
  gioL : gioL g n P m Q = D
  gioN : gioN g n P m Q = D.length
  gioC : (gioT g n P m Q).2 = 0
  len : D.length ≤ m
  lt : ∀ i, i < D.length → D.getD i 0 < m
  rise : ∀ i j, i < j → j < D.length → D.getD i 0 < D.getD j 0
  cg : cgT g n P m Q D.length (fun i => (D.getD i 0 : Nat)) = (true, 0)
  cgt : 0 < D.length → ∀ f, cgT g n P m Q (D.length - 1) f = (false, 0)
  few : (fwT g n P m Q).2 = C
  wat : (mwT g n P m Q).2 = C
  code : C = 0 ∨ C = 6
  none : akT g n P 0 (pickP Q []) = (N0, 0)
  noneC : N0 = true → C = 0
  some : akT g n P D.length (pickP Q D) = (N0 || decide (0 < D.length), 0)
  best : C = 0 → (N0 || decide (0 < D.length)) = true → D.length ≤ fwN g n P m Q ∧ sumOf Q D ≤ mwS g n P m Q
  pc : (gpT g n P m Q).2 = 0 → (0 ≤ (gpT g n P m Q).1 ∧ (gpT g n P m Q).1 ≤ 100) ∧ scN m Q (gpT g n P m Q).1 = m ∧ scC m Q (gpT g n P m Q).1 = 0 ∧ akT g n P m (fun i => scl (gpT g n P m Q).1 (Q i)) = (true, 0) ∧ ∀ i, i < m → (scl (gpT g n P m Q).1 (Q i)).ok
  pcC : (gpT g n P m Q).2 = 0 ∨ (gpT g n P m Q).2 = 6
  rat : ∀ i, i < m → 0 ≤ (Q i).rat ∧ (Q i).rat ≤ 400
theorem validP_sub {g : Gr} {n m k : Nat} {P : Nat → Wt} {Q R : Nat → Pm} (h : validP g n P m Q = true) (hk : k ≤ 6) (hR : ∀ i, i < k → badPG g (R i) = false) : validP g n P k R = true := by
  unfold validP at h ⊢
  simp only [Bool.and_eq_true, decide_eq_true_eq, Bool.not_eq_true'] at h ⊢
  exact ⟨h.1, hk, anyTo_false.2 hR⟩
theorem downT_is (K : Int → Bool) : ∀ k, ((downT K k).2 = 0 ∧ 0 ≤ (downT K k).1 ∧ (downT K k).1 < k ∧ K (downT K k).1 = true) ∨ (downT K k).2 = 6
  | 0 => .inr rfl
  | k + 1 => by
    unfold downT
    by_cases h : K k = true
    · rw [if_pos h]; exact .inl ⟨rfl, by show (0 : Int) ≤ (k : Int); omega, by show (k : Int) < ((k + 1 : Nat) : Int); omega, h⟩
    · rw [if_neg h]
      rcases downT_is K k with ⟨h1, h2, h3, h4⟩ | h1
      · exact .inl ⟨h1, h2, by omega, h4⟩
      · exact .inr h1
theorem scl_rate {pc r : Int} (h : 0 ≤ pc ∧ pc ≤ 100) (hr : 0 ≤ r ∧ r ≤ 400) : 0 ≤ r * pc / 100 ∧ r * pc / 100 ≤ 400 := by
  have m1 : 0 ≤ r * pc := Int.mul_nonneg hr.1 h.1
  have m2 : r * pc ≤ 400 * 100 := Int.mul_le_mul hr.2 h.2 h.1 (by decide)
  omega
theorem badPG_scl {g : Gr} {pc : Int} {p : Pm} (h : 0 ≤ pc ∧ pc ≤ 100) (hp : badPG g p = false) : badPG g (scl pc p) = false := by
  unfold badPG at hp ⊢
  simp only [Bool.or_eq_false_iff] at hp ⊢
  obtain ⟨h1, h2, h3⟩ := hp
  have h4 := rate_bad p
  rw [h2] at h4
  simp at h4
  have h5 := scl_rate h h4
  refine ⟨h1, ?_, h3⟩
  unfold badRate scl
  simp
  omega
theorem gr_facts {g : Gr} {n m : Nat} {P : Nat → Wt} {Q : Nat → Pm} (hV : validP g n P m Q = true) (hm : m ≤ 3) (hQ : ∀ i, i < m → (Q i).ok) : ∃ D N0 C, GrFacts g n P m Q D N0 C := by
  obtain ⟨hvg, hvo, hci, hm6, hbp⟩ := validP_use hV
  have hl := grantTo_lt (grK g n P Q) m
  have hkD := grant_kept (grK g n P Q) m
  have hrat := validP_rates hV
  have hbest := fun h => (few_ge (K := grK g n P Q) (m := m) h).2
  have hwat := fun h => (wat_ge (K := grK g n P Q) (m := m) (Q := Q) h).2
  have hnk := none_kept (K := grK g n P Q) (m := m)
  have hmem : ∀ i, i < (grantTo (grK g n P Q) m).length → (grantTo (grK g n P Q) m).getD i 0 < m := fun i hi => hl.1 _ (getD_mem hi)
  have e6 : (fwT g n P m Q).2 = if (keptTo (grK g n P Q) m (2 ^ m)).length = 0 then 6 else 0 := by
    unfold fwT bsT; rw [if_pos hV]; split <;> rfl
  have e7 : (mwT g n P m Q).2 = if (keptTo (grK g n P Q) m (2 ^ m)).length = 0 then 6 else 0 := by
    unfold mwT bsT; rw [if_pos hV]; split <;> rfl
  have hks : (grK g n P Q (grantTo (grK g n P Q) m)) = (grK g n P Q [] || decide (0 < (grantTo (grK g n P Q) m).length)) := by
    rcases hkD with h | h
    · rw [h]; simp
    · rw [h]
      cases hd : grantTo (grK g n P Q) m with
      | nil => rw [hd] at h; simp [h]
      | cons a l => simp
  refine ⟨grantTo (grK g n P Q) m, grK g n P Q [], if (keptTo (grK g n P Q) m (2 ^ m)).length = 0 then 6 else 0, ?_⟩
  refine { gioL := by unfold Go.Proofs.YtokdpmpgonafmaaGreat.gioL; rw [if_pos hV], gioN := ?_, gioC := by unfold gioT; rw [hV]; rfl, len := hl.2, lt := hmem, rise := grant_rise _ m, cg := ?_, cgt := ?_, few := e6, wat := e7, code := by split <;> simp, none := ?_, noneC := fun h => ?_, some := ?_, best := fun hC hk => ?_, pc := fun h => ?_, pcC := ?_, rat := hrat }
  · unfold Go.Proofs.YtokdpmpgonafmaaGreat.gioN Go.Proofs.YtokdpmpgonafmaaGreat.gioL; rw [if_pos hV]
  · unfold cgT; rw [if_pos hV]
    have : sameIL (grantTo (grK g n P Q) m).length (grantTo (grK g n P Q) m).length (fun i => ((grantTo (grK g n P Q) m).getD i 0 : Nat)) (fun i => ((grantTo (grK g n P Q) m).getD i 0 : Nat)) = true := by
      unfold sameIL
      rw [(anyTo_false (q := fun i => (((grantTo (grK g n P Q) m).getD i 0 : Nat) : Int) != (((grantTo (grK g n P Q) m).getD i 0 : Nat) : Int)) (P := fun i : Nat => i)).2 (fun i hi => by simp)]; simp
    rw [this]
  · intro h0 f
    unfold cgT; rw [if_pos hV]
    have : sameIL (grantTo (grK g n P Q) m).length ((grantTo (grK g n P Q) m).length - 1) (fun i => ((grantTo (grK g n P Q) m).getD i 0 : Nat)) f = false := by
      unfold sameIL
      have : ((grantTo (grK g n P Q) m).length == (grantTo (grK g n P Q) m).length - 1) = false := by simp; omega
      rw [this]; rfl
    rw [this]
  · unfold akT; rw [if_pos (validP_sub hV (by omega) (fun i hi => by omega))]; rfl
  · have := hnk h; rw [if_neg (by omega)]
  · unfold akT
    have hvs : validP g n P (grantTo (grK g n P Q) m).length (pickP Q (grantTo (grK g n P Q) m)) = true := validP_sub hV (by omega) (fun i hi => hbp _ (hmem i hi))
    rw [if_pos hvs]
    exact Prod.ext hks rfl
  · rw [← hks] at hk
    have h1 := hbest hk
    have h2 := hwat hk
    have hne : (keptTo (grK g n P Q) m (2 ^ m)).length ≠ 0 := by intro h0; rw [if_pos h0] at hC; cases hC
    refine ⟨?_, ?_⟩
    · unfold fwN fwL bsT; rw [if_pos hV, if_neg hne]; exact h1
    · unfold mwS bsT; rw [if_pos hV, if_neg hne]; exact h2
  · unfold gpT at h ⊢
    rw [if_pos hV] at h ⊢
    rcases downT_is (fun pc => keptB g n P m fun i => scl pc (Q i)) 101 with ⟨h1, h2, h3, h4⟩ | h1
    · generalize (downT (fun pc => keptB g n P m fun i => scl pc (Q i)) 101).1 = pc at *
      have hp : 0 ≤ pc ∧ pc ≤ 100 := ⟨h2, by omega⟩
      have hr : ratesAre m Q = true := by
        unfold ratesAre
        simp only [Bool.and_eq_true, decide_eq_true_eq, Bool.not_eq_true']
        refine ⟨hm6, anyTo_false.2 fun i hi => ?_⟩
        have := hrat i hi
        unfold badRate; simp; omega
      have hpd : (decide (0 ≤ pc) && decide (pc ≤ 100)) = true := by simp; exact hp
      refine ⟨hp, by unfold scN; rw [hr, hpd]; rfl, by unfold scC; rw [hr, hpd]; rfl, ?_, fun i hi => ?_⟩
      · unfold akT
        rw [if_pos (validP_sub hV hm6 (fun i hi => badPG_scl hp (hbp i hi)))]
        exact Prod.ext h4 rfl
      · have h5 := scl_rate hp (hrat i hi)
        have h6 := hQ i hi
        exact ⟨h6.1, h6.2.1, by show -32768 ≤ (Q i).rat * pc / 100; omega, by show (Q i).rat * pc / 100 ≤ 32767; omega⟩
    · rw [h1] at h; cases h
  · unfold gpT
    rw [if_pos hV]
    rcases downT_is (fun pc => keptB g n P m fun i => scl pc (Q i)) 101 with ⟨h1, _⟩ | h1
    · exact .inl h1
    · exact .inr h1
end Go.Proofs.YtokdpmpgonafmaaGreat
/- Bytes that a caller hands in: opened; are they too many (a2Long)? -/
namespace Go.Proofs.YtokdpmpgonafmaaGreat
open Go.ChangeShapes Go.WideShapes Go.ChangeAt Go.RowKit
set_option linter.unusedVariables false
set_option linter.unusedSimpArgs false

/-- The slice v holds n bytes. -/
def BSl (w : World) (v : Value) (n : Nat) : Prop :=
  ∃ (a : Option Addr) (c : Nat), v = .slice a n c ∧ n ≤ maxLen ∧ ∀ j, j < n → ∃ (r o x : Nat), a = some ⟨r, o, none⟩ ∧ r < w.heap.size ∧ x < 256 ∧ w.cell? ⟨r, o + j, none⟩ = some (.int .u8 x)
theorem BSl.below {w w' : World} {v : Value} {n : Nat} (h : BSl w v n) (hb : Below w.heap.size w w') : BSl w' v n := by
  obtain ⟨a, c, hv, hn, hc⟩ := h
  refine ⟨a, c, hv, hn, fun j hj => ?_⟩
  obtain ⟨r, o, x, h1, h2, h3, h4⟩ := hc j hj
  exact ⟨r, o, x, h1, Nat.lt_of_lt_of_le h2 hb.size, h3, (hb.cell (p := ⟨r, _, none⟩) h2).trans h4⟩
theorem BSl.bytes {w : World} {v : Value} {n : Nat} (h : BSl w v n) (hn : n ≤ 4096) : Bytes w w.heap.size v n := by
  obtain ⟨a, c, hv, _, hc⟩ := h
  exact ⟨a, c, hv, hn, hc⟩
section
variable {H : Type} {enc : TypeId × Value → H} {W : World} {r : Reach} {b0 : Nat}
set_option maxRecDepth 100000 in
theorem bytes_of_trod {fuel : Nat} {v : Value} {x : DataW H × List MemPlace} (h : DataW.trod enc Tryz.prog W 0 (fun _ => true) true fuel 55 [v] = some x) : ∃ n, BSl W v n := by
  rcases Go.Deep.open_slice Tryz.underlying55 h with ⟨h1, _⟩ | ⟨a, len, cap, m, k, D, Pl, h1, _, hl, hm, hmm, _, hx⟩
  · obtain rfl : v = .slice none 0 0 := by simpa using h1
    exact ⟨0, none, 0, rfl, Nat.zero_le _, fun j hj => absurd hj (by omega)⟩
  obtain rfl : v = .slice (some a) len cap := by simpa using h1
  have c1 : Tryz.prog.cellsOf 5 = 1 := by kernel_rfl
  have hlm : len ≤ m := by rw [hmm]; split <;> omega
  rw [c1] at hx
  have hf : ∀ j, j < len → ∃ q : Int, W.cell? ((a.add (j * 1)).add 0) = some (.int .u8 q) ∧ 0 ≤ q ∧ q ≤ 255 := fun j hj => by
    obtain ⟨cs', g1, g2⟩ := hx j (by omega)
    obtain ⟨q, hq, _, hwf⟩ := DataW.trod_int Tryz.underlying5 g2
    obtain ⟨_, hlen, hcell⟩ := World.cells?_some g1
    obtain ⟨q1, q2⟩ := bounds_u8 hwf
    exact ⟨q, by rw [hcell 0 (by omega), hq]; simp, q1, q2⟩
  refine ⟨len, some a, cap, rfl, Nat.le_trans hl hm, fun j hj => ?_⟩
  obtain ⟨q0, hc0, _⟩ := hf 0 (by omega)
  obtain ⟨b, o, spot⟩ := a
  have hspot : spot = none := by simpa [Addr.add] using World.cell?_spot hc0
  subst hspot
  obtain ⟨q, hc1, q1, q2⟩ := hf j hj
  rw [add_plain, add_plain] at hc1
  refine ⟨b, o, q.toNat, rfl, lt_of_cell hc1, by omega, ?_⟩
  rw [show ((q.toNat : Nat) : Int) = q by omega]
  simpa using hc1
set_option maxRecDepth 100000 in
theorem open_bytes {v : Value} {d : DataW H} {ps : List MemPlace} (hval : Value.okWide Tryz.prog W r b0 55 v) (h : DataW.Trod enc Tryz.prog W 0 (fun _ => true) true 55 v d ps) : ∃ n : Nat, BSl W v n := by
  obtain ⟨a, len, cap, rfl⟩ := okWide_slice Tryz.underlying55 hval
  obtain ⟨fuel, hf⟩ := h
  exact bytes_of_trod hf
end
attribute [local irreducible] Calls
set_option maxRecDepth 100000 in
set_option maxHeartbeats 400000 in
theorem a2Long_any (a b : Option Addr) (n m c d : Nat) (hn : n ≤ maxLen) (hm : m ≤ maxLen) (w : World) :
    Calls Tryz.prog 21 #[.slice a n c, .slice b m d] w fun e w' => e = .returned (.bool (decide (3000 < n) || decide (3000 < m))) ∧ w' = w := by
  unfold maxLen at hn hm
  obtain ⟨V, hV⟩ : ∃ V, V = (decide (3000 < n) || decide (3000 < m)) := ⟨_, rfl⟩
  rw [← hV]
  by_cases h1 : 3000 < n
  · have e1 : decide ((n : Int) > 3000) = true := by simp; omega
    rw [decide_eq_true h1] at hV
    have HV := Lib.hid hV
    clear hV
    go_enter Tryz.func21, Tryz.ntmps21
    go_wp2_with fail
    go_ret
    exact ⟨bool_eq (by rw [HV.out]; rfl), rfl⟩
  · have e1 : decide ((n : Int) > 3000) = false := by simp; omega
    rw [decide_eq_false h1] at hV
    by_cases h2 : 3000 < m
    · have e2 : decide ((m : Int) > 3000) = true := by simp; omega
      rw [decide_eq_true h2] at hV
      have HV := Lib.hid hV
      clear hV
      go_enter Tryz.func21, Tryz.ntmps21
      go_wp2_with fail
      go_ret
      exact ⟨bool_eq (by rw [HV.out]; rfl), rfl⟩
    · have e2 : decide ((m : Int) > 3000) = false := by simp; omega
      rw [decide_eq_false h2] at hV
      have HV := Lib.hid hV
      clear hV
      go_enter Tryz.func21, Tryz.ntmps21
      go_wp2_with fail
      go_ret
      exact ⟨bool_eq (by rw [HV.out]; rfl), rfl⟩
end Go.Proofs.YtokdpmpgonafmaaGreat
