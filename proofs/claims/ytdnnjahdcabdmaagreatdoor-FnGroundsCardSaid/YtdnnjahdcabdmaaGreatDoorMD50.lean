import Derived.Test.YtdnnjahdcabdmaaGreatDoorMD33
import Derived.Test.YtdnnjahdcabdmaaGreatDoorMD25
/- Bytes that a caller hands in: opened; are they too many (a2Long)? -/
namespace Go.Proofs.YtdnnjahdcabdmaaGreatDoor
open Go.ChangeShapes Go.WideShapes Go.ChangeAt Go.RowKit
set_option linter.unusedVariables false
set_option linter.unusedSimpArgs false

/-- The slice v holds n bytes. -/
def BSl (w : World) (v : Value) (n : Nat) : Prop :=
  ∃ (a : Option Addr) (c : Nat), v = .slice a n c ∧ n ≤ maxLen ∧ ∀ j, j < n → ∃ (r o x : Nat), a = some ⟨r, o, none⟩ ∧ r < w.heap.size ∧ x < 256 ∧ w.cell? ⟨r, o + j, none⟩ = some (.int .u8 x)
theorem BSl.below {w w' : World} {v : Value} {n : Nat} (h : BSl w v n) (hb : Below w.heap.size w w') : BSl w' v n := by
  obtain ⟨a, c, hv, hn, hc⟩ := h
  refine ⟨a, c, hv, hn, fun j hj => ?_⟩
  obtain ⟨r, o, x, h1, h2, h3, h4⟩ := hc j hj
  exact ⟨r, o, x, h1, Nat.lt_of_lt_of_le h2 hb.size, h3, (hb.cell (p := ⟨r, _, none⟩) h2).trans h4⟩
theorem BSl.bytes {w : World} {v : Value} {n : Nat} (h : BSl w v n) (hn : n ≤ 4096) : Bytes w w.heap.size v n := by
  obtain ⟨a, c, hv, _, hc⟩ := h
  exact ⟨a, c, hv, hn, hc⟩
section
variable {H : Type} {enc : TypeId × Value → H} {W : World} {r : Reach} {b0 : Nat}
set_option maxRecDepth 100000 in
theorem bytes_of_trod {fuel : Nat} {v : Value} {x : DataW H × List MemPlace} (h : DataW.trod enc Tryz.prog W 0 (fun _ => true) true fuel 22 [v] = some x) : ∃ n, BSl W v n := by
  rcases Go.Deep.open_slice Tryz.underlying22 h with ⟨h1, _⟩ | ⟨a, len, cap, m, k, D, Pl, h1, _, hl, hm, hmm, _, hx⟩
  · obtain rfl : v = .slice none 0 0 := by simpa using h1
    exact ⟨0, none, 0, rfl, Nat.zero_le _, fun j hj => absurd hj (by omega)⟩
  obtain rfl : v = .slice (some a) len cap := by simpa using h1
  have c1 : Tryz.prog.cellsOf 5 = 1 := by kernel_rfl
  have hlm : len ≤ m := by rw [hmm]; split <;> omega
  rw [c1] at hx
  have hf : ∀ j, j < len → ∃ q : Int, W.cell? ((a.add (j * 1)).add 0) = some (.int .u8 q) ∧ 0 ≤ q ∧ q ≤ 255 := fun j hj => by
    obtain ⟨cs', g1, g2⟩ := hx j (by omega)
    obtain ⟨q, hq, _, hwf⟩ := DataW.trod_int Tryz.underlying5 g2
    obtain ⟨_, hlen, hcell⟩ := World.cells?_some g1
    obtain ⟨q1, q2⟩ := bounds_u8 hwf
    exact ⟨q, by rw [hcell 0 (by omega), hq]; simp, q1, q2⟩
  refine ⟨len, some a, cap, rfl, Nat.le_trans hl hm, fun j hj => ?_⟩
  obtain ⟨q0, hc0, _⟩ := hf 0 (by omega)
  obtain ⟨b, o, spot⟩ := a
  have hspot : spot = none := by simpa [Addr.add] using World.cell?_spot hc0
  subst hspot
  obtain ⟨q, hc1, q1, q2⟩ := hf j hj
  rw [add_plain, add_plain] at hc1
  refine ⟨b, o, q.toNat, rfl, lt_of_cell hc1, by omega, ?_⟩
  rw [show ((q.toNat : Nat) : Int) = q by omega]
  simpa using hc1
set_option maxRecDepth 100000 in
theorem open_bytes {v : Value} {d : DataW H} {ps : List MemPlace} (hval : Value.okWide Tryz.prog W r b0 22 v) (h : DataW.Trod enc Tryz.prog W 0 (fun _ => true) true 22 v d ps) : ∃ n : Nat, BSl W v n := by
  obtain ⟨a, len, cap, rfl⟩ := okWide_slice Tryz.underlying22 hval
  obtain ⟨fuel, hf⟩ := h
  exact bytes_of_trod hf
end
attribute [local irreducible] Calls
set_option maxRecDepth 100000 in
set_option maxHeartbeats 400000 in
theorem a2Long_any (a b : Option Addr) (n m c d : Nat) (hn : n ≤ maxLen) (hm : m ≤ maxLen) (w : World) :
    Calls Tryz.prog 5 #[.slice a n c, .slice b m d] w fun e w' => e = .returned (.bool (decide (3000 < n) || decide (3000 < m))) ∧ w' = w := by
  unfold maxLen at hn hm
  obtain ⟨V, hV⟩ : ∃ V, V = (decide (3000 < n) || decide (3000 < m)) := ⟨_, rfl⟩
  rw [← hV]
  by_cases h1 : 3000 < n
  · have e1 : decide ((n : Int) > 3000) = true := by simp; omega
    rw [decide_eq_true h1] at hV
    have HV := Lib.hid hV
    clear hV
    go_enter Tryz.func5, Tryz.ntmps5
    go_wp2_with fail
    go_ret
    exact ⟨bool_eq (by rw [HV.out]; rfl), rfl⟩
  · have e1 : decide ((n : Int) > 3000) = false := by simp; omega
    rw [decide_eq_false h1] at hV
    by_cases h2 : 3000 < m
    · have e2 : decide ((m : Int) > 3000) = true := by simp; omega
      rw [decide_eq_true h2] at hV
      have HV := Lib.hid hV
      clear hV
      go_enter Tryz.func5, Tryz.ntmps5
      go_wp2_with fail
      go_ret
      exact ⟨bool_eq (by rw [HV.out]; rfl), rfl⟩
    · have e2 : decide ((m : Int) > 3000) = false := by simp; omega
      rw [decide_eq_false h2] at hV
      have HV := Lib.hid hV
      clear hV
      go_enter Tryz.func5, Tryz.ntmps5
      go_wp2_with fail
      go_ret
      exact ⟨bool_eq (by rw [HV.out]; rfl), rfl⟩
end Go.Proofs.YtdnnjahdcabdmaaGreatDoor
