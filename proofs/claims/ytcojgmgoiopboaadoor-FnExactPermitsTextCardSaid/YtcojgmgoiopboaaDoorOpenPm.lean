/- Permits that a caller hands in, opened. -/
import Derived.Test.YtcojgmgoiopboaaDoorPerm
import Derived.Deep.Strs
namespace Go.Proofs.YtcojgmgoiopboaaDoor
open Go.ChangeShapes Go.WideShapes Go.ChangeAt Go.RowKit
set_option linter.unusedVariables false
theorem lt_of_cell {w : World} {a : Addr} {v : Value} (h : w.cell? a = some v) : a.block < w.heap.size := by
  unfold World.cell? at h
  by_cases hb : a.block < w.heap.size
  · exact hb
  · rw [Array.getElem?_eq_none (by omega)] at h; simp at h
section
variable {H : Type} {enc : TypeId × Value → H} {W : World} {r : Reach} {b0 : Nat}
set_option maxRecDepth 100000 in
theorem permit_of_trod {fuel : Nat} {cs : List Value} {x : DataW H × List MemPlace} (h : DataW.trod enc Tryd.prog W 0 (fun _ => true) true fuel 44 cs = some x) : ∃ p : Pm, p.ok ∧ cs = p.cells.toList := by
  obtain ⟨y0, y1, y2, n, _, hl, h0, h1, h2⟩ := Go.Deep.trod_struct3 Tryd.underlying44 h
  have hl' : cs.length = 3 := hl.trans (by kernel_rfl)
  match cs, hl' with
  | [v0, v1, v2], _ =>
    obtain ⟨q0, e0, _, w0⟩ := DataW.trod_int Tryd.underlying39 h0
    obtain ⟨q1, e1, _, w1⟩ := DataW.trod_int Tryd.underlying39 h1
    obtain ⟨q2, e2, _, w2⟩ := DataW.trod_int Tryd.underlying40 h2
    have c8 : Tryd.prog.cellsOf 39 = 1 := by kernel_rfl
    have c16 : Tryd.prog.cellsOf 40 = 1 := by kernel_rfl
    simp [c8] at e0 e1
    simp [c16] at e2
    subst e0 e1 e2
    refine ⟨⟨q0, q1, q2⟩, ?_, by rw [Pm.cells_eq]⟩
    simp [Lit.wf, IntKind.min, IntKind.max, IntKind.signed, IntKind.bits] at w0 w1 w2
    show (-128 ≤ q0 ∧ q0 ≤ 127) ∧ (-128 ≤ q1 ∧ q1 ≤ 127) ∧ (-32768 ≤ q2 ∧ q2 ≤ 32767)
    omega
set_option maxRecDepth 100000 in
theorem permits_of_trod {fuel : Nat} {v : Value} {x : DataW H × List MemPlace} (h : DataW.trod enc Tryd.prog W 0 (fun _ => true) true fuel 22 [v] = some x) : ∃ n P, PSl W v n P ∧ (∀ i, i < n → (P i).ok) ∧ n ≤ maxLen := by
  rcases Go.Deep.open_slice Tryd.underlying22 h with ⟨h1, _⟩ | ⟨a, len, cap, m, k, D, Pl, h1, _, hl, hm, hmm, _, hx⟩
  · obtain rfl : v = .slice none 0 0 := by simpa using h1
    exact ⟨0, fun _ => ⟨0, 0, 0⟩, ⟨none, 0, rfl, Nat.le_refl _, Nat.zero_le _, .inl rfl⟩, fun i hi => by omega, Nat.zero_le _⟩
  obtain rfl : v = .slice (some a) len cap := by simpa using h1
  have c3 : Tryd.prog.cellsOf 44 = 3 := by kernel_rfl
  have hlm : len ≤ m := by rw [hmm]; split <;> omega
  rw [c3] at hx
  letI : Inhabited Pm := ⟨⟨0, 0, 0⟩⟩
  obtain ⟨P, hP⟩ := Go.Deep.choose_lt (n := len) (p := fun i (p : Pm) => p.ok ∧ ∀ c, c < 3 → W.cell? ((a.add (i * 3)).add c) = p.cells[c]?) (fun i hi => by
    obtain ⟨cs', g1, g2⟩ := hx i (by omega)
    obtain ⟨p, hp, hcs⟩ := permit_of_trod g2
    obtain ⟨_, hlen, hcell⟩ := World.cells?_some g1
    refine ⟨p, hp, fun c hc => ?_⟩
    rw [hcell c hc, hcs]; simp)
  refine ⟨len, P, ⟨some a, cap, rfl, hl, hm, ?_⟩, fun i hi => (hP i hi).1, Nat.le_trans hl hm⟩
  by_cases h0 : len = 0
  · exact .inl h0
  · have hc0 := (hP 0 (by omega)).2 0 (by omega)
    rw [(P 0).get0] at hc0
    obtain ⟨b, o, spot⟩ := a
    have hspot : spot = none := by simpa [Addr.add] using World.cell?_spot hc0
    subst hspot
    refine .inr ⟨b, o, rfl, ?_, fun i c hi hc => ?_⟩
    · have := lt_of_cell hc0
      simpa [add_plain] using this
    · have := (hP i hi).2 c hc
      rwa [add_plain, add_plain] at this
set_option maxRecDepth 100000 in
theorem open_permits {v : Value} {d : DataW H} {ps : List MemPlace} (hval : Value.okWide Tryd.prog W r b0 22 v) (h : DataW.Trod enc Tryd.prog W 0 (fun _ => true) true 22 v d ps) : ∃ p : Nat × (Nat → Pm), PSl W v p.1 p.2 ∧ (∀ i, i < p.1 → (p.2 i).ok) ∧ p.1 ≤ maxLen := by
  obtain ⟨a, len, cap, rfl⟩ := okWide_slice Tryd.underlying22 hval
  obtain ⟨fuel, hf⟩ := h
  obtain ⟨n, P, h1⟩ := permits_of_trod hf
  exact ⟨(n, P), h1⟩
end
end Go.Proofs.YtcojgmgoiopboaaDoor
