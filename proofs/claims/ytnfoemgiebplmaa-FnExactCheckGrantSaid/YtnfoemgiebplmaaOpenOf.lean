/- Offices that a caller hands in, opened. -/
import Derived.Test.YtnfoemgiebplmaaOpenGr
import Derived.Test.YtnfoemgiebplmaaOffice
namespace Go.Proofs.Ytnfoemgiebplmaa
open Go.ChangeShapes Go.WideShapes Go.ChangeAt Go.RowKit
set_option linter.unusedVariables false
set_option linter.unusedSimpArgs false
section
variable {H : Type} {enc : TypeId × Value → H} {W : World} {r : Reach} {b0 : Nat}
set_option maxRecDepth 100000 in
theorem watch_of_trod {fuel : Nat} {cs : List Value} {x : DataW H × List MemPlace} (h : DataW.trod enc Try.prog W 0 (fun _ => true) true fuel 151 cs = some x) : ∃ p : Wt, p.ok ∧ cs = p.cells.toList := by
  obtain ⟨xs, n, _, _, hl, hlen, hf⟩ := DataW.trod_struct Try.underlying151 h
  have hl' : cs.length = 2 := hl.trans (by kernel_rfl)
  have c8 : Try.prog.cellsOf 22 = 1 := by kernel_rfl
  have c32 : Try.prog.cellsOf 23 = 1 := by kernel_rfl
  match xs, hlen, cs, hl' with
  | [y0, y1], _, [v0, v1], _ =>
    have E0 : DataW.trod enc Try.prog W 0 (fun _ => true) true n 22 (([v0, v1].drop 0).take (Try.prog.cellsOf 22)) = some y0 := hf 0 _ rfl
    have E1 : DataW.trod enc Try.prog W 0 (fun _ => true) true n 23 (([v0, v1].drop 1).take (Try.prog.cellsOf 23)) = some y1 := hf 1 _ rfl
    rw [c8] at E0
    rw [c32] at E1
    obtain ⟨q0, e0, _, w0⟩ := DataW.trod_int Try.underlying22 E0
    obtain ⟨q1, e1, w1⟩ := trod_float Try.underlying23 E1
    simp at e0 e1
    subst e0 e1
    refine ⟨⟨q0, q1⟩, ?_, by rw [Wt.cells_eq]⟩
    simp [Lit.wf, IntKind.min, IntKind.max, IntKind.signed, IntKind.bits] at w0
    show -128 ≤ q0 ∧ q0 ≤ 127
    omega
set_option maxRecDepth 100000 in
theorem watches_of_trod {fuel : Nat} {v : Value} {x : DataW H × List MemPlace} (h : DataW.trod enc Try.prog W 0 (fun _ => true) true fuel 47 [v] = some x) : ∃ n P, WSl W v n P ∧ (∀ i, i < n → (P i).ok) ∧ n ≤ maxLen := by
  rcases Go.Deep.open_slice Try.underlying47 h with ⟨h1, _⟩ | ⟨a, len, cap, m, k, D, Pl, h1, _, hl, hm, hmm, _, hx⟩
  · obtain rfl : v = .slice none 0 0 := by simpa using h1
    exact ⟨0, fun _ => ⟨0, 0⟩, ⟨none, 0, rfl, Nat.le_refl _, Nat.zero_le _, .inl rfl⟩, fun i hi => by omega, Nat.zero_le _⟩
  obtain rfl : v = .slice (some a) len cap := by simpa using h1
  have c3 : Try.prog.cellsOf 151 = 2 := by kernel_rfl
  have hlm : len ≤ m := by rw [hmm]; split <;> omega
  rw [c3] at hx
  letI : Inhabited Wt := ⟨⟨0, 0⟩⟩
  obtain ⟨P, hP⟩ := Go.Deep.choose_lt (n := len) (p := fun i (p : Wt) => p.ok ∧ ∀ c, c < 2 → W.cell? ((a.add (i * 2)).add c) = p.cells[c]?) (fun i hi => by
    obtain ⟨cs', g1, g2⟩ := hx i (by omega)
    obtain ⟨p, hp, hcs⟩ := watch_of_trod g2
    obtain ⟨_, hlen, hcell⟩ := World.cells?_some g1
    refine ⟨p, hp, fun c hc => ?_⟩
    rw [hcell c hc, hcs]; simp)
  refine ⟨len, P, ⟨some a, cap, rfl, hl, hm, ?_⟩, fun i hi => (hP i hi).1, Nat.le_trans hl hm⟩
  by_cases h0 : len = 0
  · exact .inl h0
  · have hc0 := (hP 0 (by omega)).2 0 (by omega)
    rw [(P 0).get0] at hc0
    obtain ⟨b, o, spot⟩ := a
    have hspot : spot = none := by simpa [Addr.add] using World.cell?_spot hc0
    subst hspot
    refine .inr ⟨b, o, rfl, ?_, fun i c hi hc => ?_⟩
    · have := lt_of_cell hc0
      simpa [add_plain] using this
    · have := (hP i hi).2 c hc
      rwa [add_plain, add_plain] at this
set_option maxRecDepth 100000 in
theorem open_office {v : Value} {d : DataW H} {ps : List MemPlace} (hval : Value.okWide Try.prog W r b0 49 v) (h : DataW.Trod enc Try.prog W 0 (fun _ => true) true 49 v d ps) :
    ∃ (u : Value) (p : Gr × Nat × (Nat → Wt)), v = .agg (ofc p.1 u) ∧ (p.1.ok ∧ WSl W u p.2.1 p.2.2 ∧ (∀ i, i < p.2.1 → (p.2.2 i).ok) ∧ p.2.1 ≤ maxLen) := by
  obtain ⟨cs, rfl, hs⟩ := okWide_struct Try.underlying49 hval
  have hs' : cs.size = 196 := hs.trans (by kernel_rfl)
  obtain ⟨fuel, hf⟩ := h
  obtain ⟨xs, n, _, _, hl, hlen, hf⟩ := DataW.trod_struct Try.underlying49 hf
  have cG : Try.prog.cellsOf 27 = 195 := by kernel_rfl
  have cS : Try.prog.cellsOf 47 = 1 := by kernel_rfl
  match xs, hlen with
  | [y0, y1], _ =>
    have E0 : DataW.trod enc Try.prog W 0 (fun _ => true) true n 27 (((Value.agg cs).cells.toList.drop 0).take (Try.prog.cellsOf 27)) = some y0 := hf 0 _ rfl
    have E1 : DataW.trod enc Try.prog W 0 (fun _ => true) true n 47 (((Value.agg cs).cells.toList.drop 195).take (Try.prog.cellsOf 47)) = some y1 := hf 1 _ rfl
    rw [cG] at E0
    rw [cS] at E1
    obtain ⟨g, hg, hc⟩ := ground_of_trod E0
    have hlast : ∃ u, cs[195]? = some u := ⟨_, Array.getElem?_eq_getElem (by omega)⟩
    obtain ⟨u, hu⟩ := hlast
    have e1 : ((Value.agg cs).cells.toList.drop 195).take 1 = [u] := by
      apply List.ext_getElem?
      intro i
      match i with
      | 0 => rw [take_drop_get (by omega)]; simpa [Value.cells] using hu
      | i + 1 => rw [List.getElem?_eq_none (by simp; omega)]; rfl
    rw [e1] at E1
    obtain ⟨m, P, h1, h2, h3⟩ := watches_of_trod E1
    refine ⟨u, (g, m, P), ?_, hg, h1, h2, h3⟩
    rw [ofc_of hs' (fun i hi => ?_) hu]
    have := hc i hi
    rw [take_drop_get hi] at this
    simpa [Value.cells] using this
end
end Go.Proofs.Ytnfoemgiebplmaa
