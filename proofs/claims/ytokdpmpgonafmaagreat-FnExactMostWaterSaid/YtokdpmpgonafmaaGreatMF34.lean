import Derived.Test.YtokdpmpgonafmaaGreatMF04
import Derived.Test.YtokdpmpgonafmaaGreatMF22
import Derived.Test.YtokdpmpgonafmaaGreatMF18
/- Grounds and offices that a caller hands in, opened. -/
namespace Go.Proofs.YtokdpmpgonafmaaGreat
open Go.ChangeShapes Go.WideShapes Go.ChangeAt Go.RowKit
set_option linter.unusedVariables false
set_option linter.unusedSimpArgs false
section
variable {H : Type} {enc : TypeId × Value → H} {W : World} {r : Reach} {b0 : Nat}
theorem okWide_struct {P : Program} {t : TypeId} {fs : Array Field} {v : Value} (ht : P.underlying t = some (.struct fs)) (h : Value.okWide P W r b0 t v) : ∃ cs, v = .agg cs ∧ cs.size = P.cellsOf t := by
  simp only [Value.okWide, ht] at h
  obtain ⟨cs, h1, h2, _⟩ := h
  exact ⟨cs, h1, h2⟩
theorem take_drop_get {cs : List Value} {o n i : Nat} (hi : i < n) : ((cs.drop o).take n)[i]? = cs[o + i]? := by
  rw [List.getElem?_take, if_pos hi, List.getElem?_drop]
set_option maxRecDepth 100000 in
theorem ground_of_trod {fuel : Nat} {cs : List Value} {x : DataW H × List MemPlace} (h : DataW.trod enc Tryz.prog W 0 (fun _ => true) true fuel 27 cs = some x) : ∃ g : Gr, g.ok ∧ ∀ i, i < 195 → cs[i]? = some (g.at i) := by
  obtain ⟨xs, n, _, _, hl, hlen, hf⟩ := DataW.trod_struct Tryz.underlying27 h
  have c8 : Tryz.prog.cellsOf 22 = 1 := by kernel_rfl
  have c64 : Tryz.prog.cellsOf 25 = 1 := by kernel_rfl
  have cF : Tryz.prog.cellsOf 24 = 64 := by kernel_rfl
  have c32 : Tryz.prog.cellsOf 23 = 1 := by kernel_rfl
  match xs, hlen with
  | [y0, y1, y2, y3, y4, y5], _ =>
    have E0 : DataW.trod enc Tryz.prog W 0 (fun _ => true) true n 22 ((cs.drop 0).take (Tryz.prog.cellsOf 22)) = some y0 := hf 0 _ rfl
    rw [c8] at E0
    have E1 : DataW.trod enc Tryz.prog W 0 (fun _ => true) true n 22 ((cs.drop 1).take (Tryz.prog.cellsOf 22)) = some y1 := hf 1 _ rfl
    rw [c8] at E1
    have E2 : DataW.trod enc Tryz.prog W 0 (fun _ => true) true n 24 ((cs.drop 2).take (Tryz.prog.cellsOf 24)) = some y2 := hf 2 _ rfl
    rw [cF] at E2
    have E3 : DataW.trod enc Tryz.prog W 0 (fun _ => true) true n 24 ((cs.drop 66).take (Tryz.prog.cellsOf 24)) = some y3 := hf 3 _ rfl
    rw [cF] at E3
    have E4 : DataW.trod enc Tryz.prog W 0 (fun _ => true) true n 24 ((cs.drop 130).take (Tryz.prog.cellsOf 24)) = some y4 := hf 4 _ rfl
    rw [cF] at E4
    have E5 : DataW.trod enc Tryz.prog W 0 (fun _ => true) true n 25 ((cs.drop 194).take (Tryz.prog.cellsOf 25)) = some y5 := hf 5 _ rfl
    rw [c64] at E5
    obtain ⟨q0, e0, _, w0⟩ := DataW.trod_int Tryz.underlying22 E0
    obtain ⟨q1, e1, _, w1⟩ := DataW.trod_int Tryz.underlying22 E1
    obtain ⟨f2, h2⟩ := floats_of_row Tryz.underlying24 Tryz.underlying23 c32 E2
    obtain ⟨f3, h3⟩ := floats_of_row Tryz.underlying24 Tryz.underlying23 c32 E3
    obtain ⟨f4, h4⟩ := floats_of_row Tryz.underlying24 Tryz.underlying23 c32 E4
    obtain ⟨q5, e5, _, w5⟩ := DataW.trod_int Tryz.underlying25 E5
    have g0 := head_of_take e0
    have g1 := head_of_take e1
    have g5 := head_of_take e5
    refine ⟨⟨q0, q1, f2, f3, f4, q5⟩, ⟨?_, ?_, ?_⟩, fun i hi => ?_⟩
    · simp [Lit.wf, IntKind.min, IntKind.max, IntKind.signed, IntKind.bits] at w0
      show -128 ≤ q0 ∧ q0 ≤ 127
      omega
    · simp [Lit.wf, IntKind.min, IntKind.max, IntKind.signed, IntKind.bits] at w1
      show -128 ≤ q1 ∧ q1 ≤ 127
      omega
    · simp [Lit.wf, IntKind.min, IntKind.max, IntKind.signed, IntKind.bits] at w5
      show 0 ≤ q5 ∧ q5 < 18446744073709551616
      omega
    · unfold Gr.at
      by_cases i0 : i = 0
      · subst i0; exact g0
      · by_cases i1 : i = 1
        · subst i1; exact g1
        · rw [if_neg i0, if_neg i1]
          by_cases i2 : i < 66
          · rw [if_pos i2]
            have := (h2 (i - 2) (by omega)).1
            rw [take_drop_get (by omega)] at this
            rw [← this]; congr 1; show i = 2 + (i - 2); omega
          · rw [if_neg i2]
            by_cases i3 : i < 130
            · rw [if_pos i3]
              have := (h3 (i - 66) (by omega)).1
              rw [take_drop_get (by omega)] at this
              rw [← this]; congr 1; show i = 66 + (i - 66); omega
            · rw [if_neg i3]
              by_cases i4 : i < 194
              · rw [if_pos i4]
                have := (h4 (i - 130) (by omega)).1
                rw [take_drop_get (by omega)] at this
                rw [← this]; congr 1; show i = 130 + (i - 130); omega
              · rw [if_neg i4]
                obtain rfl : i = 194 := by omega
                exact g5
set_option maxRecDepth 100000 in
theorem open_ground {v : Value} {d : DataW H} {ps : List MemPlace} (hval : Value.okWide Tryz.prog W r b0 27 v) (h : DataW.Trod enc Tryz.prog W 0 (fun _ => true) true 27 v d ps) : ∃ g : Gr, v = .agg g.cells ∧ g.ok := by
  obtain ⟨cs, rfl, hs⟩ := okWide_struct Tryz.underlying27 hval
  have hs' : cs.size = 195 := hs.trans (by kernel_rfl)
  obtain ⟨fuel, hf⟩ := h
  obtain ⟨g, hg, hc⟩ := ground_of_trod hf
  refine ⟨g, ?_, hg⟩
  rw [Gr.cells_of g hs' (fun i hi => by simpa [Value.cells] using hc i hi)]
end
end Go.Proofs.YtokdpmpgonafmaaGreat
/- Offices that a caller hands in, opened. -/
namespace Go.Proofs.YtokdpmpgonafmaaGreat
open Go.ChangeShapes Go.WideShapes Go.ChangeAt Go.RowKit
set_option linter.unusedVariables false
set_option linter.unusedSimpArgs false
section
variable {H : Type} {enc : TypeId × Value → H} {W : World} {r : Reach} {b0 : Nat}
set_option maxRecDepth 100000 in
theorem watch_of_trod {fuel : Nat} {cs : List Value} {x : DataW H × List MemPlace} (h : DataW.trod enc Tryz.prog W 0 (fun _ => true) true fuel 108 cs = some x) : ∃ p : Wt, p.ok ∧ cs = p.cells.toList := by
  obtain ⟨xs, n, _, _, hl, hlen, hf⟩ := DataW.trod_struct Tryz.underlying108 h
  have hl' : cs.length = 2 := hl.trans (by kernel_rfl)
  have c8 : Tryz.prog.cellsOf 22 = 1 := by kernel_rfl
  have c32 : Tryz.prog.cellsOf 23 = 1 := by kernel_rfl
  match xs, hlen, cs, hl' with
  | [y0, y1], _, [v0, v1], _ =>
    have E0 : DataW.trod enc Tryz.prog W 0 (fun _ => true) true n 22 (([v0, v1].drop 0).take (Tryz.prog.cellsOf 22)) = some y0 := hf 0 _ rfl
    have E1 : DataW.trod enc Tryz.prog W 0 (fun _ => true) true n 23 (([v0, v1].drop 1).take (Tryz.prog.cellsOf 23)) = some y1 := hf 1 _ rfl
    rw [c8] at E0
    rw [c32] at E1
    obtain ⟨q0, e0, _, w0⟩ := DataW.trod_int Tryz.underlying22 E0
    obtain ⟨q1, e1, w1⟩ := trod_float Tryz.underlying23 E1
    simp at e0 e1
    subst e0 e1
    refine ⟨⟨q0, q1⟩, ?_, by rw [Wt.cells_eq]⟩
    simp [Lit.wf, IntKind.min, IntKind.max, IntKind.signed, IntKind.bits] at w0
    show -128 ≤ q0 ∧ q0 ≤ 127
    omega
set_option maxRecDepth 100000 in
theorem watches_of_trod {fuel : Nat} {v : Value} {x : DataW H × List MemPlace} (h : DataW.trod enc Tryz.prog W 0 (fun _ => true) true fuel 28 [v] = some x) : ∃ n P, WSl W v n P ∧ (∀ i, i < n → (P i).ok) ∧ n ≤ maxLen := by
  rcases Go.Deep.open_slice Tryz.underlying28 h with ⟨h1, _⟩ | ⟨a, len, cap, m, k, D, Pl, h1, _, hl, hm, hmm, _, hx⟩
  · obtain rfl : v = .slice none 0 0 := by simpa using h1
    exact ⟨0, fun _ => ⟨0, 0⟩, ⟨none, 0, rfl, Nat.le_refl _, Nat.zero_le _, .inl rfl⟩, fun i hi => by omega, Nat.zero_le _⟩
  obtain rfl : v = .slice (some a) len cap := by simpa using h1
  have c3 : Tryz.prog.cellsOf 108 = 2 := by kernel_rfl
  have hlm : len ≤ m := by rw [hmm]; split <;> omega
  rw [c3] at hx
  letI : Inhabited Wt := ⟨⟨0, 0⟩⟩
  obtain ⟨P, hP⟩ := Go.Deep.choose_lt (n := len) (p := fun i (p : Wt) => p.ok ∧ ∀ c, c < 2 → W.cell? ((a.add (i * 2)).add c) = p.cells[c]?) (fun i hi => by
    obtain ⟨cs', g1, g2⟩ := hx i (by omega)
    obtain ⟨p, hp, hcs⟩ := watch_of_trod g2
    obtain ⟨_, hlen, hcell⟩ := World.cells?_some g1
    refine ⟨p, hp, fun c hc => ?_⟩
    rw [hcell c hc, hcs]; simp)
  refine ⟨len, P, ⟨some a, cap, rfl, hl, hm, ?_⟩, fun i hi => (hP i hi).1, Nat.le_trans hl hm⟩
  by_cases h0 : len = 0
  · exact .inl h0
  · have hc0 := (hP 0 (by omega)).2 0 (by omega)
    rw [(P 0).get0] at hc0
    obtain ⟨b, o, spot⟩ := a
    have hspot : spot = none := by simpa [Addr.add] using World.cell?_spot hc0
    subst hspot
    refine .inr ⟨b, o, rfl, ?_, fun i c hi hc => ?_⟩
    · have := lt_of_cell hc0
      simpa [add_plain] using this
    · have := (hP i hi).2 c hc
      rwa [add_plain, add_plain] at this
set_option maxRecDepth 100000 in
theorem open_office {v : Value} {d : DataW H} {ps : List MemPlace} (hval : Value.okWide Tryz.prog W r b0 30 v) (h : DataW.Trod enc Tryz.prog W 0 (fun _ => true) true 30 v d ps) :
    ∃ (u : Value) (p : Gr × Nat × (Nat → Wt)), v = .agg (ofc p.1 u) ∧ (p.1.ok ∧ WSl W u p.2.1 p.2.2 ∧ (∀ i, i < p.2.1 → (p.2.2 i).ok) ∧ p.2.1 ≤ maxLen) := by
  obtain ⟨cs, rfl, hs⟩ := okWide_struct Tryz.underlying30 hval
  have hs' : cs.size = 196 := hs.trans (by kernel_rfl)
  obtain ⟨fuel, hf⟩ := h
  obtain ⟨xs, n, _, _, hl, hlen, hf⟩ := DataW.trod_struct Tryz.underlying30 hf
  have cG : Tryz.prog.cellsOf 27 = 195 := by kernel_rfl
  have cS : Tryz.prog.cellsOf 28 = 1 := by kernel_rfl
  match xs, hlen with
  | [y0, y1], _ =>
    have E0 : DataW.trod enc Tryz.prog W 0 (fun _ => true) true n 27 (((Value.agg cs).cells.toList.drop 0).take (Tryz.prog.cellsOf 27)) = some y0 := hf 0 _ rfl
    have E1 : DataW.trod enc Tryz.prog W 0 (fun _ => true) true n 28 (((Value.agg cs).cells.toList.drop 195).take (Tryz.prog.cellsOf 28)) = some y1 := hf 1 _ rfl
    rw [cG] at E0
    rw [cS] at E1
    obtain ⟨g, hg, hc⟩ := ground_of_trod E0
    have hlast : ∃ u, cs[195]? = some u := ⟨_, Array.getElem?_eq_getElem (by omega)⟩
    obtain ⟨u, hu⟩ := hlast
    have e1 : ((Value.agg cs).cells.toList.drop 195).take 1 = [u] := by
      apply List.ext_getElem?
      intro i
      match i with
      | 0 => rw [take_drop_get (by omega)]; simpa [Value.cells] using hu
      | i + 1 => rw [List.getElem?_eq_none (by simp; omega)]; rfl
    rw [e1] at E1
    obtain ⟨m, P, h1, h2, h3⟩ := watches_of_trod E1
    refine ⟨u, (g, m, P), ?_, hg, h1, h2, h3⟩
    rw [ofc_of hs' (fun i hi => ?_) hu]
    have := hc i hi
    rw [take_drop_get hi] at this
    simpa [Value.cells] using this
end
end Go.Proofs.YtokdpmpgonafmaaGreat
