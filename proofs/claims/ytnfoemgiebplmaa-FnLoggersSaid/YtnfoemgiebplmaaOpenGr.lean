/- Grounds and offices that a caller hands in, opened. -/
import Derived.Test.YtnfoemgiebplmaaGround
import Derived.Test.YtnfoemgiebplmaaOpenPm
namespace Go.Proofs.Ytnfoemgiebplmaa
open Go.ChangeShapes Go.WideShapes Go.ChangeAt Go.RowKit
set_option linter.unusedVariables false
set_option linter.unusedSimpArgs false
section
variable {H : Type} {enc : TypeId × Value → H} {W : World} {r : Reach} {b0 : Nat}
theorem okWide_struct {P : Program} {t : TypeId} {fs : Array Field} {v : Value} (ht : P.underlying t = some (.struct fs)) (h : Value.okWide P W r b0 t v) : ∃ cs, v = .agg cs ∧ cs.size = P.cellsOf t := by
  simp only [Value.okWide, ht] at h
  obtain ⟨cs, h1, h2, _⟩ := h
  exact ⟨cs, h1, h2⟩
theorem take_drop_get {cs : List Value} {o n i : Nat} (hi : i < n) : ((cs.drop o).take n)[i]? = cs[o + i]? := by
  rw [List.getElem?_take, if_pos hi, List.getElem?_drop]
set_option maxRecDepth 100000 in
theorem ground_of_trod {fuel : Nat} {cs : List Value} {x : DataW H × List MemPlace} (h : DataW.trod enc Try.prog W 0 (fun _ => true) true fuel 27 cs = some x) : ∃ g : Gr, g.ok ∧ ∀ i, i < 195 → cs[i]? = some (g.at i) := by
  obtain ⟨xs, n, _, _, hl, hlen, hf⟩ := DataW.trod_struct Try.underlying27 h
  have c8 : Try.prog.cellsOf 22 = 1 := by kernel_rfl
  have c64 : Try.prog.cellsOf 25 = 1 := by kernel_rfl
  have cF : Try.prog.cellsOf 24 = 64 := by kernel_rfl
  have c32 : Try.prog.cellsOf 23 = 1 := by kernel_rfl
  match xs, hlen with
  | [y0, y1, y2, y3, y4, y5], _ =>
    have E0 : DataW.trod enc Try.prog W 0 (fun _ => true) true n 22 ((cs.drop 0).take (Try.prog.cellsOf 22)) = some y0 := hf 0 _ rfl
    rw [c8] at E0
    have E1 : DataW.trod enc Try.prog W 0 (fun _ => true) true n 22 ((cs.drop 1).take (Try.prog.cellsOf 22)) = some y1 := hf 1 _ rfl
    rw [c8] at E1
    have E2 : DataW.trod enc Try.prog W 0 (fun _ => true) true n 24 ((cs.drop 2).take (Try.prog.cellsOf 24)) = some y2 := hf 2 _ rfl
    rw [cF] at E2
    have E3 : DataW.trod enc Try.prog W 0 (fun _ => true) true n 24 ((cs.drop 66).take (Try.prog.cellsOf 24)) = some y3 := hf 3 _ rfl
    rw [cF] at E3
    have E4 : DataW.trod enc Try.prog W 0 (fun _ => true) true n 24 ((cs.drop 130).take (Try.prog.cellsOf 24)) = some y4 := hf 4 _ rfl
    rw [cF] at E4
    have E5 : DataW.trod enc Try.prog W 0 (fun _ => true) true n 25 ((cs.drop 194).take (Try.prog.cellsOf 25)) = some y5 := hf 5 _ rfl
    rw [c64] at E5
    obtain ⟨q0, e0, _, w0⟩ := DataW.trod_int Try.underlying22 E0
    obtain ⟨q1, e1, _, w1⟩ := DataW.trod_int Try.underlying22 E1
    obtain ⟨f2, h2⟩ := floats_of_row Try.underlying24 Try.underlying23 c32 E2
    obtain ⟨f3, h3⟩ := floats_of_row Try.underlying24 Try.underlying23 c32 E3
    obtain ⟨f4, h4⟩ := floats_of_row Try.underlying24 Try.underlying23 c32 E4
    obtain ⟨q5, e5, _, w5⟩ := DataW.trod_int Try.underlying25 E5
    have g0 := head_of_take e0
    have g1 := head_of_take e1
    have g5 := head_of_take e5
    refine ⟨⟨q0, q1, f2, f3, f4, q5⟩, ⟨?_, ?_, ?_⟩, fun i hi => ?_⟩
    · simp [Lit.wf, IntKind.min, IntKind.max, IntKind.signed, IntKind.bits] at w0
      show -128 ≤ q0 ∧ q0 ≤ 127
      omega
    · simp [Lit.wf, IntKind.min, IntKind.max, IntKind.signed, IntKind.bits] at w1
      show -128 ≤ q1 ∧ q1 ≤ 127
      omega
    · simp [Lit.wf, IntKind.min, IntKind.max, IntKind.signed, IntKind.bits] at w5
      show 0 ≤ q5 ∧ q5 < 18446744073709551616
      omega
    · unfold Gr.at
      by_cases i0 : i = 0
      · subst i0; exact g0
      · by_cases i1 : i = 1
        · subst i1; exact g1
        · rw [if_neg i0, if_neg i1]
          by_cases i2 : i < 66
          · rw [if_pos i2]
            have := (h2 (i - 2) (by omega)).1
            rw [take_drop_get (by omega)] at this
            rw [← this]; congr 1; show i = 2 + (i - 2); omega
          · rw [if_neg i2]
            by_cases i3 : i < 130
            · rw [if_pos i3]
              have := (h3 (i - 66) (by omega)).1
              rw [take_drop_get (by omega)] at this
              rw [← this]; congr 1; show i = 66 + (i - 66); omega
            · rw [if_neg i3]
              by_cases i4 : i < 194
              · rw [if_pos i4]
                have := (h4 (i - 130) (by omega)).1
                rw [take_drop_get (by omega)] at this
                rw [← this]; congr 1; show i = 130 + (i - 130); omega
              · rw [if_neg i4]
                obtain rfl : i = 194 := by omega
                exact g5
set_option maxRecDepth 100000 in
theorem open_ground {v : Value} {d : DataW H} {ps : List MemPlace} (hval : Value.okWide Try.prog W r b0 27 v) (h : DataW.Trod enc Try.prog W 0 (fun _ => true) true 27 v d ps) : ∃ g : Gr, v = .agg g.cells ∧ g.ok := by
  obtain ⟨cs, rfl, hs⟩ := okWide_struct Try.underlying27 hval
  have hs' : cs.size = 195 := hs.trans (by kernel_rfl)
  obtain ⟨fuel, hf⟩ := h
  obtain ⟨g, hg, hc⟩ := ground_of_trod hf
  refine ⟨g, ?_, hg⟩
  rw [Gr.cells_of g hs' (fun i hi => by simpa [Value.cells] using hc i hi)]
end
end Go.Proofs.Ytnfoemgiebplmaa
