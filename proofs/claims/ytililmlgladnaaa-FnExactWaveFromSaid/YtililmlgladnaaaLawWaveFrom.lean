/- The law FnExactWaveFrom: whatever the levels, the program's WaveFrom returns what the reference's returns. -/
import Derived.Test.YtililmlgladnaaaWaveSpec
namespace Go.Proofs.Ytililmlgladnaaa.lawWaveFrom
open Go.ChangeShapes Go.WideShapes Go.ChangeAt Go.RowKit
set_option linter.unusedVariables false

set_option maxRecDepth 100000 in
set_option maxHeartbeats 400000 in
theorem toInt16A12_any (f : Nat → Int) (w : World) :
    Calls Try.prog 20 #[.agg (i16s 12 f)] w fun e w' => e = .returned (.agg (i16s 12 f)) ∧ Below w.heap.size w w' := by
  go_enter Try.func20, Try.ntmps20
  go_wp2_with (first | (refine wpList_alloc_as rfl rfl zero35 ?_) | (refine wpList_box_as rfl rfl rfl ?_))
  go_loopw [4] (fun i wr => ∃ k : Nat, k ≤ 12 ∧ i = .int .i64 k ∧ Blk wr w.heap.size (i16s 12 f) 35 ∧ Blk wr (w.heap.size + 1) (i16s 12 fun _ => 0) 35 ∧ Blk wr (w.heap.size + 1 + 1) (mixed (i16s 12 f) (i16s 12 fun _ => 0) k) 35 ∧ Below w.heap.size w wr) (fun i _ => 12 - (intOf i).toNat)
  case atStart =>
    refine ⟨0, by omega, rfl, ((Blk.new _ _ _).alloc _).alloc _, ?_, ?_, (((Below.refl _ _).alloc (Nat.le_refl _) _).alloc (by simp) _).alloc (by simp; omega) _⟩
    · have := (Blk.new (w.alloc (.cells (i16s 12 f) 35)) (i16s 12 fun _ => 0) 35).alloc (.cells (i16s 12 fun _ => 0) 35)
      simpa using this
    · rw [mixed_zero]
      have := Blk.new ((w.alloc (.cells (i16s 12 f) 35)).alloc (.cells (i16s 12 fun _ => 0) 35)) (i16s 12 fun _ => 0) 35
      simpa using this
  case round =>
    obtain ⟨k, hk, rfl, hA, hB, hC, hbel⟩ := hrel
    have cA := hA.cell
    have cC := hC.cell
    have fC := hC.free
    by_cases hlt : k < 12
    · have g1 := i16s_get 12 f k hlt
      have g2 : ∃ u, (mixed (i16s 12 f) (i16s 12 fun _ => 0) k)[k]? = some u := by
        refine ⟨_, Array.getElem?_eq_getElem ?_⟩
        rw [mixed_size _ _ (by simp [i16s_size]) _ (by simp [i16s_size]; omega)]; simp [i16s_size]; omega
      obtain ⟨u, g2⟩ := g2
      go_wp2
      go_roundw
      case rel =>
        refine ⟨k + 1, by omega, by go_num, hA.setOther _ (by simp; omega), hB.setOther _ (by simp), ?_, hbel.setCell (by simp; omega) _⟩
        have hs := hC.setCell k (.int .i16 (f k))
        have he := mixed_set (i16s 12 f) (i16s 12 fun _ => 0) (by simp [i16s_size]) k (by rw [i16s_size]; omega)
        rw [show (i16s 12 f)[k]'(by rw [i16s_size]; omega) = .int .i16 (f k) from by rw [Array.getElem_eq_iff]; exact g1] at he
        rw [he] at hs
        exact hs
      case measure => simp [intOf]; omega
    · obtain rfl : k = 12 := by omega
      have hm : mixed (i16s 12 f) (i16s 12 fun _ => 0) 12 = i16s 12 f := by
        have := mixed_all (i16s 12 f) (i16s 12 fun _ => 0) (by simp [i16s_size]); rwa [i16s_size] at this
      rw [hm] at hC
      clear cA cC fC hlt
      go_wp2_with (first | (refine wpList_load_blk rfl rfl rfl row35 hC (i16s_size _ _) ?_) | (refine wpList_store_blk rfl rfl rfl rfl row35 hB (i16s_size _ _) (i16s_size _ _) (i16s_one _ _) ?_))
      exact bodyPost_row rfl rfl row35 (hB.setRow _) (i16s_size _ _) rfl ⟨rfl, below_setRow hbel (by omega) _⟩

set_option maxRecDepth 100000 in
set_option maxHeartbeats 400000 in
theorem walk (f : Nat → Int) (w : World) (hf : Is16 12 f) :
    Calls Try.prog 5 #[.agg (i16s 12 f)] w fun e w' => e = .returned (.bool true) ∧ Below w.heap.size w w' := by
  have cv := fun (b : Nat) (w : World) => run_convert_widen (P := Try.prog) w 36 41 b Try.underlying36 Try.underlying41
  have cw := fun (a b : Nat) (w : World) => run_convert_wide_complex (P := Try.prog) w 29 33 a b (by kernel_rfl) (by kernel_rfl)
  go_enter Try.func5, Try.ntmps5
  go_upto_region 1 with (refine wpList_box_as rfl rfl rfl ?_)
  have hA : Blk (w.alloc (.cells (i16s 12 f) 35)) w.heap.size (i16s 12 f) 35 := Blk.new _ _ _
  have hbel := below1 w (.cells (i16s 12 f) 35)
  generalize (w.alloc (.cells (i16s 12 f) 35)) = W at *
  have lA := hA.lt
  go_upto_region 2 with (first
    | (refine wpList_load_blk rfl rfl rfl row35 hA (i16s_size _ _) ?_)
    | (go_at_call 20; refine (toInt16A12_any f _).mono ?_; rintro e w1 ⟨rfl, hb1⟩)
    | (go_at_call 19; refine (specWaveFrom_any f _).mono ?_; rintro e w2 ⟨m, a, b, rfl, hm, ha, hb, hb2⟩))
  have Hm := Lib.hid hm
  have Ha := Lib.hid ha
  have Hb := Lib.hid hb
  clear hm ha hb
  have hbA := hb1.trans (hb2.mono hb1.size)
  have hA2 := hA.below hbA lA
  have hbel2 := hbel.trans (hbA.mono hbel.size)
  clear hA hbA hb1 hb2 hbel lA
  have lA2 := hA2.lt
  go_upto_region 3 with (first
    | (refine wpList_load_blk rfl rfl rfl row35 hA2 (i16s_size _ _) ?_)
    | (go_at_call 20; refine (toInt16A12_any f _).mono ?_; rintro e w3 ⟨rfl, hb3⟩)
    | (go_at_call 21; refine (waveFrom_any f _).mono ?_; rintro e w4 ⟨m', a', b', rfl, hm', ha', hb', hb4⟩))
  have Hm' := Lib.hid hm'
  have Ha' := Lib.hid ha'
  have Hb' := Lib.hid hb'
  clear hm' ha' hb'
  have hbA := hb3.trans (hb4.mono hb3.size)
  have hbel4 := hbel2.trans (hbA.mono hbel2.size)
  go_wp2_with fail
  refine (sameFloat_alike _ _ (by rw [cn_fwid, cn_fwid, ← widen_cn, ← widen_cn m, Hm.out, Hm'.out]) _).mono ?_
  rintro e w5 ⟨rfl, rfl⟩
  go_wp2_with fail
  refine (sameComplex_alike _ _ _ _ (by rw [cn_fwid, cn_fwid, ← widen_cn, ← widen_cn a, Ha.out, Ha'.out]) (by rw [cn_fwid, cn_fwid, ← widen_cn, ← widen_cn b, Hb.out, Hb'.out]) _).mono ?_
  rintro e w5 ⟨rfl, rfl⟩
  go_wp2_with fail
  go_ret
  exact ⟨rfl, below_drewN hbel4 _⟩
end Go.Proofs.Ytililmlgladnaaa.lawWaveFrom
