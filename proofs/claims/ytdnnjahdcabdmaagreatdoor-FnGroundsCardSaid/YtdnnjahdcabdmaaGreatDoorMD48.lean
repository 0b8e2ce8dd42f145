import Derived.Test.YtdnnjahdcabdmaaGreatDoorMD47
import Derived.Test.YtdnnjahdcabdmaaGreatDoorMD44
/- l01Any: a float below 2^32. -/
namespace Go.Proofs.YtdnnjahdcabdmaaGreatDoor
open Go.ChangeShapes Go.WideShapes Go.ChangeAt Go.RowKit
set_option linter.unusedVariables false
set_option linter.unusedSimpArgs false
attribute [local irreducible] Calls
theorem nanC_lt (x : Nat) (w : World) : nanOf .f32 (.nanConv .f32 x) w < 4294967296 := by
  simp only [nanOf, Question.cut]; exact nan32_lt _
theorem three_lt (m : Nat) : floatOfInt .f32 (three 1048576 1048577 (-1048576) m) < 4294967296 := by
  unfold three
  split
  · decide +kernel
  · split
    · decide +kernel
    · decide +kernel
theorem run_n32fromA (n : Int) (w : World) : (callFunc 82 #[.int .u32 n]).run Tryz.prog w = .ok (.value (.float .f32 n.toNat)) w := by
  kernel_rfl
set_option maxRecDepth 100000 in
set_option maxHeartbeats 1600000 in
theorem l01Any_any (b k : Nat) (hk : k + 9 < 1000000) (w : World) (hs : Src w b k) :
    Calls Tryz.prog 80 #[.pointer (some ⟨b, 0, none⟩)] w (GaveF w b (k + 8) fun r => r < 4294967296) := by
  have hx := pick_any b k 14 (by omega) (by omega) (by omega) w hs
  go_enter Tryz.func80, Tryz.ntmps80
  go_upto_region 2 with (go_at_call 44; refine hx.mono ?_; rintro e w1 ⟨x, ⟨x0, x1⟩, rfl, hs1, hg1⟩)
  clear hx
  by_cases h0 : x = 0
  · subst h0
    have hn := fun w' => mathNaN_any w'
    have hc := fun w' => run_narrow_nan (P := Tryz.prog) 169 25 w' Tryz.underlying169 Tryz.underlying25
    have hlt := fun w' => nanC_lt 9221120237041090561 w'
    go_wp2_with (go_at_call 126; refine (hn _).mono ?_; rintro e w' ⟨rfl, hw⟩; rw [hw]; clear hw w')
    go_ret
    exact ⟨_, hlt _, rfl, (hs1.move (fun r hr => rfl)).mono (by omega), hg1.trans (grown_drewN _ 1 _)⟩
  · by_cases h1 : x = 1
    · subst h1
      have hn := fun w' => mathInf1_any w'
      have hc := fun w' => run_narrow_conv (P := Tryz.prog) 169 25 9218868437227405312 2139095040 Tryz.underlying169 Tryz.underlying25 (by kernel_rfl) w'
      go_wp2_with (go_at_call 127; refine (hn _).mono ?_; rintro e w' ⟨rfl, hw⟩; rw [hw]; clear hw w')
      go_ret
      exact ⟨_, by decide, rfl, hs1.mono (by omega), hg1⟩
    · by_cases h2 : x = 2
      · subst h2
        have hn := fun w' => mathInfM_any w'
        have hc := fun w' => run_narrow_conv (P := Tryz.prog) 169 25 18442240474082181120 4286578688 Tryz.underlying169 Tryz.underlying25 (by kernel_rfl) w'
        go_wp2_with (go_at_call 127; refine (hn _).mono ?_; rintro e w' ⟨rfl, hw⟩; rw [hw]; clear hw w')
        go_ret
        exact ⟨_, by decide, rfl, hs1.mono (by omega), hg1⟩
      · by_cases h3 : x = 3
        · subst h3
          have hb := run_n32fromA 2147483648
          go_wp2_with fail
          go_ret
          exact ⟨_, by decide, rfl, hs1.mono (by omega), hg1⟩
        · by_cases h4 : x = 4
          · subst h4
            have hx := pick_any b (k + 2) 16777220 (by omega) (by omega) (by omega) w1 hs1
            have hb := fun n => run_n32fromA n
            go_wp2_with (go_at_call 44; refine hx.mono ?_; rintro e w2 ⟨y, ⟨y0, y1⟩, rfl, hs2, hg2⟩; have hbb := hb y)
            go_ret
            exact ⟨_, by show y.toNat < 4294967296; omega, rfl, hs2.mono (by omega), hg1.trans hg2⟩
          · by_cases h5 : x = 5
            · subst h5
              have hx := pick_any b (k + 2) 1073741824 (by omega) (by omega) (by omega) w1 hs1
              have hb := fun n => run_n32fromA n
              go_upto_region 14 with (go_at_call 44; refine hx.mono ?_; rintro e w2 ⟨y, ⟨y0, y1⟩, rfl, hs2, hg2⟩)
              clear hx
              have hx := pick_any b (k + 4) 4 (by omega) (by omega) (by omega) w2 hs2
              go_wp2_with (go_at_call 44; refine hx.mono ?_; rintro e w3 ⟨z, ⟨z0, z1⟩, rfl, hs3, hg3⟩; have hbb := hb (y * 4 + z))
              go_ret
              exact ⟨_, by show (y * 4 + z).toNat < 4294967296; omega, rfl, hs3.mono (by omega), hg1.trans (hg2.trans hg3)⟩
            · by_cases h6 : x = 6
              · subst h6
                have hx := pick_any b (k + 2) 2000000 (by omega) (by omega) (by omega) w1 hs1
                go_wp2_with (go_at_call 44; refine hx.mono ?_; rintro e w2 ⟨y, ⟨y0, y1⟩, rfl, hs2, hg2⟩)
                go_ret
                exact ⟨_, fres_lt _ (fun r h => quo_bits_lt h), rfl, (hs2.move (fun r hr => rfl)).mono (by omega), hg1.trans (hg2.trans (grown_drewN _ _ _))⟩
              · by_cases h7 : x = 7
                · subst h7
                  have lb : b < w1.heap.size := hs1.lt
                  have hsA := hs1.move (w' := w1.alloc (.cells #[.int .i64 1048576, .int .i64 1048577, .int .i64 (-1048576)] 2)) (fun r hr => heap_alloc_old w1 _ (Nat.lt_of_le_of_lt hr lb))
                  have hx := among3_any b (k + 2) w1.heap.size 1048576 1048577 (-1048576) 2 (by omega) _ hsA (Blk.new _ _ _) (by omega)
                  go_wp2_with (go_at_call 128; refine hx.mono ?_; rintro e w2 ⟨y, ⟨m, hm, rfl⟩, rfl, hs2, hg2⟩)
                  go_ret
                  exact ⟨_, three_lt m, rfl, hs2.mono (by omega), hg1.trans ((World.grownBy_alloc _ _ _).trans hg2)⟩
                · have hx := l01Few_any b (k + 2) (by omega) w1 hs1
                  go_wp2_with (go_at_call 118; refine hx.mono ?_; rintro e w2 ⟨y, ⟨q, hq, rfl⟩, rfl, hs2, hg2⟩)
                  go_ret
                  exact ⟨_, few_lt q hq, rfl, hs2.mono (by omega), hg1.trans hg2⟩
end Go.Proofs.YtdnnjahdcabdmaaGreatDoor
/- ReadGround, in the program: its cut of the text (the walk itself is still to do). -/
namespace Go.Proofs.YtdnnjahdcabdmaaGreatDoor
open Go.ChangeShapes Go.WideShapes Go.ChangeAt Go.RowKit
set_option linter.unusedVariables false
set_option linter.unusedSimpArgs false
attribute [local irreducible] Calls

theorem count_split (c : UInt8) : ∀ (n : Nat) (l : List UInt8), l.length ≤ n → Lib.count l [c] + 1 = (splitL c l).length
  | n, l, h => by
    rcases index_split c l with ⟨i, h1, h2, h3⟩ | ⟨h1, h2⟩
    · cases n with
      | zero => omega
      | succ n =>
        have ih := count_split c n (l.drop (i + 1)) (by simp; omega)
        rw [h3, List.length_cons, ← ih, Lib.count_hit (i := i) (by simp) h1]
        simp; omega
    · rw [h2, Lib.count_miss h1]; rfl
/-- The program's cut of a text at its ends of lines. -/
theorem splitAll_any (s : ByteArray) (hs : s.size ≤ 1048576) (w : World) (m : Int) (hm : w.cell? ⟨1, 0, none⟩ = some (.int .i64 m)) :
    Calls Tryz.prog 70 #[.string s, .string ⟨#[10]⟩] w fun e w' => ∃ v g, e = .returned v ∧ Own w' g 9 1 v (splitL 10 s.data.toList).length (strs (splitL 10 s.data.toList)) ∧ w.heap.size ≤ g ∧ Below w.heap.size w w' := by
  have hsz := splitL_length 10 s.data.toList
  have hl : s.data.toList.length = s.size := rfl
  refine (sh_strings_Split s ⟨#[10]⟩ m w (by omega) hm (by decide)).mono ?_
  rintro e w' ⟨rfl, rfl⟩
  have hb := Lib.splitB_data ⟨#[10]⟩ 0 (Lib.countB s ⟨#[10]⟩) s
  have hc : Lib.countB s ⟨#[10]⟩ = Lib.count s.data.toList [10] := rfl
  have hn := count_split 10 _ s.data.toList (Nat.le_refl _)
  rw [hc] at hb ⊢
  rw [show (⟨#[10]⟩ : ByteArray).data.toList = [10] from rfl, (splitK_len 10 (Lib.count s.data.toList [10]) s.data.toList).2 (by omega)] at hb
  have hv : (Lib.splitB ⟨#[10]⟩ 0 (Lib.count s.data.toList [10]) s).map Value.string = strs (splitL 10 s.data.toList) := by rw [← hb]; simp [strs]
  rw [hn]
  refine ⟨_, _, rfl, own_blk (n := (splitL 10 s.data.toList).length) (Blk.new _ _ _) ?_ ?_ ?_, Nat.le_refl _, below1 _ _⟩
  · rw [hv]; simp [strs_length]
  · unfold maxLen; omega
  · simpa using hv
end Go.Proofs.YtdnnjahdcabdmaaGreatDoor
