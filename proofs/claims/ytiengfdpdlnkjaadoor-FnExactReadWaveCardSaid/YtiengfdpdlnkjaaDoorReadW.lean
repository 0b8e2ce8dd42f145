/- ReadWave, in the program and in the reference: the walks. -/
import Derived.Test.YtiengfdpdlnkjaaDoorReadN
import Derived.Test.YtiengfdpdlnkjaaDoorCutP
namespace Go.Proofs.YtiengfdpdlnkjaaDoor
open Go.ChangeShapes Go.WideShapes Go.ChangeAt Go.RowKit
set_option linter.unusedVariables false
set_option linter.unusedSimpArgs false
attribute [local irreducible] Calls
/-- The halves of a text. -/
def halfA (s : ByteArray) : List UInt8 := (Lib.cut s.data.toList [32]).1
def halfB (s : ByteArray) : List UInt8 := (Lib.cut s.data.toList [32]).2.1
/-- What is read. -/
def wavC (s : ByteArray) : Int := if numC (halfA s) = 0 ∧ numC (halfB s) = 0 then 0 else 5
def wavA (s : ByteArray) : Nat := if wavC s = 0 then numB (halfA s) else 0
def wavB (s : ByteArray) : Nat := if wavC s = 0 then numB (halfB s) else 0
theorem half_le (s : ByteArray) : (⟨(halfA s).toArray⟩ : ByteArray).size ≤ s.size ∧ (⟨(halfB s).toArray⟩ : ByteArray).size ≤ s.size := by
  have hl : s.size = s.data.toList.length := rfl
  have ha : (⟨(halfA s).toArray⟩ : ByteArray).size = (halfA s).length := by simp [ByteArray.size]
  have hb : (⟨(halfB s).toArray⟩ : ByteArray).size = (halfB s).length := by simp [ByteArray.size]
  rw [ha, hb, hl]
  unfold halfA halfB Lib.cut
  split
  · simp; omega
  · simp
set_option maxRecDepth 100000 in
set_option maxHeartbeats 4000000 in
theorem readWaveI_any (s : ByteArray) (hs : s.size ≤ 1048576) (w : World) (hV : NumVars w) (m : Int) (hm : w.cell? ⟨1, 0, none⟩ = some (.int .i64 m)) :
    Calls Tryd.prog 5 #[.string s] w fun e w' => e = .returned (.tuple #[.complex .f32 (wavA s) (wavB s), .int .i64 (wavC s)]) ∧ Below w.heap.size w w' := by
  have hcut := sh_strings_Cut s ⟨#[32]⟩ m w (by omega) hm
  have hcut : Calls Tryd.prog 10 #[.string s, .string ⟨#[32]⟩] w fun e w' => e = .returned (.tuple #[.string ⟨(halfA s).toArray⟩, .string ⟨(halfB s).toArray⟩, .bool (Lib.cut s.data.toList [32]).2.2]) ∧ ∃ n, w' = w.drewN n := hcut
  generalize (Lib.cut s.data.toList [32]).2.2 = fnd at *
  have hA := fun w1 (hb : Below w.heap.size w w1) => readNumberI_any ⟨(halfA s).toArray⟩ (by have := (half_le s).1; omega) w1 (hV.below hb)
  have hB := fun w1 (hb : Below w.heap.size w w1) => readNumberI_any ⟨(halfB s).toArray⟩ (by have := (half_le s).2; omega) w1 (hV.below hb)
  have e1 : ∀ l : List UInt8, (⟨l.toArray⟩ : ByteArray).data.toList = l := fun l => by simp
  simp only [e1] at hA hB
  have hC : wavC s = if numC (halfA s) = 0 ∧ numC (halfB s) = 0 then 0 else 5 := rfl
  have hwA : wavA s = if wavC s = 0 then numB (halfA s) else 0 := rfl
  have hwB : wavB s = if wavC s = 0 then numB (halfB s) else 0 := rfl
  have hca := numC_cases (halfA s)
  have hcb := numC_cases (halfB s)
  generalize wavA s = A at *
  generalize wavB s = B at *
  generalize wavC s = C at *
  generalize halfA s = lA at *
  generalize halfB s = lB at *
  generalize numB lA = bA at *
  generalize numB lB = bB at *
  generalize numC lA = cA at *
  generalize numC lB = cB at *
  clear e1 hm hV
  rcases hca with rfl | rfl
  · rcases hcb with rfl | rfl
    · have H : Hid (C = 0 ∧ A = bA ∧ B = bB) := Lib.hid (by rw [if_pos ⟨rfl, rfl⟩] at hC; subst hC; exact ⟨rfl, by rw [hwA, if_pos rfl], by rw [hwB, if_pos rfl]⟩)
      clear hC hwA hwB
      go_enter Tryd.func5, Tryd.ntmps5
      go_upto_region 2 with (go_at_call 10; refine hcut.mono ?_; rintro e w1 ⟨rfl, n, rfl⟩)
      have hb0 := below_drewN (Below.refl w.heap.size w) n
      go_upto_region 3 with (go_at_call 11; refine (hA _ hb0).mono ?_; rintro e w2 ⟨rfl, hb1⟩)
      have hb2 := hb0.trans (hb1.mono hb0.size)
      go_wp2_with (go_at_call 11; refine (hB _ hb2).mono ?_; rintro e w3 ⟨rfl, hb3⟩)
      go_ret2
      exact ⟨by rw [H.out.1, H.out.2.1, H.out.2.2]; rfl, hb2.trans (hb3.mono hb2.size)⟩
    · have H : Hid (C = 5 ∧ A = 0 ∧ B = 0) := Lib.hid (by rw [if_neg (by decide)] at hC; subst hC; exact ⟨rfl, by rw [hwA, if_neg (by decide)], by rw [hwB, if_neg (by decide)]⟩)
      clear hC hwA hwB
      go_enter Tryd.func5, Tryd.ntmps5
      go_upto_region 2 with (go_at_call 10; refine hcut.mono ?_; rintro e w1 ⟨rfl, n, rfl⟩)
      have hb0 := below_drewN (Below.refl w.heap.size w) n
      go_upto_region 3 with (go_at_call 11; refine (hA _ hb0).mono ?_; rintro e w2 ⟨rfl, hb1⟩)
      have hb2 := hb0.trans (hb1.mono hb0.size)
      go_wp2_with (go_at_call 11; refine (hB _ hb2).mono ?_; rintro e w3 ⟨rfl, hb3⟩)
      go_ret2
      exact ⟨by rw [H.out.1, H.out.2.1, H.out.2.2]; rfl, hb2.trans (hb3.mono hb2.size)⟩
  · have H : Hid (C = 5 ∧ A = 0 ∧ B = 0) := Lib.hid (by rw [if_neg (by intro h; exact absurd h.1 (by decide))] at hC; subst hC; exact ⟨rfl, by rw [hwA, if_neg (by decide)], by rw [hwB, if_neg (by decide)]⟩)
    clear hC hwA hwB hcb
    go_enter Tryd.func5, Tryd.ntmps5
    go_upto_region 2 with (go_at_call 10; refine hcut.mono ?_; rintro e w1 ⟨rfl, n, rfl⟩)
    have hb0 := below_drewN (Below.refl w.heap.size w) n
    go_upto_region 3 with (go_at_call 11; refine (hA _ hb0).mono ?_; rintro e w2 ⟨rfl, hb1⟩)
    have hb2 := hb0.trans (hb1.mono hb0.size)
    go_wp2_with (go_at_call 11; refine (hB _ hb2).mono ?_; rintro e w3 ⟨rfl, hb3⟩)
    go_ret2
    exact ⟨by rw [H.out.1, H.out.2.1, H.out.2.2]; rfl, hb2.trans (hb3.mono hb2.size)⟩
theorem waveOf_any (a b : Nat) (w : World) :
    Calls Tryd.prog 9 #[.float .f32 a, .float .f32 b] w fun e w' => e = .returned (.complex .f32 a b) ∧ w' = w := by
  go_enter Tryd.func9, Tryd.ntmps9
  go_wp2_with fail
  go_ret
  exact ⟨rfl, rfl⟩
set_option maxRecDepth 100000 in
set_option maxHeartbeats 4000000 in
theorem readWaveS_any (s : ByteArray) (hs : s.size ≤ 1048576) (w : World) :
    Calls Tryd.prog 4 #[.string s] w fun e w' => e = .returned (.tuple #[.complex .f32 (wavA s) (wavB s), .int .i64 (wavC s)]) ∧ Below w.heap.size w w' := by
  have hsp := l01Split_any s 32 hs w
  have hsl := splitL_length 32 s.data.toList
  have hsz : s.data.toList.length = s.size := rfl
  have e1 : ∀ l : List UInt8, (⟨l.toArray⟩ : ByteArray).data.toList = l := fun l => by simp
  have hC : wavC s = if numC (halfA s) = 0 ∧ numC (halfB s) = 0 then 0 else 5 := rfl
  have hwA : wavA s = if wavC s = 0 then numB (halfA s) else 0 := rfl
  have hwB : wavB s = if wavC s = 0 then numB (halfB s) else 0 := rfl
  rcases wave_words s.data.toList with hw | ⟨hw, h5⟩
  · have hA := fun w1 => readNumberS_any ⟨(halfA s).toArray⟩ (by have := (half_le s).1; omega) w1
    have hB := fun w1 => readNumberS_any ⟨(halfB s).toArray⟩ (by have := (half_le s).2; omega) w1
    simp only [e1] at hA hB
    have hw : splitL 32 s.data.toList = [halfA s, halfB s] := hw
    rw [hw] at hsp
    have hca := numC_cases (halfA s)
    have hcb := numC_cases (halfB s)
    generalize wavA s = A at *
    generalize wavB s = B at *
    generalize wavC s = C at *
    generalize halfA s = lA at *
    generalize halfB s = lB at *
    generalize numB lA = bA at *
    generalize numB lB = bB at *
    generalize numC lA = cA at *
    generalize numC lB = cB at *
    clear e1 hsl hsz hw
    have hsp : Calls Tryd.prog 7 #[.string s, .int .u8 32] w fun e w' => ∃ v g, e = .returned v ∧ Own w' g 9 1 v 2 (strs [lA, lB]) ∧ w.heap.size ≤ g ∧ Below w.heap.size w w' := hsp
    have hh : (C = 0 ∧ A = bA ∧ B = bB ∧ cA = 0 ∧ cB = 0) ∨ (C = 5 ∧ A = 0 ∧ B = 0 ∧ ((cA = 0 ∧ cB = 5) ∨ cA = 5)) := by
      rcases hca with rfl | rfl
      · rcases hcb with rfl | rfl
        · left
          rw [if_pos ⟨rfl, rfl⟩] at hC; subst hC; exact ⟨rfl, by rw [hwA, if_pos rfl], by rw [hwB, if_pos rfl], rfl, rfl⟩
        · right
          rw [if_neg (by decide)] at hC; subst hC; exact ⟨rfl, by rw [hwA, if_neg (by decide)], by rw [hwB, if_neg (by decide)], .inl ⟨rfl, rfl⟩⟩
      · right
        rw [if_neg (by intro h; exact absurd h.1 (by decide))] at hC; subst hC; exact ⟨rfl, by rw [hwA, if_neg (by decide)], by rw [hwB, if_neg (by decide)], .inr rfl⟩
    clear hC hwA hwB hca hcb
    go_enter Tryd.func4, Tryd.ntmps4
    go_upto_region 2 with (go_at_call 7; refine hsp.mono ?_; rintro e w1 ⟨v, g, rfl, hO, hg, hb⟩)
    obtain ⟨cap, rfl, hc1, hc2⟩ := hO.form
    have c0 : w1.cell? ⟨g, 0, none⟩ = some (.string ⟨lA.toArray⟩) := hO.cell 0 (by omega)
    have c1 : ∀ q, (w1.drewN q).cell? ⟨g, 1, none⟩ = some (.string ⟨lB.toArray⟩) := fun q => hO.cell 1 (by omega)
    have HH := Lib.hid hh
    clear hh hO
    have hA := hA w1
    go_upto_region 5 with (go_at_call 8; refine hA.mono ?_; rintro e w2 ⟨rfl, q, rfl⟩)
    have c1 := c1 q
    have hB := hB (w1.drewN q)
    go_upto_region 6 with (go_at_call 8; refine hB.mono ?_; rintro e w2 ⟨rfl, q2, rfl⟩)
    have hbq := below_drewN hb (q + q2)
    rcases HH.out with ⟨h1, h2, h3, rfl, rfl⟩ | ⟨h1, h2, h3, ⟨rfl, rfl⟩ | rfl⟩
    · have H := Lib.hid (And.intro h1 (And.intro h2 h3))
      clear HH h1 h2 h3
      go_wp2_with (go_at_call 9; refine (waveOf_any _ _ _).mono ?_; rintro e w' ⟨rfl, hw⟩; rw [hw]; clear hw w')
      go_ret2
      exact ⟨by rw [H.out.1, H.out.2.1, H.out.2.2]; rfl, hbq⟩
    · have H := Lib.hid (And.intro h1 (And.intro h2 h3))
      clear HH h1 h2 h3
      go_wp2_with fail
      go_ret2
      exact ⟨by rw [H.out.1, H.out.2.1, H.out.2.2]; rfl, hbq⟩
    · have H := Lib.hid (And.intro h1 (And.intro h2 h3))
      clear HH h1 h2 h3
      go_wp2_with fail
      go_ret2
      exact ⟨by rw [H.out.1, H.out.2.1, H.out.2.2]; rfl, hbq⟩
  · have h5 : numC (halfB s) = 5 := h5
    have H : Hid (wavC s = 5 ∧ wavA s = 0 ∧ wavB s = 0) := Lib.hid (by
      rw [if_neg (by rw [h5]; intro h; exact absurd h.2 (by decide))] at hC
      rw [hC] at hwA hwB
      exact ⟨hC, hwA, hwB⟩)
    clear hC hwA hwB h5 e1
    generalize wavA s = A at *
    generalize wavB s = B at *
    generalize wavC s = C at *
    have hn1 : ((splitL 32 s.data.toList).length : Int) ≠ 2 := by omega
    have hn0 : (splitL 32 s.data.toList).length ≤ 1048577 := by omega
    have hsp : Calls Tryd.prog 7 #[.string s, .int .u8 32] w fun e w' => ∃ v g, e = .returned v ∧ Own w' g 9 1 v (splitL 32 s.data.toList).length (strs (splitL 32 s.data.toList)) ∧ w.heap.size ≤ g ∧ Below w.heap.size w w' := hsp
    generalize splitL 32 s.data.toList = L at *
    clear hw hsl hsz
    go_enter Tryd.func4, Tryd.ntmps4
    go_upto_region 2 with (go_at_call 7; refine hsp.mono ?_; rintro e w1 ⟨v, g, rfl, hO, hg, hb⟩)
    obtain ⟨cap, rfl, hc1, hc2⟩ := hO.form
    go_wp2_with fail
    go_ret2
    exact ⟨by rw [H.out.1, H.out.2.1, H.out.2.2]; rfl, hb⟩
end Go.Proofs.YtiengfdpdlnkjaaDoor
