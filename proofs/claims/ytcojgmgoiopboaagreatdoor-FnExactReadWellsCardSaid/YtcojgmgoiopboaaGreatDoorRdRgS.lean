/- ReadReadings, in the reference: the walk. -/
import Derived.Test.YtcojgmgoiopboaaGreatDoorRdRgP
import Derived.Test.YtcojgmgoiopboaaGreatDoorRdPmS
namespace Go.Proofs.YtcojgmgoiopboaaGreatDoor
open Go.ChangeShapes Go.WideShapes Go.ChangeAt Go.RowKit
set_option linter.unusedVariables false
set_option linter.unusedSimpArgs false
attribute [local irreducible] Calls

theorem wrap16s (n : Int) (h : -32768 ≤ n ∧ n ≤ 32767) : IntKind.i16.wrap n = n := by
  simp [IntKind.wrap, IntKind.bits, IntKind.signed]
  omega
theorem decN_bd (l : List UInt8) : (decN l).getD 0 < 1000000000 := by
  cases h : decN l with
  | none => simp
  | some u => simpa using (decN_some h).2
set_option maxRecDepth 100000 in
set_option maxHeartbeats 4000000 in
theorem l03ReadSigned_any (s : ByteArray) (hs : s.size ≤ 1048576) (w : World) :
    Calls Tryz.prog 34 #[.string s] w fun e w' => e = .returned (.tuple #[.int .i64 (sgV s.data.toList), .bool (sgB s.data.toList)]) ∧ w' = w := by
  have hidx : ∀ (h : 0 < s.size) w', (Instr.index 9 (.string s) (.int .i64 0)).run Tryz.prog w' = .ok (.int .u8 ((s.data.toList.getD 0 0).toNat : Int)) w' := fun h w' => by
    rw [run_index_string w' 9 _ .i64 _ Tryz.underlying9, dif_pos ⟨by omega, by omega⟩]
    simp only [Int.toNat_zero]
    rw [List.getD_eq_getElem?_getD, List.getElem?_eq_getElem (show 0 < s.data.toList.length from h)]
    rfl
  have hn1 := fun w' => l01Number_any s hs w'
  have hl : s.data.toList.length = s.size := rfl
  have hsl : ∀ (h : 0 < s.size) W, (Instr.slice 9 (.string s) (some (.int .i64 1)) none none).run Tryz.prog W = .ok (.string (s.extract 1 s.size)) W := fun h W => by
    rw [run_slice_string_from_if W 9 s .i64 _ Tryz.underlying9, if_pos ⟨by omega, by omega⟩]
    rfl
  have hex : s.extract 1 s.size = ⟨(s.data.toList.tail).toArray⟩ := by
    rw [extract_eq]
    have : (s.data.toList.drop 1).take (s.size - 1) = s.data.toList.tail := by
      rw [List.take_of_length_le (by simp [hl]), List.drop_one]
    rw [this]
  have hn2 := fun w' => l01Number_any ⟨(s.data.toList.tail).toArray⟩ (by rw [size_of]; simp; omega) w'
  rw [show (⟨(s.data.toList.tail).toArray⟩ : ByteArray).data.toList = s.data.toList.tail by simp] at hn2
  rw [hex] at hsl
  have hem : s.toList.isEmpty = s.data.toList.isEmpty := by rw [ByteArray.toList_eq]
  clear hex
  generalize s.data.toList = l at *
  cases l with
  | nil =>
    have hE : s.toList.isEmpty = true := hem
    have hV : sgV [] = 0 ∧ sgB [] = false := ⟨by unfold sgV decN; simp, by unfold sgB decN; simp⟩
    have hD : decN [] = none := by unfold decN; simp
    rw [hV.1, hV.2]
    rw [hD] at hn1
    clear hem hV hD hn2 hsl hidx
    go_enter Tryz.func34, Tryz.ntmps34
    go_wp2_with (go_at_call 22; refine (hn1 _).mono ?_; rintro e w' ⟨rfl, hw⟩; rw [hw]; clear hw w')
    go_ret2
    exact ⟨rfl, rfl⟩
  | cons c r =>
    have hE : s.toList.isEmpty = false := hem
    have hp : 0 < s.size := by simp at hl; omega
    have hx := hidx hp
    have hs1 := hsl hp
    clear hidx hsl
    simp only [List.getD_cons_zero, List.tail_cons] at hx hs1 hn2
    by_cases hc : c = 45
    · have ic : ((c.toNat : Nat) : Int) = 45 := by rw [hc]; rfl
      have hb := decN_bd r
      have hV : sgV (c :: r) = -(((decN r).getD 0 : Nat) : Int) ∧ sgB (c :: r) = ((decN r).isSome && decide (0 < (decN r).getD 0)) := by
        subst hc; exact ⟨by unfold sgV; simp, by unfold sgB; rw [if_pos (show (45 :: r : List UInt8).head? = some 45 from rfl)]; rfl⟩
      rw [hV.1, hV.2]
      clear hV hem hl hn1 hc
      generalize (decN r).getD 0 = u at *
      generalize (decN r).isSome = b at *
      have wn : IntKind.i64.wrap (-(u : Int)) = -(u : Int) := IntWalk.i64_in _ (by omega)
      have hd : decide (0 < u) = decide ((0 : Int) < u) := by simp
      rw [hd]
      clear hd
      cases b <;> by_cases h0 : (0 : Int) < u
      all_goals (
        go_enter Tryz.func34, Tryz.ntmps34
        go_wp2_with (go_at_call 22; refine (hn2 _).mono ?_; rintro e w' ⟨rfl, hw⟩; rw [hw]; clear hw w')
        go_ret2
        exact ⟨by first | rfl | simp [h0], rfl⟩)
    · have ic : ¬ ((c.toNat : Nat) : Int) = 45 := fun q => hc (UInt8.toNat_inj.1 (by have : (45 : UInt8).toNat = 45 := rfl; omega))
      have hV : sgV (c :: r) = (((decN (c :: r)).getD 0 : Nat) : Int) ∧ sgB (c :: r) = (decN (c :: r)).isSome := by
        refine ⟨?_, ?_⟩
        · unfold sgV; rw [if_neg (by simpa using hc)]
        · unfold sgB; rw [if_neg (by simpa using hc)]
      rw [hV.1, hV.2]
      clear hV hem hl hn2 hc hs1
      generalize decN (c :: r) = D at *
      go_enter Tryz.func34, Tryz.ntmps34
      go_wp2_with (go_at_call 22; refine (hn1 _).mono ?_; rintro e w' ⟨rfl, hw⟩; rw [hw]; clear hw w')
      go_ret2
      exact ⟨rfl, rfl⟩
theorem okT_prev2 {P : Nat → Rg} : ∀ {k : Nat}, okT P k = true → prevT P k ≤ 100000
  | 0, _ => by show (0 : Int) ≤ 100000; omega
  | k + 1, h => (okT_in h k (by omega)).2
end Go.Proofs.YtcojgmgoiopboaaGreatDoor
