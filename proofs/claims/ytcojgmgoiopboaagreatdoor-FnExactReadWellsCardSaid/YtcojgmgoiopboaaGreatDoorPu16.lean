/- strconv.ParseUint at base 16 and 32 bits: the walk of the library's text. -/
import Derived.Test.YtcojgmgoiopboaaGreatDoorHexP
import Derived.Lib.Strings
import Derived.Lib.Walk
import Derived.Lib.ConvBytes
import Derived.Lib.Hide
import Derived.Laws.Strings3
import Derived.Laws.Closers25
import Derived.Laws.Closers25b
import Derived.WalkKit
import Derived.BigCall
import Derived.BigGuard
namespace Go.Proofs.YtcojgmgoiopboaaGreatDoor
open Go.ChangeShapes Go.WideShapes Go.ChangeAt Go.RowKit
set_option linter.unusedVariables false
set_option linter.unusedSimpArgs false
attribute [local irreducible] Calls

theorem lower_all : ∀ n : Nat, n < 256 → (0 ≤ bits .or .u8 (n : Int) 32 ∧ bits .or .u8 (n : Int) 32 ≤ 255 ∧ ((97 ≤ bits .or .u8 (n : Int) 32 ∧ bits .or .u8 (n : Int) 32 ≤ 102 ∧ ((65 ≤ n ∧ n ≤ 70 ∧ bits .or .u8 (n : Int) 32 = n + 32) ∨ (97 ≤ n ∧ n ≤ 102 ∧ bits .or .u8 (n : Int) 32 = n))) ∨ ((bits .or .u8 (n : Int) 32 < 97 ∨ 102 < bits .or .u8 (n : Int) 32) ∧ ¬ (65 ≤ n ∧ n ≤ 70) ∧ ¬ (97 ≤ n ∧ n ≤ 102)))) := by
  decide +kernel
/-- What a byte that is no decimal digit is, by its small letter. -/
theorem lower_hex (c : UInt8) (h : ¬ (48 ≤ c.toNat ∧ c.toNat ≤ 57)) :
    (0 ≤ bits .or .u8 (c.toNat : Int) 32 ∧ bits .or .u8 (c.toNat : Int) 32 ≤ 255) ∧ ((97 ≤ bits .or .u8 (c.toNat : Int) 32 ∧ bits .or .u8 (c.toNat : Int) 32 ≤ 102 ∧ c.toNat ≠ 95 ∧ ∃ d : Nat, hexE c = some d ∧ bits .or .u8 (c.toNat : Int) 32 - 87 = d ∧ d < 16) ∨ ((bits .or .u8 (c.toNat : Int) 32 < 97 ∨ 102 < bits .or .u8 (c.toNat : Int) 32) ∧ hexE c = none)) := by
  obtain ⟨h0, h1, h2⟩ := lower_all c.toNat c.toNat_lt
  refine ⟨⟨h0, h1⟩, ?_⟩
  unfold hexE hexD
  rcases h2 with ⟨ha, hb, ⟨hc, hd, he⟩ | ⟨hc, hd, he⟩⟩ | ⟨ha, hb, hc⟩
  · left
    refine ⟨ha, hb, by omega, c.toNat - 55, ?_, by omega, by omega⟩
    rw [if_pos ⟨hc, hd⟩]
  · left
    refine ⟨ha, hb, by omega, c.toNat - 87, ?_, by omega, by omega⟩
    rw [if_neg (by omega), if_neg h, if_pos ⟨hc, hd⟩]
  · right
    exact ⟨ha, by rw [if_neg hb, if_neg h, if_neg hc]⟩
theorem hexE_dec (c : UInt8) (h : 48 ≤ c.toNat ∧ c.toNat ≤ 57) : hexE c = some (c.toNat - 48) := by
  unfold hexE hexD
  rw [if_neg (by omega), if_pos h]
theorem hexU_cons (M a : Nat) (c : UInt8) (l : List UInt8) {d : Nat} (h : hexE c = some d) : hexU M a (c :: l) = if M < a * 16 + d then .inr true else hexU M (a * 16 + d) l := by
  rw [hexU, h]
theorem hexU_bad (M a : Nat) (c : UInt8) (l : List UInt8) (h : hexE c = none) : hexU M a (c :: l) = .inr false := by
  rw [hexU, h]

/-- What the library's inner function hands back. -/
def uTup : Sum Nat Bool → Value
  | .inl n => .tuple #[.int .u64 n, .nilIface]
  | .inr true => .tuple #[.int .u64 4294967295, .iface 121 (.int .i64 1)]
  | .inr false => .tuple #[.int .u64 0, .iface 121 (.int .i64 2)]
theorem lower_any (c : Int) (w : World) :
    Calls Tryz.prog 88 #[.int .u8 c] w fun e w' => e = .returned (.int .u8 (bits .or .u8 c 32)) ∧ w' = w := by
  go_enter Tryz.func88, Tryz.ntmps88
  go_wp2
  go_ret
  exact ⟨rfl, rfl⟩

set_option maxHeartbeats 32000000 in
set_option maxRecDepth 100000 in
theorem parseUint16_in (t : ByteArray) (hne : t.size ≠ 0) (hmax : t.size ≤ 1048576) (w : World) :
    Calls Tryz.prog 65 #[.string t, .int .i64 16, .int .i64 32] w fun e w' => e = .returned (uTup (hexU 4294967295 0 t.data.toList)) ∧ w' = Lib.bytesWorld w 5 t := by
  have hemp : t.toList.isEmpty = false := by
    rw [← decide_eq_emptyBytes]
    exact decide_eq_false (fun h => hne (by rw [h]; rfl))
  have hcv := Lib.run_convert_string_bytes (P := Tryz.prog) w 9 90 5 t (u := .string) Tryz.underlying9 Tryz.underlying90 Tryz.underlying5
  have hB : ∀ j, j < t.size → (Lib.bytesWorld w 5 t).cell? ⟨w.heap.size, j, none⟩ = some (.int .u8 (t.data.toList.getD j 0).toNat) := fun j hj => Lib.bytesWorld_cell w 5 t j hj
  obtain ⟨W1, hW1⟩ : ∃ W1, W1 = Lib.bytesWorld w 5 t := ⟨_, rfl⟩
  rw [← hW1] at hcv hB ⊢
  clear hW1
  obtain ⟨bs, hL⟩ : ∃ bs, bs = t.data.toList := ⟨_, rfl⟩
  have hLn : bs.length = t.size := by rw [hL, Lib.size_eq]
  rw [← hL] at hB ⊢
  clear hL
  have hmv : IntKind.u64.wrap (IntKind.u64.wrap 4294967296 - 1) = 4294967295 := by
    rw [IntKind.wrap_u64, IntKind.wrap_u64]
    decide
  go_enter Tryz.func65, Tryz.ntmps65
  go_wp2
  go_loop [12, 13, 101] (fun vu vn vi => ∃ (k acc : Nat) (a : Int), vu = .bool false ∧ vn = .int .u64 a ∧ vi = .int .i64 k ∧ k ≤ t.size ∧ Hid (a = (acc : Int) ∧ acc ≤ 4294967295 ∧ hexU 4294967295 0 bs = hexU 4294967295 acc (bs.drop k)))
    (fun _ _ vi => t.size - (intOf vi).toNat)
  case atStart => exact ⟨0, 0, 0, rfl, rfl, rfl, by omega, rfl, by omega, rfl⟩
  case round =>
    obtain ⟨k, acc, a, rfl, rfl, rfl, hk, hh⟩ := hrel
    obtain ⟨ha, hacc, hdec⟩ := hh.out
    clear hh
    have a0 : 0 ≤ a := by omega
    have a1 : a ≤ 4294967295 := by omega
    by_cases hkn : k < t.size
    · have hc := hB k hkn
      have hdrop : bs.drop k = bs[k]'(by omega) :: bs.drop (k + 1) := List.drop_eq_getElem_cons (by omega)
      have hget : bs.getD k 0 = bs[k]'(by omega) := by simp [List.getD, List.getElem?_eq_getElem (show k < bs.length by omega)]
      rw [hdrop] at hdec
      rw [hget] at hc
      generalize bs[k]'(by omega) = c at hc hdec
      have hc256 : c.toNat < 256 := c.toNat_lt
      clear hB hdrop hget
      by_cases hdig : 48 ≤ c.toNat ∧ c.toNat ≤ 57
      · rw [hexU_cons _ _ _ _ (hexE_dec c hdig)] at hdec
        obtain ⟨hd0, hd1⟩ := hdig
        by_cases hov : 4294967295 < acc * 16 + (c.toNat - 48)
        · rw [if_pos hov] at hdec
          have iov : 4294967295 < a * 16 + ((c.toNat : Int) - 48) := by omega
          clear hacc hov ha
          go_wp2
          go_ret2
          exact ⟨by first | rfl | (rw [hdec]; rfl), rfl⟩
        · rw [if_neg hov] at hdec
          have HN : Hid (a * 16 + ((c.toNat : Int) - 48) = ((acc * 16 + (c.toNat - 48) : Nat) : Int) ∧ acc * 16 + (c.toNat - 48) ≤ 4294967295 ∧ hexU 4294967295 0 bs = hexU 4294967295 (acc * 16 + (c.toNat - 48)) (bs.drop (k + 1))) := Lib.hid ⟨by omega, by omega, hdec⟩
          have iov : a * 16 + ((c.toNat : Int) - 48) ≤ 4294967295 := by omega
          clear hacc hov hdec ha
          go_wp2
          refine ⟨⟨k + 1, acc * 16 + (c.toNat - 48), a * 16 + ((c.toNat : Int) - 48), rfl, (by first | rfl | (congr 1; omega)), (by first | rfl | (congr 1; omega)), by omega, HN⟩, by simp [intOf]; omega⟩
      · obtain ⟨⟨hl0, hl1⟩, hlo⟩ := lower_hex c hdig
        have hlw := fun w' => lower_any (c.toNat : Int) w'
        have hdig' : ¬ (48 ≤ (c.toNat : Int) ∧ (c.toNat : Int) ≤ 57) := by omega
        rcases hlo with ⟨hl2, hl3, h95, d, hd, hdl, hd16⟩ | ⟨hl2, hd⟩
        · rw [hexU_cons _ _ _ _ hd] at hdec
          have hx : (bits .or .u8 (c.toNat : Int) 32) = d + 87 := by omega
          rw [hx] at hlw hl2 hl3
          clear hx hdl hl0 hl1 hd hdig
          have i95 : (c.toNat : Int) ≠ 95 := by omega
          have hdd : (d : Int) + 87 - 97 + 10 = d := by omega
          by_cases hov : 4294967295 < acc * 16 + d
          · rw [if_pos hov] at hdec
            have iov : 4294967295 < a * 16 + (d : Int) := by omega
            clear hacc hov ha
            have HD := Lib.hid hdec
            clear hdec
            go_wp2_with (go_at_call 88; refine (hlw _).mono ?_; rintro e w' ⟨rfl, hw⟩; rw [hw]; clear hw w')
            all_goals go_ret2
            all_goals exact ⟨by rw [HD.out]; rfl, rfl⟩
          · rw [if_neg hov] at hdec
            have HN : Hid (a * 16 + (d : Int) = ((acc * 16 + d : Nat) : Int) ∧ acc * 16 + d ≤ 4294967295 ∧ hexU 4294967295 0 bs = hexU 4294967295 (acc * 16 + d) (bs.drop (k + 1))) := Lib.hid ⟨by omega, by omega, hdec⟩
            have iov : a * 16 + (d : Int) ≤ 4294967295 := by omega
            clear hacc hov hdec ha
            go_wp2_with (go_at_call 88; refine (hlw _).mono ?_; rintro e w' ⟨rfl, hw⟩; rw [hw]; clear hw w')
            all_goals refine ⟨⟨k + 1, acc * 16 + d, a * 16 + (d : Int), rfl, (by first | rfl | (congr 1; omega)), (by first | rfl | (congr 1; omega)), by omega, HN⟩, by simp [intOf]; omega⟩
        · rw [hexU_bad _ _ _ _ hd] at hdec
          have HD := Lib.hid hdec
          clear hacc ha hdec hd
          by_cases h95 : c.toNat = 95
          · rw [h95] at hc
            have hl95 : ∀ w', Calls Tryz.prog 88 #[.int .u8 95] w' fun e w'' => e = .returned (.int .u8 127) ∧ w'' = w' := fun w' => lower_any 95 w'
            clear hlw hl0 hl1 hl2 hdig' h95 hdig
            go_wp2_with (go_at_call 88; refine (hl95 _).mono ?_; rintro e w' ⟨rfl, hw⟩; rw [hw]; clear hw w')
            go_ret2
            exact ⟨by rw [HD.out]; rfl, rfl⟩
          have i95 : (c.toNat : Int) ≠ 95 := by omega
          clear h95 hdig
          generalize bits .or .u8 (c.toNat : Int) 32 = x at *
          go_wp2_with (go_at_call 88; refine (hlw _).mono ?_; rintro e w' ⟨rfl, hw⟩; rw [hw]; clear hw w')
          all_goals go_ret2
          all_goals exact ⟨by rw [HD.out]; rfl, rfl⟩
    · have hkk : k = t.size := by omega
      subst hkk
      have hF : hexU 4294967295 acc (bs.drop t.size) = .inl acc := by rw [List.drop_eq_nil_of_le (by omega)]; rfl
      rw [hF] at hdec
      subst ha
      clear hacc hF a0 a1
      go_wp2
      go_ret2
      exact ⟨by first | rfl | (rw [hdec]; rfl), rfl⟩
end Go.Proofs.YtcojgmgoiopboaaGreatDoor
