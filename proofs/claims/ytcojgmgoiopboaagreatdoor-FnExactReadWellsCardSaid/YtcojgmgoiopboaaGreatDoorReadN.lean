/- ReadNumber, in the program and in the reference: the walks. -/
import Derived.Test.YtcojgmgoiopboaaGreatDoorNumT
namespace Go.Proofs.YtcojgmgoiopboaaGreatDoor
open Go.ChangeShapes Go.WideShapes Go.ChangeAt Go.RowKit
set_option linter.unusedVariables false
set_option linter.unusedSimpArgs false
attribute [local irreducible] Calls

theorem str_ne (a : List UInt8) (s : ByteArray) : (decide ((⟨a.toArray⟩ : ByteArray) = s)) = decide (a = s.data.toList) := by
  by_cases h : a = s.data.toList
  · subst h; simp
  · rw [decide_eq_false h]
    apply decide_eq_false
    intro he
    apply h
    rw [← he]
set_option maxRecDepth 100000 in
set_option maxHeartbeats 4000000 in
theorem readNumberI_any (s : ByteArray) (hs : s.size ≤ 1048576) (w : World) (hV : NumVars w) :
    Calls Tryz.prog 16 #[.string s] w fun e w' => e = .returned (.tuple #[.float .f32 (numB s.data.toList), .int .i64 (numC s.data.toList)]) ∧ Below w.heap.size w w' := by
  have hp := parseUintP_any s hs w hV
  have HV := Lib.hid hV
  have hfr := fun n w' => run_n32from n w'
  clear hV
  go_enter Tryz.func16, Tryz.ntmps16
  go_upto_region 1 with fail
  go_wp2_with (go_at_call 40; refine hp.mono ?_; rintro e w1 ⟨⟨n, hn, rfl, hc⟩ | ⟨n, t, v, hn, rfl, hc⟩, hb⟩)
  · have ht := numberText_any n hn w1 (HV.out.below hb)
    have hB : numB s.data.toList = (numL s.data.toList).getD 0 := rfl
    rcases hc with ⟨hc1, hc2⟩ | ⟨hc1, hc2⟩
    · have he : (⟨(txt n).toArray⟩ : ByteArray) = s := by rw [hc1]
      have HB : Hid (numB s.data.toList = n ∧ numC s.data.toList = 0) := Lib.hid (by unfold numB numC; rw [hc2]; exact ⟨rfl, rfl⟩)
      rw [he] at ht
      clear hc1 hc2 he hB
      refine ht.mono ?_
      rintro e w2 ⟨rfl, hb2⟩
      go_wp2_with fail
      go_ret2
      exact ⟨by rw [HB.out.1, HB.out.2]; rfl, hb.trans (hb2.mono hb.size)⟩
    · have he : ((⟨(txt n).toArray⟩ : ByteArray).toList == s.toList) = false := by
        rw [ByteArray.toList_mk, ByteArray.toList_eq]
        simpa using hc1
      have HB : Hid (numB s.data.toList = 0 ∧ numC s.data.toList = 5) := Lib.hid (by unfold numB numC; rw [hc2]; exact ⟨rfl, rfl⟩)
      clear hc1 hc2 hB
      generalize (⟨(txt n).toArray⟩ : ByteArray) = T at *
      refine ht.mono ?_
      rintro e w2 ⟨rfl, hb2⟩
      go_wp2_with fail
      go_ret2
      exact ⟨by rw [HB.out.1, HB.out.2]; rfl, hb.trans (hb2.mono hb.size)⟩
  · have HB : Hid (numB s.data.toList = 0 ∧ numC s.data.toList = 5) := Lib.hid (by unfold numB numC; rw [hc]; exact ⟨rfl, rfl⟩)
    go_ret2
    exact ⟨by rw [HB.out.1, HB.out.2]; rfl, hb⟩

theorem l01Bits_any (b : Nat) (w : World) :
    Calls Tryz.prog 51 #[.float .f32 b] w fun e w' => e = .returned (.int .u32 (cn b)) ∧ w' = w := by
  have hb := run_n32bits b
  unfold cn
  cases hn : isN .f32 b
  · have ho := order_self (k := .f32) hn
    rw [cnk_of_not hn]
    go_enter Tryz.func51, Tryz.ntmps51
    go_wp2_with fail
    go_ret
    exact ⟨rfl, rfl⟩
  · have ho := order_nan_left (k := .f32) (x := b) (y := b) hn
    rw [cnk_of_nan hn]
    go_enter Tryz.func51, Tryz.ntmps51
    go_wp2_with fail
    go_ret
    exact ⟨rfl, rfl⟩
theorem hexV_small {c : UInt8} {a d : Nat} (h : hexD c = some d) (k : Nat) (ha : a < 16 ^ k) : a * 16 + d < 16 ^ (k + 1) := by
  have := hexD_lt h
  rw [Nat.pow_succ]
  omega
theorem hexV_cons (a : Nat) (c : UInt8) (l : List UInt8) {d : Nat} (h : hexD c = some d) : hexV a (c :: l) = hexV (a * 16 + d) l := by
  rw [hexV, h]
theorem hexV_bad (a : Nat) (c : UInt8) (l : List UInt8) (h : hexD c = none) : hexV a (c :: l) = none := by
  rw [hexV, h]
set_option maxRecDepth 100000 in
set_option maxHeartbeats 4000000 in
theorem l01Read_any (s : ByteArray) (hs : s.size ≤ 1048576) (w : World) :
    Calls Tryz.prog 25 #[.string s] w fun e w' => (∃ x : Nat, e = .returned (.tuple #[.float .f32 x, .bool (numL s.data.toList).isSome]) ∧ (numL s.data.toList ≠ none → x = numB s.data.toList)) ∧ ∃ q, w' = w.drewN q := by
  by_cases h8 : s.size = 8
  · have hl : s.data.toList.length = 8 := h8
    have hidx : ∀ (k : Nat) (h : k < 8) w', (Instr.index 9 (.string s) (.int .i64 (k : Int))).run Tryz.prog w' = .ok (.int .u8 ((s.data.toList.getD k 0).toNat : Int)) w' := fun k h w' => by
      rw [run_index_string w' 9 _ .i64 _ Tryz.underlying9, dif_pos ⟨by omega, by rw [h8]; omega⟩]
      have e2 : ((k : Int)).toNat = k := by omega
      simp only [e2]
      rw [List.getD_eq_getElem?_getD, List.getElem?_eq_getElem (by rw [hl]; exact h)]
      rfl
    have HX := Lib.hid hidx
    have hB : ∀ b, hexV 0 s.data.toList = some b → numL s.data.toList = (if cn b = b then some b else none) := fun b hb => by unfold numL; rw [if_pos hl, hb]
    have hN : hexV 0 s.data.toList = none → numL s.data.toList = none := fun hb => by unfold numL; rw [if_pos hl, hb]
    have HB := Lib.hid hB
    have HN := Lib.hid hN
    have hnB : numB s.data.toList = (numL s.data.toList).getD 0 := rfl
    have HNB := Lib.hid hnB
    have HL := Lib.hid hl
    clear hidx hB hN hnB hl
    generalize numB s.data.toList = NB at *
    generalize hbs : s.data.toList = bs at *
    have Hbs := Lib.hid hbs
    clear hbs
    have hfr := fun n w' => run_n32from n w'
    go_enter Tryz.func25, Tryz.ntmps25
    go_upto_region 5 with fail
    go_loop [4, 5] (fun vb vi => ∃ (acc k : Nat), vb = .int .u32 acc ∧ vi = .int .i64 k ∧ k ≤ 8 ∧ Hid (acc < 16 ^ k) ∧ Hid (hexV 0 bs = hexV acc (bs.drop k))) (fun _ vi => 8 - (intOf vi).toNat)
    case atStart => exact ⟨0, 0, rfl, rfl, by omega, Lib.hid (by decide), Lib.hid rfl⟩
    case round =>
      obtain ⟨acc, k, rfl, rfl, hk, hacc, hv⟩ := hrel
      have bk : (0 : Int) ≤ k := by omega
      by_cases hlt : k < 8
      · have bl : (k : Int) < 8 := by omega
        have hix := fun w' => HX.out k hlt w'
        have hdrop : bs.drop k = bs[k]'(by rw [HL.out]; exact hlt) :: bs.drop (k + 1) := List.drop_eq_getElem_cons (by rw [HL.out]; exact hlt)
        have hv2 := hv.out
        have hget : bs.getD k 0 = bs[k]'(by rw [HL.out]; exact hlt) := by rw [List.getD_eq_getElem?_getD, List.getElem?_eq_getElem (by rw [HL.out]; exact hlt)]; rfl
        rw [hget] at hix
        rw [hdrop] at hv2
        have h7 : acc < 268435456 := by
          have h1 : 16 ^ k ≤ 16 ^ 7 := Nat.pow_le_pow_right (by decide) (by omega)
          have h2 := hacc.out
          have h3 : 16 ^ 7 = 268435456 := by decide
          omega
        clear hdrop hget
        generalize bs[k]'(by rw [HL.out]; exact hlt) = c at *
        have hc256 : c.toNat < 256 := c.toNat_lt
        by_cases hd1 : 48 ≤ c.toNat ∧ c.toNat ≤ 57
        · have hd : hexD c = some (c.toNat - 48) := by unfold hexD; rw [if_pos hd1]
          rw [hexV_cons _ _ _ hd] at hv2
          have HA := Lib.hid (hexV_small hd k hacc.out)
          have HV2 := Lib.hid hv2
          obtain ⟨q0, q1⟩ := hd1
          have iov : (acc : Int) * 16 + ((c.toNat : Int) - 48) ≤ 4294967295 := by omega
          have iow : (acc : Int) * 16 ≤ 4294967295 := by omega
          clear hd hv2
          go_wp2_with fail
          refine ⟨⟨acc * 16 + (c.toNat - 48), k + 1, by first | rfl | (congr 1; omega), by first | rfl | (congr 1; omega), by omega, HA, HV2⟩, by simp [intOf]; omega⟩
        · by_cases hd2 : 97 ≤ c.toNat ∧ c.toNat ≤ 102
          · have hd : hexD c = some (c.toNat - 87) := by unfold hexD; rw [if_neg hd1, if_pos hd2]
            rw [hexV_cons _ _ _ hd] at hv2
            have HA := Lib.hid (hexV_small hd k hacc.out)
            have HV2 := Lib.hid hv2
            obtain ⟨q0, q1⟩ := hd2
            have iov : (acc : Int) * 16 + ((c.toNat : Int) - 97) + 10 ≤ 4294967295 := by omega
            have iow : (acc : Int) * 16 ≤ 4294967295 := by omega
            clear hd hv2 hd1
            go_wp2_with fail
            refine ⟨⟨acc * 16 + (c.toNat - 87), k + 1, by first | rfl | (congr 1; omega), by first | rfl | (congr 1; omega), by omega, HA, HV2⟩, by simp [intOf]; omega⟩
          · have hd : hexD c = none := by unfold hexD; rw [if_neg hd1, if_neg hd2]
            rw [hexV_bad _ _ _ hd] at hv2
            have HM : Hid (numL bs = none) := Lib.hid (HN.out (hv.out.trans (by rw [← hv.out]; exact hv2)))
            have e1 : ¬ (48 ≤ (c.toNat : Int) ∧ (c.toNat : Int) ≤ 57) := by omega
            have e2 : ¬ (97 ≤ (c.toNat : Int) ∧ (c.toNat : Int) ≤ 102) := by omega
            clear hd hv2 hd1 hd2
            go_wp2_with fail
            all_goals go_ret2
            all_goals exact ⟨⟨0, by rw [HM.out]; rfl, fun h => absurd HM.out h⟩, 0, rfl⟩
      · obtain rfl : k = 8 := by omega
        have hv2 := hv.out
        rw [List.drop_eq_nil_of_le (by rw [HL.out]; exact Nat.le_refl _)] at hv2
        have hv3 : hexV 0 bs = some acc := hv2
        have HM := Lib.hid (HB.out acc hv3)
        have hb := fun w' => l01Bits_any acc w'
        clear hv2 hv3
        by_cases hc : cn acc = acc
        · rw [hc] at hb
          go_wp2_with (go_at_call 51; refine (hb _).mono ?_; rintro e w' ⟨rfl, hw⟩; rw [hw]; clear hw w')
          rw [if_pos hc] at HM
          go_ret2
          exact ⟨⟨acc, by rw [HM.out]; rfl, fun _ => by rw [HNB.out, HM.out]; rfl⟩, 0, rfl⟩
        · rw [if_neg hc] at HM
          have hne : (((cn acc : Nat) : Int) == (acc : Int)) = false := by simp; omega
          generalize cn acc = ca at *
          clear hc
          go_wp2_with (go_at_call 51; refine (hb _).mono ?_; rintro e w' ⟨rfl, hw⟩; rw [hw]; clear hw w')
          go_ret2
          exact ⟨⟨acc, by rw [HM.out]; rfl, fun h => absurd HM.out h⟩, 0, rfl⟩
  · have hl : s.data.toList.length ≠ 8 := h8
    have HB : Hid (numL s.data.toList = none) := Lib.hid (by unfold numL; rw [if_neg hl])
    clear hl
    go_enter Tryz.func25, Tryz.ntmps25
    go_wp2_with fail
    go_ret2
    exact ⟨⟨0, by rw [HB.out]; rfl, fun h => absurd HB.out h⟩, 0, rfl⟩
set_option maxRecDepth 100000 in
set_option maxHeartbeats 400000 in
theorem readNumberS_any (s : ByteArray) (hs : s.size ≤ 1048576) (w : World) :
    Calls Tryz.prog 35 #[.string s] w fun e w' => e = .returned (.tuple #[.float .f32 (numB s.data.toList), .int .i64 (numC s.data.toList)]) ∧ ∃ q, w' = w.drewN q := by
  have h := l01Read_any s hs w
  have hB : numB s.data.toList = (numL s.data.toList).getD 0 := rfl
  have hC : numC s.data.toList = if (numL s.data.toList).isSome then 0 else 5 := rfl
  generalize numB s.data.toList = NB at *
  generalize numC s.data.toList = NC at *
  cases hm : numL s.data.toList <;> rw [hm] at h hB hC
  · have HB : Hid (NB = 0 ∧ NC = 5) := Lib.hid ⟨hB, hC⟩
    have h : Calls Tryz.prog 25 #[.string s] w fun e w' => (∃ x : Nat, e = .returned (.tuple #[.float .f32 x, .bool false])) ∧ ∃ q, w' = w.drewN q := h.mono fun e w' hh => ⟨⟨_, hh.1.choose_spec.1⟩, hh.2⟩
    clear hB hC hm
    go_enter Tryz.func35, Tryz.ntmps35
    go_wp2_with (go_at_call 25; refine h.mono ?_; rintro e w1 ⟨⟨x, rfl⟩, q, rfl⟩)
    go_ret2
    exact ⟨by rw [HB.out.1, HB.out.2]; rfl, _, rfl⟩
  · rename_i b
    have HB : Hid (NB = b ∧ NC = 0) := Lib.hid ⟨hB, hC⟩
    have h : Calls Tryz.prog 25 #[.string s] w fun e w' => e = .returned (.tuple #[.float .f32 NB, .bool true]) ∧ ∃ q, w' = w.drewN q := h.mono fun e w' hh => ⟨by obtain ⟨x, h1, h2⟩ := hh.1; rw [h1, h2 (by simp)]; rfl, hh.2⟩
    clear hB hC hm
    go_enter Tryz.func35, Tryz.ntmps35
    go_wp2_with (go_at_call 25; refine h.mono ?_; rintro e w1 ⟨rfl, q, rfl⟩)
    go_ret2
    exact ⟨by rw [HB.out.2]; rfl, _, rfl⟩
end Go.Proofs.YtcojgmgoiopboaaGreatDoor
