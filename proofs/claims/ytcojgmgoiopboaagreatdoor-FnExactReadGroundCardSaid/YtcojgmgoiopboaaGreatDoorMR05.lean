import Derived.Test.YtcojgmgoiopboaaGreatDoorMR02
import Derived.Test.YtcojgmgoiopboaaGreatDoorMR04
import Derived.Test.YtcojgmgoiopboaaGreatDoorMR03
/- NumberText and ReadNumber, in the program and in the reference: the walks. -/
namespace Go.Proofs.YtcojgmgoiopboaaGreatDoor
open Go.ChangeShapes Go.WideShapes Go.ChangeAt Go.RowKit
set_option linter.unusedVariables false
set_option linter.unusedSimpArgs false
attribute [local irreducible] Calls

/-- What the variables hold that the texts of numbers reach. -/
def NumVars (w : World) : Prop := (∃ te pe, w.cell? ⟨2, 0, none⟩ = some (.iface te pe)) ∧ (∃ te pe, w.cell? ⟨3, 0, none⟩ = some (.iface te pe)) ∧ w.cell? ⟨8, 15, none⟩ = some (.int .u8 4)
theorem NumVars.below {w w' : World} (h : NumVars w) (hb : Below w.heap.size w w') : NumVars w' := by
  obtain ⟨⟨a, b, h1⟩, ⟨c, d, h2⟩, h3⟩ := h
  exact ⟨⟨a, b, (hb.cell (p := ⟨2, 0, none⟩) (Lib.lt_of_cell h1)).trans h1⟩, ⟨c, d, (hb.cell (p := ⟨3, 0, none⟩) (Lib.lt_of_cell h2)).trans h2⟩, (hb.cell (p := ⟨8, 15, none⟩) (Lib.lt_of_cell h3)).trans h3⟩

theorem run_n32bits (b : Nat) (w : World) : (callFunc 69 #[.float .f32 b]).run Tryz.prog w = .ok (.value (.int .u32 b)) w := by
  kernel_rfl
theorem run_n32from (n : Int) (w : World) : (callFunc 41 #[.int .u32 n]).run Tryz.prog w = .ok (.value (.float .f32 n.toNat)) w := by
  kernel_rfl
theorem isNaN_any (b : Nat) (w : World) :
    Calls Tryz.prog 67 #[.float .f32 b] w fun e w' => e = .returned (.bool (isN .f32 b)) ∧ w' = w := by
  cases hn : isN .f32 b
  · have ho := order_self (k := .f32) hn
    go_enter Tryz.func67, Tryz.ntmps67
    go_wp2_with fail
    go_ret
    exact ⟨rfl, rfl⟩
  · have ho := order_nan_left (k := .f32) (x := b) (y := b) hn
    go_enter Tryz.func67, Tryz.ntmps67
    go_wp2_with fail
    go_ret
    exact ⟨rfl, rfl⟩
theorem repeat_zeros : ∀ k, Lib.repeatL [48] k = List.replicate k 48
  | 0 => rfl
  | k + 1 => by show [48] ++ Lib.repeatL [48] k = _; rw [repeat_zeros k]; rfl
theorem txt_nan {b : Nat} (h : isN .f32 b = true) : (⟨#[55, 102, 99, 48, 48, 48, 48, 48]⟩ : ByteArray) = ⟨(txt b).toArray⟩ := by
  unfold txt cn
  rw [cnk_of_nan h]
  decide
theorem txt_num {b : Nat} (h : isN .f32 b = false) (hb : b < 4294967296) : (⟨(List.replicate (8 - (hexL b).length) 48).toArray⟩ : ByteArray) ++ (⟨(hexL b).toArray⟩ : ByteArray) = ⟨(txt b).toArray⟩ := by
  unfold txt cn
  rw [cnk_of_not h, (hexL_length hb).2]
  show ByteArray.append _ _ = _
  rw [ByteArray.append_eq]
  apply congrArg ByteArray.mk
  simp
set_option maxHeartbeats 4000000 in
set_option maxRecDepth 100000 in
theorem numberText_any (b : Nat) (hb : b < 4294967296) (w : World) (hV : NumVars w) :
    Calls Tryz.prog 42 #[.float .f32 b] w fun e w' => e = .returned (.string ⟨(txt b).toArray⟩) ∧ Below w.heap.size w w' := by
  have h0 := fun w' => isNaN_any b w'
  cases hn : isN .f32 b <;> rw [hn] at h0
  · have h1 := fun w' => run_n32bits b w'
    have h2 := formatUint_any b hb w hV.2.2
    have h8 := (hexL_length hb).1
    have ht := txt_num hn hb
    have hs : (⟨(hexL b).toArray⟩ : ByteArray).size = (hexL b).length := by simp [ByteArray.size]
    have h3 := fun w' => sh_strings_Repeat ⟨#[48]⟩ (8 - (hexL b).length) w' (by omega) (by show 1 * _ ≤ _; omega)
    rw [show (⟨#[48]⟩ : ByteArray).data.toList = [48] from rfl, repeat_zeros] at h3
    have hk : ((8 - (hexL b).length : Nat) : Int) = 8 - ((hexL b).length : Int) := by omega
    rw [hk] at h3
    have hzs : (⟨(List.replicate (8 - (hexL b).length) 48).toArray⟩ : ByteArray).size ≤ 8 := by simp [ByteArray.size]
    have HT := Lib.hid ht
    clear ht hV hn hk
    generalize hexL b = L at *
    generalize (⟨(List.replicate (8 - L.length) 48).toArray⟩ : ByteArray) = Z at *
    go_enter Tryz.func42, Tryz.ntmps42
    go_wp2_with (first | (go_at_call 67; refine (h0 _).mono ?_; rintro e w' ⟨rfl, hw⟩; rw [hw]; clear hw w') | (go_at_call 68; refine h2.mono ?_; rintro e w1 ⟨rfl, hb1⟩) | (go_at_call 70; refine (h3 _).mono ?_; rintro e w2 ⟨rfl, hb2⟩))
    go_ret
    exact ⟨by rw [HT.out]; rfl, hb1.trans (hb2.mono hb1.size)⟩
  · have ht := txt_nan hn
    have HT := Lib.hid ht
    clear ht hn hV
    go_enter Tryz.func42, Tryz.ntmps42
    go_wp2_with (go_at_call 67; refine (h0 _).mono ?_; rintro e w' ⟨rfl, hw⟩; rw [hw]; clear hw w')
    go_ret
    exact ⟨by rw [HT.out]; rfl, Below.refl _ _⟩
set_option maxRecDepth 100000 in
theorem parseUint_empty (base bits : Int) (w : World) :
    Calls Tryz.prog 65 #[.string ⟨#[]⟩, .int .i64 base, .int .i64 bits] w fun e w' => e = .returned (.tuple #[.int .u64 0, .iface 121 (.int .i64 2)]) ∧ w' = w := by
  go_enter Tryz.func65, Tryz.ntmps65
  go_wp2_with fail
  go_ret2
  exact ⟨rfl, rfl⟩
set_option maxRecDepth 100000 in
set_option maxHeartbeats 4000000 in
/-- What strconv.ParseUint gives at base 16: the number, and whether there is no error. -/
theorem parseUintP_any (s : ByteArray) (hs : s.size ≤ 1048576) (w : World) (hV : NumVars w) :
    Calls Tryz.prog 40 #[.string s, .int .i64 16, .int .i64 32] w fun e w' => ((∃ n : Nat, n < 4294967296 ∧ e = .returned (.tuple #[.int .u64 n, .nilIface]) ∧ ((txt n = s.data.toList ∧ numL s.data.toList = some n) ∨ (txt n ≠ s.data.toList ∧ numL s.data.toList = none))) ∨ (∃ (n : Nat) (t : TypeId) (v : Value), n < 4294967296 ∧ e = .returned (.tuple #[.int .u64 n, .iface t v]) ∧ numL s.data.toList = none)) ∧ Below w.heap.size w w' := by
  obtain ⟨⟨t1, p1, h1⟩, ⟨t2, p2, h2⟩, _⟩ := hV
  have key : ∃ r : Sum Nat Bool, (∀ n, r = .inl n → n < 4294967296 ∧ ((txt n = s.data.toList ∧ numL s.data.toList = some n) ∨ (txt n ≠ s.data.toList ∧ numL s.data.toList = none))) ∧ ((∀ n, r ≠ .inl n) → numL s.data.toList = none) ∧ Calls Tryz.prog 65 #[.string s, .int .i64 16, .int .i64 32] w fun e w' => e = .returned (uTup r) ∧ Below w.heap.size w w' := by
    by_cases h0 : s.size = 0
    · have hsd : s.data.toList = [] := by
        have : s.data.toList.length = 0 := h0
        exact List.eq_nil_of_length_eq_zero this
      have he : s = ⟨#[]⟩ := by
        have : s.data = #[] := by simpa using hsd
        cases s; simp_all
      refine ⟨.inr false, (fun n h => by cases h), (fun _ => by rw [hsd]; rfl), ?_⟩
      subst he
      refine (parseUint_empty 16 32 w).mono ?_
      rintro e w' ⟨rfl, rfl⟩
      exact ⟨rfl, Below.refl _ _⟩
    · refine ⟨hexU 4294967295 0 s.data.toList, fun n h => numL_cases h, numL_none, ?_⟩
      refine (parseUint16_in s h0 hs w).mono ?_
      rintro e w' ⟨rfl, rfl⟩
      exact ⟨rfl, Lib.bytesWorld_below _ _ _⟩
  obtain ⟨r, hr1, hr2, hc⟩ := key
  have HR1 := Lib.hid hr1
  have HR2 := Lib.hid hr2
  have l1 := Lib.lt_of_cell h1
  have l2 := Lib.lt_of_cell h2
  have H1 := Lib.hid h1
  have H2 := Lib.hid h2
  clear hr1 hr2 h1 h2
  rcases r with n | b
  · skip
    have hc : Calls Tryz.prog 65 #[.string s, .int .i64 16, .int .i64 32] w fun e w' => e = .returned (.tuple #[.int .u64 n, .nilIface]) ∧ Below w.heap.size w w' := hc
    go_enter Tryz.func40, Tryz.ntmps40
    go_wp2_with (go_at_call 65; refine hc.mono ?_; rintro e w1 ⟨rfl, hb⟩)
    go_ret2
    exact ⟨.inl ⟨n, (HR1.out n rfl).1, rfl, (HR1.out n rfl).2⟩, hb⟩
  · cases b
    · skip
      have hc : Calls Tryz.prog 65 #[.string s, .int .i64 16, .int .i64 32] w fun e w' => e = .returned (.tuple #[.int .u64 0, .iface 121 (.int .i64 2)]) ∧ Below w.heap.size w w' := hc
      have hT := fun w1 (hb : Below w.heap.size w w1) => sh_strconv_toError_syntax ⟨#[80, 97, 114, 115, 101, 85, 105, 110, 116]⟩ s 16 32 (.iface t1 p1) w1 (by omega) ((hb.cell (p := ⟨2, 0, none⟩) l1).trans H1.out) (.inr ⟨_, _, rfl⟩)
      go_enter Tryz.func40, Tryz.ntmps40
      go_wp2_with (first | (go_at_call 65; refine hc.mono ?_; rintro e w1 ⟨rfl, hb⟩) | (go_at_call 66; refine (hT _ hb).mono ?_; rintro e w2 ⟨N, rfl, _, _, hb2⟩))
      go_ret2
      exact ⟨.inr ⟨0, _, _, by omega, rfl, HR2.out (fun n h => by cases h)⟩, hb.trans (hb2.mono hb.size)⟩
    · skip
      have hc : Calls Tryz.prog 65 #[.string s, .int .i64 16, .int .i64 32] w fun e w' => e = .returned (.tuple #[.int .u64 4294967295, .iface 121 (.int .i64 1)]) ∧ Below w.heap.size w w' := hc
      have hT := fun w1 (hb : Below w.heap.size w w1) => sh_strconv_toError_range ⟨#[80, 97, 114, 115, 101, 85, 105, 110, 116]⟩ s 16 32 (.iface t2 p2) w1 (by omega) ((hb.cell (p := ⟨3, 0, none⟩) l2).trans H2.out) (.inr ⟨_, _, rfl⟩)
      go_enter Tryz.func40, Tryz.ntmps40
      go_wp2_with (first | (go_at_call 65; refine hc.mono ?_; rintro e w1 ⟨rfl, hb⟩) | (go_at_call 66; refine (hT _ hb).mono ?_; rintro e w2 ⟨N, rfl, _, _, hb2⟩))
      go_ret2
      exact ⟨.inr ⟨4294967295, _, _, by omega, rfl, HR2.out (fun n h => by cases h)⟩, hb.trans (hb2.mono hb.size)⟩
end Go.Proofs.YtcojgmgoiopboaaGreatDoor
/- ReadNumber, in the program and in the reference: the walks. -/
namespace Go.Proofs.YtcojgmgoiopboaaGreatDoor
open Go.ChangeShapes Go.WideShapes Go.ChangeAt Go.RowKit
set_option linter.unusedVariables false
set_option linter.unusedSimpArgs false
attribute [local irreducible] Calls

theorem str_ne (a : List UInt8) (s : ByteArray) : (decide ((⟨a.toArray⟩ : ByteArray) = s)) = decide (a = s.data.toList) := by
  by_cases h : a = s.data.toList
  · subst h; simp
  · rw [decide_eq_false h]
    apply decide_eq_false
    intro he
    apply h
    rw [← he]
set_option maxRecDepth 100000 in
set_option maxHeartbeats 4000000 in
theorem readNumberI_any (s : ByteArray) (hs : s.size ≤ 1048576) (w : World) (hV : NumVars w) :
    Calls Tryz.prog 16 #[.string s] w fun e w' => e = .returned (.tuple #[.float .f32 (numB s.data.toList), .int .i64 (numC s.data.toList)]) ∧ Below w.heap.size w w' := by
  have hp := parseUintP_any s hs w hV
  have HV := Lib.hid hV
  have hfr := fun n w' => run_n32from n w'
  clear hV
  go_enter Tryz.func16, Tryz.ntmps16
  go_upto_region 1 with fail
  go_wp2_with (go_at_call 40; refine hp.mono ?_; rintro e w1 ⟨⟨n, hn, rfl, hc⟩ | ⟨n, t, v, hn, rfl, hc⟩, hb⟩)
  · have ht := numberText_any n hn w1 (HV.out.below hb)
    have hB : numB s.data.toList = (numL s.data.toList).getD 0 := rfl
    rcases hc with ⟨hc1, hc2⟩ | ⟨hc1, hc2⟩
    · have he : (⟨(txt n).toArray⟩ : ByteArray) = s := by rw [hc1]
      have HB : Hid (numB s.data.toList = n ∧ numC s.data.toList = 0) := Lib.hid (by unfold numB numC; rw [hc2]; exact ⟨rfl, rfl⟩)
      rw [he] at ht
      clear hc1 hc2 he hB
      refine ht.mono ?_
      rintro e w2 ⟨rfl, hb2⟩
      go_wp2_with fail
      go_ret2
      exact ⟨by rw [HB.out.1, HB.out.2]; rfl, hb.trans (hb2.mono hb.size)⟩
    · have he : ((⟨(txt n).toArray⟩ : ByteArray).toList == s.toList) = false := by
        rw [ByteArray.toList_mk, ByteArray.toList_eq]
        simpa using hc1
      have HB : Hid (numB s.data.toList = 0 ∧ numC s.data.toList = 5) := Lib.hid (by unfold numB numC; rw [hc2]; exact ⟨rfl, rfl⟩)
      clear hc1 hc2 hB
      generalize (⟨(txt n).toArray⟩ : ByteArray) = T at *
      refine ht.mono ?_
      rintro e w2 ⟨rfl, hb2⟩
      go_wp2_with fail
      go_ret2
      exact ⟨by rw [HB.out.1, HB.out.2]; rfl, hb.trans (hb2.mono hb.size)⟩
  · have HB : Hid (numB s.data.toList = 0 ∧ numC s.data.toList = 5) := Lib.hid (by unfold numB numC; rw [hc]; exact ⟨rfl, rfl⟩)
    go_ret2
    exact ⟨by rw [HB.out.1, HB.out.2]; rfl, hb⟩

theorem l01Bits_any (b : Nat) (w : World) :
    Calls Tryz.prog 51 #[.float .f32 b] w fun e w' => e = .returned (.int .u32 (cn b)) ∧ w' = w := by
  have hb := run_n32bits b
  unfold cn
  cases hn : isN .f32 b
  · have ho := order_self (k := .f32) hn
    rw [cnk_of_not hn]
    go_enter Tryz.func51, Tryz.ntmps51
    go_wp2_with fail
    go_ret
    exact ⟨rfl, rfl⟩
  · have ho := order_nan_left (k := .f32) (x := b) (y := b) hn
    rw [cnk_of_nan hn]
    go_enter Tryz.func51, Tryz.ntmps51
    go_wp2_with fail
    go_ret
    exact ⟨rfl, rfl⟩
theorem hexV_small {c : UInt8} {a d : Nat} (h : hexD c = some d) (k : Nat) (ha : a < 16 ^ k) : a * 16 + d < 16 ^ (k + 1) := by
  have := hexD_lt h
  rw [Nat.pow_succ]
  omega
theorem hexV_cons (a : Nat) (c : UInt8) (l : List UInt8) {d : Nat} (h : hexD c = some d) : hexV a (c :: l) = hexV (a * 16 + d) l := by
  rw [hexV, h]
theorem hexV_bad (a : Nat) (c : UInt8) (l : List UInt8) (h : hexD c = none) : hexV a (c :: l) = none := by
  rw [hexV, h]
set_option maxRecDepth 100000 in
set_option maxHeartbeats 4000000 in
theorem l01Read_any (s : ByteArray) (hs : s.size ≤ 1048576) (w : World) :
    Calls Tryz.prog 25 #[.string s] w fun e w' => (∃ x : Nat, e = .returned (.tuple #[.float .f32 x, .bool (numL s.data.toList).isSome]) ∧ (numL s.data.toList ≠ none → x = numB s.data.toList)) ∧ ∃ q, w' = w.drewN q := by
  by_cases h8 : s.size = 8
  · have hl : s.data.toList.length = 8 := h8
    have hidx : ∀ (k : Nat) (h : k < 8) w', (Instr.index 9 (.string s) (.int .i64 (k : Int))).run Tryz.prog w' = .ok (.int .u8 ((s.data.toList.getD k 0).toNat : Int)) w' := fun k h w' => by
      rw [run_index_string w' 9 _ .i64 _ Tryz.underlying9, dif_pos ⟨by omega, by rw [h8]; omega⟩]
      have e2 : ((k : Int)).toNat = k := by omega
      simp only [e2]
      rw [List.getD_eq_getElem?_getD, List.getElem?_eq_getElem (by rw [hl]; exact h)]
      rfl
    have HX := Lib.hid hidx
    have hB : ∀ b, hexV 0 s.data.toList = some b → numL s.data.toList = (if cn b = b then some b else none) := fun b hb => by unfold numL; rw [if_pos hl, hb]
    have hN : hexV 0 s.data.toList = none → numL s.data.toList = none := fun hb => by unfold numL; rw [if_pos hl, hb]
    have HB := Lib.hid hB
    have HN := Lib.hid hN
    have hnB : numB s.data.toList = (numL s.data.toList).getD 0 := rfl
    have HNB := Lib.hid hnB
    have HL := Lib.hid hl
    clear hidx hB hN hnB hl
    generalize numB s.data.toList = NB at *
    generalize hbs : s.data.toList = bs at *
    have Hbs := Lib.hid hbs
    clear hbs
    have hfr := fun n w' => run_n32from n w'
    go_enter Tryz.func25, Tryz.ntmps25
    go_upto_region 5 with fail
    go_loop [4, 5] (fun vb vi => ∃ (acc k : Nat), vb = .int .u32 acc ∧ vi = .int .i64 k ∧ k ≤ 8 ∧ Hid (acc < 16 ^ k) ∧ Hid (hexV 0 bs = hexV acc (bs.drop k))) (fun _ vi => 8 - (intOf vi).toNat)
    case atStart => exact ⟨0, 0, rfl, rfl, by omega, Lib.hid (by decide), Lib.hid rfl⟩
    case round =>
      obtain ⟨acc, k, rfl, rfl, hk, hacc, hv⟩ := hrel
      have bk : (0 : Int) ≤ k := by omega
      by_cases hlt : k < 8
      · have bl : (k : Int) < 8 := by omega
        have hix := fun w' => HX.out k hlt w'
        have hdrop : bs.drop k = bs[k]'(by rw [HL.out]; exact hlt) :: bs.drop (k + 1) := List.drop_eq_getElem_cons (by rw [HL.out]; exact hlt)
        have hv2 := hv.out
        have hget : bs.getD k 0 = bs[k]'(by rw [HL.out]; exact hlt) := by rw [List.getD_eq_getElem?_getD, List.getElem?_eq_getElem (by rw [HL.out]; exact hlt)]; rfl
        rw [hget] at hix
        rw [hdrop] at hv2
        have h7 : acc < 268435456 := by
          have h1 : 16 ^ k ≤ 16 ^ 7 := Nat.pow_le_pow_right (by decide) (by omega)
          have h2 := hacc.out
          have h3 : 16 ^ 7 = 268435456 := by decide
          omega
        clear hdrop hget
        generalize bs[k]'(by rw [HL.out]; exact hlt) = c at *
        have hc256 : c.toNat < 256 := c.toNat_lt
        by_cases hd1 : 48 ≤ c.toNat ∧ c.toNat ≤ 57
        · have hd : hexD c = some (c.toNat - 48) := by unfold hexD; rw [if_pos hd1]
          rw [hexV_cons _ _ _ hd] at hv2
          have HA := Lib.hid (hexV_small hd k hacc.out)
          have HV2 := Lib.hid hv2
          obtain ⟨q0, q1⟩ := hd1
          have iov : (acc : Int) * 16 + ((c.toNat : Int) - 48) ≤ 4294967295 := by omega
          have iow : (acc : Int) * 16 ≤ 4294967295 := by omega
          clear hd hv2
          go_wp2_with fail
          refine ⟨⟨acc * 16 + (c.toNat - 48), k + 1, by first | rfl | (congr 1; omega), by first | rfl | (congr 1; omega), by omega, HA, HV2⟩, by simp [intOf]; omega⟩
        · by_cases hd2 : 97 ≤ c.toNat ∧ c.toNat ≤ 102
          · have hd : hexD c = some (c.toNat - 87) := by unfold hexD; rw [if_neg hd1, if_pos hd2]
            rw [hexV_cons _ _ _ hd] at hv2
            have HA := Lib.hid (hexV_small hd k hacc.out)
            have HV2 := Lib.hid hv2
            obtain ⟨q0, q1⟩ := hd2
            have iov : (acc : Int) * 16 + ((c.toNat : Int) - 97) + 10 ≤ 4294967295 := by omega
            have iow : (acc : Int) * 16 ≤ 4294967295 := by omega
            clear hd hv2 hd1
            go_wp2_with fail
            refine ⟨⟨acc * 16 + (c.toNat - 87), k + 1, by first | rfl | (congr 1; omega), by first | rfl | (congr 1; omega), by omega, HA, HV2⟩, by simp [intOf]; omega⟩
          · have hd : hexD c = none := by unfold hexD; rw [if_neg hd1, if_neg hd2]
            rw [hexV_bad _ _ _ hd] at hv2
            have HM : Hid (numL bs = none) := Lib.hid (HN.out (hv.out.trans (by rw [← hv.out]; exact hv2)))
            have e1 : ¬ (48 ≤ (c.toNat : Int) ∧ (c.toNat : Int) ≤ 57) := by omega
            have e2 : ¬ (97 ≤ (c.toNat : Int) ∧ (c.toNat : Int) ≤ 102) := by omega
            clear hd hv2 hd1 hd2
            go_wp2_with fail
            all_goals go_ret2
            all_goals exact ⟨⟨0, by rw [HM.out]; rfl, fun h => absurd HM.out h⟩, 0, rfl⟩
      · obtain rfl : k = 8 := by omega
        have hv2 := hv.out
        rw [List.drop_eq_nil_of_le (by rw [HL.out]; exact Nat.le_refl _)] at hv2
        have hv3 : hexV 0 bs = some acc := hv2
        have HM := Lib.hid (HB.out acc hv3)
        have hb := fun w' => l01Bits_any acc w'
        clear hv2 hv3
        by_cases hc : cn acc = acc
        · rw [hc] at hb
          go_wp2_with (go_at_call 51; refine (hb _).mono ?_; rintro e w' ⟨rfl, hw⟩; rw [hw]; clear hw w')
          rw [if_pos hc] at HM
          go_ret2
          exact ⟨⟨acc, by rw [HM.out]; rfl, fun _ => by rw [HNB.out, HM.out]; rfl⟩, 0, rfl⟩
        · rw [if_neg hc] at HM
          have hne : (((cn acc : Nat) : Int) == (acc : Int)) = false := by simp; omega
          generalize cn acc = ca at *
          clear hc
          go_wp2_with (go_at_call 51; refine (hb _).mono ?_; rintro e w' ⟨rfl, hw⟩; rw [hw]; clear hw w')
          go_ret2
          exact ⟨⟨acc, by rw [HM.out]; rfl, fun h => absurd HM.out h⟩, 0, rfl⟩
  · have hl : s.data.toList.length ≠ 8 := h8
    have HB : Hid (numL s.data.toList = none) := Lib.hid (by unfold numL; rw [if_neg hl])
    clear hl
    go_enter Tryz.func25, Tryz.ntmps25
    go_wp2_with fail
    go_ret2
    exact ⟨⟨0, by rw [HB.out]; rfl, fun h => absurd HB.out h⟩, 0, rfl⟩
set_option maxRecDepth 100000 in
set_option maxHeartbeats 400000 in
theorem readNumberS_any (s : ByteArray) (hs : s.size ≤ 1048576) (w : World) :
    Calls Tryz.prog 35 #[.string s] w fun e w' => e = .returned (.tuple #[.float .f32 (numB s.data.toList), .int .i64 (numC s.data.toList)]) ∧ ∃ q, w' = w.drewN q := by
  have h := l01Read_any s hs w
  have hB : numB s.data.toList = (numL s.data.toList).getD 0 := rfl
  have hC : numC s.data.toList = if (numL s.data.toList).isSome then 0 else 5 := rfl
  generalize numB s.data.toList = NB at *
  generalize numC s.data.toList = NC at *
  cases hm : numL s.data.toList <;> rw [hm] at h hB hC
  · have HB : Hid (NB = 0 ∧ NC = 5) := Lib.hid ⟨hB, hC⟩
    have h : Calls Tryz.prog 25 #[.string s] w fun e w' => (∃ x : Nat, e = .returned (.tuple #[.float .f32 x, .bool false])) ∧ ∃ q, w' = w.drewN q := h.mono fun e w' hh => ⟨⟨_, hh.1.choose_spec.1⟩, hh.2⟩
    clear hB hC hm
    go_enter Tryz.func35, Tryz.ntmps35
    go_wp2_with (go_at_call 25; refine h.mono ?_; rintro e w1 ⟨⟨x, rfl⟩, q, rfl⟩)
    go_ret2
    exact ⟨by rw [HB.out.1, HB.out.2]; rfl, _, rfl⟩
  · rename_i b
    have HB : Hid (NB = b ∧ NC = 0) := Lib.hid ⟨hB, hC⟩
    have h : Calls Tryz.prog 25 #[.string s] w fun e w' => e = .returned (.tuple #[.float .f32 NB, .bool true]) ∧ ∃ q, w' = w.drewN q := h.mono fun e w' hh => ⟨by obtain ⟨x, h1, h2⟩ := hh.1; rw [h1, h2 (by simp)]; rfl, hh.2⟩
    clear hB hC hm
    go_enter Tryz.func35, Tryz.ntmps35
    go_wp2_with (go_at_call 25; refine h.mono ?_; rintro e w1 ⟨rfl, q, rfl⟩)
    go_ret2
    exact ⟨by rw [HB.out.2]; rfl, _, rfl⟩
end Go.Proofs.YtcojgmgoiopboaaGreatDoor
/- Slices that a call makes for itself and appends to: where their cells lie, and what an append leaves alone. Plain laws; no statement is proved here. -/
namespace Go.Proofs.YtcojgmgoiopboaaGreatDoor
open Go.ChangeShapes Go.WideShapes Go.ChangeAt Go.RowKit
set_option linter.unusedVariables false

/-- The slice v has n elements of s cells each, xs, in block g, which it may write. -/
def Own (w : World) (g : Nat) (e : TypeId) (s : Nat) (v : Value) (n : Nat) (xs : List Value) : Prop :=
  xs.length = n * s ∧ ∃ cap cur, v = .slice (some ⟨g, 0, none⟩) n cap ∧ Blk w g cur e ∧ n ≤ cap ∧ cap ≤ maxLen ∧ cur.size = cap * s ∧ cur.toList.take (n * s) = xs

section
variable {w w' : World} {g : Nat} {e : TypeId} {s : Nat} {v : Value} {n : Nat} {xs : List Value}
theorem Own.row (h : Own w g e s v n xs) : w.ownsRow g e s v n xs := by
  obtain ⟨h1, cap, cur, rfl, hb, h2, h3, h4, h5⟩ := h
  exact ⟨h1, .inr ⟨g, cap, cur, rfl, Nat.le_refl _, hb, h2, h3, h4, h5⟩⟩
theorem Own.form (h : Own w g e s v n xs) : ∃ cap, v = .slice (some ⟨g, 0, none⟩) n cap ∧ n ≤ cap ∧ cap ≤ maxLen := by
  obtain ⟨h1, cap, cur, rfl, hb, h2, h3, _⟩ := h
  exact ⟨cap, rfl, h2, h3⟩
theorem Own.lt (h : Own w g e s v n xs) : g < w.heap.size := by obtain ⟨_, _, _, _, hb, _⟩ := h; exact hb.lt
theorem Own.move (h : Own w g e s v n xs) (hg : w'.heap[g]? = w.heap[g]?) : Own w' g e s v n xs := by
  obtain ⟨h1, cap, cur, rfl, hb, h2⟩ := h
  exact ⟨h1, cap, cur, rfl, hg.trans hb, h2⟩
theorem Own.below (h : Own w g e s v n xs) {B : Nat} (hb : Below B w w') (hB : g < B) : Own w' g e s v n xs := h.move (hb.block g hB)
theorem Own.drewN (h : Own w g e s v n xs) (k : Nat) : Own (w.drewN k) g e s v n xs := h.move rfl
theorem Own.alloc (h : Own w g e s v n xs) (o : Obj) : Own (w.alloc o) g e s v n xs := h.move (heap_alloc_old w o h.lt)
theorem Own.grown (h : Own w g e s v n xs) {row : Option Nat} (hg : w.grownBy w' row) (hr : row ≠ some g) : Own w' g e s v n xs := h.move (hg.block g h.lt (Ne.symm hr))
theorem Own.setOther (h : Own w g e s v n xs) {a : Addr} (u : Value) (ha : g ≠ a.block) : Own (w.setCell a u) g e s v n xs := h.move (heap_setCell_other w a g u ha)
theorem Own.rowOther (h : Own w g e s v n xs) {b : Nat} (C : Array Value) (hb : g ≠ b) : Own (w.setRow b C) g e s v n xs := h.move (setRow_other w b g C hb)
/-- An element's cell. -/
theorem Own.cell (h : Own w g e s v n xs) (j : Nat) (hj : j < n * s) : w.cell? ⟨g, j, none⟩ = xs[j]? := by
  obtain ⟨h1, cap, cur, rfl, hb, h2, h3, h4, h5⟩ := h
  rw [hb.cell, ← h5, List.getElem?_take, if_pos hj]; simp
theorem Own.free (h : Own w g e s v n xs) (j : Nat) : w.frozen? ⟨g, j, none⟩ = false := by
  obtain ⟨h1, cap, cur, rfl, hb, _⟩ := h
  exact hb.free j
theorem own_blk {w : World} {g : Nat} {e : TypeId} {s : Nat} {C : Array Value} {n : Nat} {xs : List Value} (h : Blk w g C e) (hs : C.size = n * s) (hm : n ≤ maxLen) (hx : C.toList = xs) : Own w g e s (.slice (some ⟨g, 0, none⟩) n n) n xs := by
  subst hx
  exact ⟨by simp [hs], n, C, rfl, h, Nat.le_refl _, hm, hs, List.take_of_length_le (by simp [hs])⟩
theorem own_made (w : World) (C : Array Value) (n : Nat) (hm : n ≤ maxLen) (hs : C.size = n * s) : Own (w.alloc (.cells C e)) w.heap.size e s (.slice (some ⟨w.heap.size, 0, none⟩) n n) n C.toList :=
  ⟨by simp [hs], n, C, rfl, Blk.new _ _ _, Nat.le_refl _, hm, hs, List.take_of_length_le (by simp [hs])⟩
end

/-- A slice type's element type: its cells, its bytes. -/
def ElemTy (P : Program) (t e : TypeId) (s bytes : Nat) : Prop := P.underlying t = some (.slice e) ∧ ∃ i z, P.info? e = some i ∧ i.zero = some z ∧ i.size = s ∧ i.bytes = bytes ∧ z.cells.size = s

theorem elem_of {P : Program} {t e : TypeId} {s bytes : Nat} {z : Value} (ht : P.underlying t = some (.slice e)) (h : (P.info? e).map (fun i => (i.zero, i.size, i.bytes)) = some (some z, s, bytes)) (hz : z.cells.size = s) : ElemTy P t e s bytes := by
  obtain ⟨i, hi, h1, h2, h3⟩ := info_parts h
  exact ⟨ht, i, z, hi, h1, h2, h3, hz⟩

section
variable {P : Program} {w : World}
theorem run_app {t ty e : TypeId} {s bytes : Nat} (hE : ElemTy P t e s bytes) (hs : 0 < s) {v : Value} {g n : Nat} {xs : List Value} (hown : Own w g e s v n xs)
    {ad : Addr} {m c : Nat} {news : List Value} (hl : news.length = m * s) (hnews : ∀ j u, news[j]? = some u → w.cell? (ad.add j) = some u) (h1 : ∀ u ∈ news, u.oneCell' = true) (h63 : n + m ≤ maxLen) (hbytes : (n + m) * bytes ≤ 140737488355328) :
    ∃ v' w' g', (Builtin.append_ #[t, t] ty #[v, .slice (some ad) m c]).run P w = .ok v' w' ∧ Own w' g' e s v' (n + m) (xs ++ news) ∧ w.grownBy w' (some g) ∧ (g' = g ∨ g' = w.heap.size) := by
  obtain ⟨ht, i, z, hi, hz, hsize, hby, hzs⟩ := hE
  have hrow := hown.row
  obtain ⟨v', w', hr, h2, h3, h4⟩ := run_append_own (P := P) w g t ty e i z s bytes ht hi hz hsize hby hzs hs v n xs hrow ad m c news hl hnews h1 h63 hbytes (Nat.le_of_lt hown.lt)
  obtain ⟨hx, cap, cur, hv, hb, hnc, hcm, hcs, htake⟩ := hown
  have hob : v.ownBlock = some g := by rw [hv]; rfl
  rw [hob] at h3
  have hform : ∃ g' cap', v' = .slice (some ⟨g', 0, none⟩) (n + m) cap' ∧ (g' = g ∨ g' = w.heap.size) := by
    rw [hv] at hr
    by_cases hroom : n + m ≤ cap
    · have hfit : n * i.size + news.length ≤ cur.size := by rw [hl, hcs, hsize, ← Nat.add_mul]; exact Nat.mul_le_mul_right _ hroom
      have hr2 := run_append_room (P := P) w t ty e i ht hi g n cap cur hb ad m c news (by rw [hsize]; exact hl) hnews h1 hroom hfit
      rw [hr2] at hr
      have hrv : Value.slice (some ⟨g, 0, none⟩) (n + m) cap = v' := by injection hr
      exact ⟨g, cap, hrv.symm, .inl rfl⟩
    · have holds : ∀ j u, xs[j]? = some u → w.cell? ((⟨g, 0, none⟩ : Addr).add j) = some u := hrow.cells (g := g) hob
      have hsmall : n + m ≤ 9223372036854775807 := by simp only [maxLen] at h63; omega
      have hr2 := run_append_grow (P := P) w t ty e i z ht hi hz ⟨g, 0, none⟩ n cap xs (by rw [hsize]; exact hx) holds ad m c news (by rw [hsize]; exact hl) hnews (by omega) (by omega) (by rw [hby]; exact growslice_fits (by omega) hbytes)
      rw [hr2] at hr
      have hrv : Value.slice (some ⟨w.heap.size, 0, none⟩) (n + m) (grownCap w (n + m) cap e) = v' := by injection hr
      exact ⟨w.heap.size, _, hrv.symm, .inr rfl⟩
  obtain ⟨g', cap', hv', hg'⟩ := hform
  refine ⟨v', w', g', hr, ?_, h3, hg'⟩
  rcases h2 with ⟨hlen, ⟨hn, _⟩ | ⟨g2, cap2, cur2, hv2, _, hb2, hn2, hc2, hs2, ht2⟩⟩
  · rw [hv'] at hn; cases hn
  · rw [hv2] at hv'
    have e1 : g2 = g' := by injection hv' with a _ _; injection a with a; injection a
    subst e1
    exact ⟨hlen, cap2, cur2, hv2, hb2, hn2, hc2, hs2, ht2⟩

variable {ops : Array Oper} {rest : List Oper} {o : Oper} {a : Act} {Q : Exit → Act → World → Prop}
/-- 'append(s, x)', x's cells being a row of its own. -/
theorem wpList_app {t e e' : TypeId} {s bytes : Nat} {sl x : Operand} {v : Value} {g n b m c : Nat} {xs : List Value} {news : Array Value} (hE : ElemTy P t e s bytes) (hgd : o.guard = none) (ho : o.op = .call { callee := .builtin .append, args := #[sl, x], argTypes := #[t, t] }) (hv : a.eval sl = v) (hx : a.eval x = .slice (some ⟨b, 0, none⟩) m c)
    (hs : 0 < s) (hown : Own w g e s v n xs) (hb : Blk w b news e') (hl : news.size = m * s) (h1 : ∀ u ∈ news.toList, u.oneCell' = true) (h63 : n + m ≤ maxLen) (hbytes : (n + m) * bytes ≤ 140737488355328)
    (h : ∀ v' w' g', Own w' g' e s v' (n + m) (xs ++ news.toList) → w.grownBy w' (some g) → (g' = g ∨ g' = w.heap.size) → wpList P ops Q rest (a.put o.dst v') w') : wpList P ops Q (o :: rest) a w :=
  wpList_plain hgd fun K hK => by
    obtain ⟨v', w', g', hr, h2, h3, h4⟩ := run_app (P := P) (ty := o.type) hE hs hown (ad := ⟨b, 0, none⟩) (m := m) (c := c) (news := news.toList) (by simpa using hl) (fun j u hu => by
      have hadd : (⟨b, 0, none⟩ : Addr).add j = ⟨b, j, none⟩ := by unfold Addr.add; split <;> simp_all
      rw [hadd, hb.cell]; simpa using hu) h1 h63 hbytes
    unfold Oper.wp execOp
    simp only [ho, resolve, invoke, builtin, Sem.run_bind, Sem.run_pure, Result.andThen_ok, List.map_toArray, List.map_cons, List.map_nil, hv, hx, hr]
    exact hK _ _ (h v' w' g' h2 h3 h4)
end

/-- Behind an append onto a block of the call's own, whose new element lies in a block of its own: nothing below B has turned. -/
theorem below_app {B c g : Nat} {w0 w w' : World} {o : Obj} (h : Below B w0 w) (hB : B ≤ w.heap.size) (hg : ((w.drewN c).alloc o).grownBy w' (some g)) (hBg : B ≤ g) : Below B w0 w' := by
  have h1 := (below_drewN h c).alloc (by simpa using hB) o
  exact h1.grown hg (by simp; omega) (fun k hk => by injection hk with hk; omega)
end Go.Proofs.YtcojgmgoiopboaaGreatDoor
