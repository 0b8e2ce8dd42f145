/- NumberText and ReadNumber, in the program and in the reference: the walks. -/
import Derived.Test.YtcojgmgoiopboaaGreatDoorPu16
import Derived.Test.YtcojgmgoiopboaaGreatDoorFmt16
import Derived.Test.YtcojgmgoiopboaaGreatDoorShNum
namespace Go.Proofs.YtcojgmgoiopboaaGreatDoor
open Go.ChangeShapes Go.WideShapes Go.ChangeAt Go.RowKit
set_option linter.unusedVariables false
set_option linter.unusedSimpArgs false
attribute [local irreducible] Calls

/-- What the variables hold that the texts of numbers reach. -/
def NumVars (w : World) : Prop := (∃ te pe, w.cell? ⟨2, 0, none⟩ = some (.iface te pe)) ∧ (∃ te pe, w.cell? ⟨3, 0, none⟩ = some (.iface te pe)) ∧ w.cell? ⟨8, 15, none⟩ = some (.int .u8 4)
theorem NumVars.below {w w' : World} (h : NumVars w) (hb : Below w.heap.size w w') : NumVars w' := by
  obtain ⟨⟨a, b, h1⟩, ⟨c, d, h2⟩, h3⟩ := h
  exact ⟨⟨a, b, (hb.cell (p := ⟨2, 0, none⟩) (Lib.lt_of_cell h1)).trans h1⟩, ⟨c, d, (hb.cell (p := ⟨3, 0, none⟩) (Lib.lt_of_cell h2)).trans h2⟩, (hb.cell (p := ⟨8, 15, none⟩) (Lib.lt_of_cell h3)).trans h3⟩

theorem run_n32bits (b : Nat) (w : World) : (callFunc 69 #[.float .f32 b]).run Tryz.prog w = .ok (.value (.int .u32 b)) w := by
  kernel_rfl
theorem run_n32from (n : Int) (w : World) : (callFunc 41 #[.int .u32 n]).run Tryz.prog w = .ok (.value (.float .f32 n.toNat)) w := by
  kernel_rfl
theorem isNaN_any (b : Nat) (w : World) :
    Calls Tryz.prog 67 #[.float .f32 b] w fun e w' => e = .returned (.bool (isN .f32 b)) ∧ w' = w := by
  cases hn : isN .f32 b
  · have ho := order_self (k := .f32) hn
    go_enter Tryz.func67, Tryz.ntmps67
    go_wp2_with fail
    go_ret
    exact ⟨rfl, rfl⟩
  · have ho := order_nan_left (k := .f32) (x := b) (y := b) hn
    go_enter Tryz.func67, Tryz.ntmps67
    go_wp2_with fail
    go_ret
    exact ⟨rfl, rfl⟩
theorem repeat_zeros : ∀ k, Lib.repeatL [48] k = List.replicate k 48
  | 0 => rfl
  | k + 1 => by show [48] ++ Lib.repeatL [48] k = _; rw [repeat_zeros k]; rfl
theorem txt_nan {b : Nat} (h : isN .f32 b = true) : (⟨#[55, 102, 99, 48, 48, 48, 48, 48]⟩ : ByteArray) = ⟨(txt b).toArray⟩ := by
  unfold txt cn
  rw [cnk_of_nan h]
  decide
theorem txt_num {b : Nat} (h : isN .f32 b = false) (hb : b < 4294967296) : (⟨(List.replicate (8 - (hexL b).length) 48).toArray⟩ : ByteArray) ++ (⟨(hexL b).toArray⟩ : ByteArray) = ⟨(txt b).toArray⟩ := by
  unfold txt cn
  rw [cnk_of_not h, (hexL_length hb).2]
  show ByteArray.append _ _ = _
  rw [ByteArray.append_eq]
  apply congrArg ByteArray.mk
  simp
set_option maxHeartbeats 4000000 in
set_option maxRecDepth 100000 in
theorem numberText_any (b : Nat) (hb : b < 4294967296) (w : World) (hV : NumVars w) :
    Calls Tryz.prog 42 #[.float .f32 b] w fun e w' => e = .returned (.string ⟨(txt b).toArray⟩) ∧ Below w.heap.size w w' := by
  have h0 := fun w' => isNaN_any b w'
  cases hn : isN .f32 b <;> rw [hn] at h0
  · have h1 := fun w' => run_n32bits b w'
    have h2 := formatUint_any b hb w hV.2.2
    have h8 := (hexL_length hb).1
    have ht := txt_num hn hb
    have hs : (⟨(hexL b).toArray⟩ : ByteArray).size = (hexL b).length := by simp [ByteArray.size]
    have h3 := fun w' => sh_strings_Repeat ⟨#[48]⟩ (8 - (hexL b).length) w' (by omega) (by show 1 * _ ≤ _; omega)
    rw [show (⟨#[48]⟩ : ByteArray).data.toList = [48] from rfl, repeat_zeros] at h3
    have hk : ((8 - (hexL b).length : Nat) : Int) = 8 - ((hexL b).length : Int) := by omega
    rw [hk] at h3
    have hzs : (⟨(List.replicate (8 - (hexL b).length) 48).toArray⟩ : ByteArray).size ≤ 8 := by simp [ByteArray.size]
    have HT := Lib.hid ht
    clear ht hV hn hk
    generalize hexL b = L at *
    generalize (⟨(List.replicate (8 - L.length) 48).toArray⟩ : ByteArray) = Z at *
    go_enter Tryz.func42, Tryz.ntmps42
    go_wp2_with (first | (go_at_call 67; refine (h0 _).mono ?_; rintro e w' ⟨rfl, hw⟩; rw [hw]; clear hw w') | (go_at_call 68; refine h2.mono ?_; rintro e w1 ⟨rfl, hb1⟩) | (go_at_call 70; refine (h3 _).mono ?_; rintro e w2 ⟨rfl, hb2⟩))
    go_ret
    exact ⟨by rw [HT.out]; rfl, hb1.trans (hb2.mono hb1.size)⟩
  · have ht := txt_nan hn
    have HT := Lib.hid ht
    clear ht hn hV
    go_enter Tryz.func42, Tryz.ntmps42
    go_wp2_with (go_at_call 67; refine (h0 _).mono ?_; rintro e w' ⟨rfl, hw⟩; rw [hw]; clear hw w')
    go_ret
    exact ⟨by rw [HT.out]; rfl, Below.refl _ _⟩
set_option maxRecDepth 100000 in
theorem parseUint_empty (base bits : Int) (w : World) :
    Calls Tryz.prog 65 #[.string ⟨#[]⟩, .int .i64 base, .int .i64 bits] w fun e w' => e = .returned (.tuple #[.int .u64 0, .iface 121 (.int .i64 2)]) ∧ w' = w := by
  go_enter Tryz.func65, Tryz.ntmps65
  go_wp2_with fail
  go_ret2
  exact ⟨rfl, rfl⟩
set_option maxRecDepth 100000 in
set_option maxHeartbeats 4000000 in
/-- What strconv.ParseUint gives at base 16: the number, and whether there is no error. -/
theorem parseUintP_any (s : ByteArray) (hs : s.size ≤ 1048576) (w : World) (hV : NumVars w) :
    Calls Tryz.prog 40 #[.string s, .int .i64 16, .int .i64 32] w fun e w' => ((∃ n : Nat, n < 4294967296 ∧ e = .returned (.tuple #[.int .u64 n, .nilIface]) ∧ ((txt n = s.data.toList ∧ numL s.data.toList = some n) ∨ (txt n ≠ s.data.toList ∧ numL s.data.toList = none))) ∨ (∃ (n : Nat) (t : TypeId) (v : Value), n < 4294967296 ∧ e = .returned (.tuple #[.int .u64 n, .iface t v]) ∧ numL s.data.toList = none)) ∧ Below w.heap.size w w' := by
  obtain ⟨⟨t1, p1, h1⟩, ⟨t2, p2, h2⟩, _⟩ := hV
  have key : ∃ r : Sum Nat Bool, (∀ n, r = .inl n → n < 4294967296 ∧ ((txt n = s.data.toList ∧ numL s.data.toList = some n) ∨ (txt n ≠ s.data.toList ∧ numL s.data.toList = none))) ∧ ((∀ n, r ≠ .inl n) → numL s.data.toList = none) ∧ Calls Tryz.prog 65 #[.string s, .int .i64 16, .int .i64 32] w fun e w' => e = .returned (uTup r) ∧ Below w.heap.size w w' := by
    by_cases h0 : s.size = 0
    · have hsd : s.data.toList = [] := by
        have : s.data.toList.length = 0 := h0
        exact List.eq_nil_of_length_eq_zero this
      have he : s = ⟨#[]⟩ := by
        have : s.data = #[] := by simpa using hsd
        cases s; simp_all
      refine ⟨.inr false, (fun n h => by cases h), (fun _ => by rw [hsd]; rfl), ?_⟩
      subst he
      refine (parseUint_empty 16 32 w).mono ?_
      rintro e w' ⟨rfl, rfl⟩
      exact ⟨rfl, Below.refl _ _⟩
    · refine ⟨hexU 4294967295 0 s.data.toList, fun n h => numL_cases h, numL_none, ?_⟩
      refine (parseUint16_in s h0 hs w).mono ?_
      rintro e w' ⟨rfl, rfl⟩
      exact ⟨rfl, Lib.bytesWorld_below _ _ _⟩
  obtain ⟨r, hr1, hr2, hc⟩ := key
  have HR1 := Lib.hid hr1
  have HR2 := Lib.hid hr2
  have l1 := Lib.lt_of_cell h1
  have l2 := Lib.lt_of_cell h2
  have H1 := Lib.hid h1
  have H2 := Lib.hid h2
  clear hr1 hr2 h1 h2
  rcases r with n | b
  · skip
    have hc : Calls Tryz.prog 65 #[.string s, .int .i64 16, .int .i64 32] w fun e w' => e = .returned (.tuple #[.int .u64 n, .nilIface]) ∧ Below w.heap.size w w' := hc
    go_enter Tryz.func40, Tryz.ntmps40
    go_wp2_with (go_at_call 65; refine hc.mono ?_; rintro e w1 ⟨rfl, hb⟩)
    go_ret2
    exact ⟨.inl ⟨n, (HR1.out n rfl).1, rfl, (HR1.out n rfl).2⟩, hb⟩
  · cases b
    · skip
      have hc : Calls Tryz.prog 65 #[.string s, .int .i64 16, .int .i64 32] w fun e w' => e = .returned (.tuple #[.int .u64 0, .iface 121 (.int .i64 2)]) ∧ Below w.heap.size w w' := hc
      have hT := fun w1 (hb : Below w.heap.size w w1) => sh_strconv_toError_syntax ⟨#[80, 97, 114, 115, 101, 85, 105, 110, 116]⟩ s 16 32 (.iface t1 p1) w1 (by omega) ((hb.cell (p := ⟨2, 0, none⟩) l1).trans H1.out) (.inr ⟨_, _, rfl⟩)
      go_enter Tryz.func40, Tryz.ntmps40
      go_wp2_with (first | (go_at_call 65; refine hc.mono ?_; rintro e w1 ⟨rfl, hb⟩) | (go_at_call 66; refine (hT _ hb).mono ?_; rintro e w2 ⟨N, rfl, _, _, hb2⟩))
      go_ret2
      exact ⟨.inr ⟨0, _, _, by omega, rfl, HR2.out (fun n h => by cases h)⟩, hb.trans (hb2.mono hb.size)⟩
    · skip
      have hc : Calls Tryz.prog 65 #[.string s, .int .i64 16, .int .i64 32] w fun e w' => e = .returned (.tuple #[.int .u64 4294967295, .iface 121 (.int .i64 1)]) ∧ Below w.heap.size w w' := hc
      have hT := fun w1 (hb : Below w.heap.size w w1) => sh_strconv_toError_range ⟨#[80, 97, 114, 115, 101, 85, 105, 110, 116]⟩ s 16 32 (.iface t2 p2) w1 (by omega) ((hb.cell (p := ⟨3, 0, none⟩) l2).trans H2.out) (.inr ⟨_, _, rfl⟩)
      go_enter Tryz.func40, Tryz.ntmps40
      go_wp2_with (first | (go_at_call 65; refine hc.mono ?_; rintro e w1 ⟨rfl, hb⟩) | (go_at_call 66; refine (hT _ hb).mono ?_; rintro e w2 ⟨N, rfl, _, _, hb2⟩))
      go_ret2
      exact ⟨.inr ⟨4294967295, _, _, by omega, rfl, HR2.out (fun n h => by cases h)⟩, hb.trans (hb2.mono hb.size)⟩
end Go.Proofs.YtcojgmgoiopboaaGreatDoor
