import Derived.Test.YtdnnjahdcabdmaaGreatDoorMO08
import Derived.Test.YtdnnjahdcabdmaaGreatDoorMO11
import Derived.Laws.Externs
/- Sizes of numbers, and the greatest of several: plain laws on words; no statement is proved here. -/
namespace Go.Proofs.YtdnnjahdcabdmaaGreatDoor
open Go.ChangeShapes Go.WideShapes Go.ChangeAt Go.RowKit Ieee
set_option linter.unusedVariables false
set_option linter.unusedSimpArgs false

theorem read_f32 (b : Nat) : FloatKind.f32.format.read b = single.read b := rfl
theorem plain_read {a : Nat} (h : plain a = true) : ∃ s m e, single.read a = .number s m e := by
  unfold plain at h
  obtain ⟨h1, h2⟩ := Bool.and_eq_true_iff.1 h
  have c1 : single.read 3380609024 = .number true 8388608 (-3) := by decide
  have c2 : single.read 1233125376 = .number false 8388608 (-3) := by decide
  unfold fge at h1
  unfold fle at h2
  unfold Format.order at h1 h2
  simp only [read_f32, c1, c2] at h1 h2
  cases hr : single.read a with
  | nan s f => rw [hr] at h1; simp [Datum.order] at h1
  | number s m e => exact ⟨s, m, e, rfl⟩
  | infinity s =>
    rw [hr] at h1 h2
    cases s <;> simp [Datum.order] at h1 h2
theorem isN_word (s : Bool) (r : Nat) (h : r ≤ 2139095040) : isN .f32 (single.word s r) = false := by
  obtain ⟨hb, hi, hl, hs, hf⟩ := single_facts
  unfold isN
  rw [read_f32, read_word _ _ _ (by rw [hs]; omega), hb, hi, hl]
  split
  · rfl
  · split
    · rfl
    · rw [if_pos (by omega)]; rfl
theorem isN_nearest (s : Bool) (m : Nat) (e : Int) : isN .f32 (single.nearest s m e) = false := by
  unfold Format.nearest
  split
  · exact isN_word _ _ (by omega)
  · exact isN_word _ _ (Nat.min_le_right _ _)
theorem sub_plain {a b : Nat} (ha : plain a = true) (hb : plain b = true) : ∃ r, floatBits .sub .f32 a b = some r ∧ isN .f32 r = false ∧ r < 4294967296 := by
  obtain ⟨s, m, e, h1⟩ := plain_read ha
  obtain ⟨s', m', e', h2⟩ := plain_read hb
  have h3 : floatBits .sub .f32 a b = single.sub a b := rfl
  cases hr : floatBits .sub .f32 a b with
  | none =>
    rw [h3] at hr
    unfold Format.sub at hr
    rw [h1, h2] at hr
    simp [Datum.opposite, Datum.sum] at hr
  | some r =>
    refine ⟨r, rfl, ?_, ?_⟩
    · rw [h3] at hr
      unfold Format.sub at hr
      rw [h1, h2] at hr
      simp only [Datum.opposite, Datum.sum, Option.map_some, Option.some.injEq] at hr
      rw [← hr]
      exact isN_nearest _ _ _
    · rw [h3] at hr
      have := single.sub_lt hr
      exact this
theorem fop_sub_plain {a b : Nat} (ha : plain a = true) (hb : plain b = true) : isN .f32 (fop .sub a b) = false ∧ fop .sub a b < 4294967296 := by
  obtain ⟨r, h1, h2, h3⟩ := sub_plain ha hb
  have : fop .sub a b = r := by unfold fop; rw [h1]; exact cn_num h2
  rw [this]; exact ⟨h2, h3⟩
theorem word_split {b : Nat} (hlt : b < 4294967296) : b = single.word (b / 2147483648 % 2 == 1) (b % 2147483648) := by
  unfold Format.word
  rw [single_facts.2.2.2.1]
  by_cases h : b < 2147483648
  · rw [show b / 2147483648 = 0 by omega, show b % 2147483648 = b by omega]; rfl
  · rw [show b / 2147483648 = 1 by omega]
    simp only [if_true, show (1 % 2 == 1) = true from rfl]
    omega
theorem read_sign (b : Nat) : (single.read b).neg = (b / 2147483648 % 2 == 1) := by
  unfold Format.read
  rw [single_facts.2.2.2.1]
  simp only
  split
  · rfl
  · split
    · rfl
    · split <;> rfl
theorem read_zero : single.read 0 = .number false 0 (-149) := by decide
theorem signed_zero (s : Bool) (u : Nat) : signed s 0 u = 0 := by unfold signed; cases s <;> simp
theorem signed_pos {m : Nat} (h : m ≠ 0) (u : Nat) : 0 < signed false m u := by
  unfold signed; simp only [Bool.false_eq_true, if_false, Nat.shiftLeft_eq]
  have : 0 < m * 2 ^ u := Nat.mul_pos (by omega) (Nat.two_pow_pos _)
  omega
theorem signed_neg {m : Nat} (h : m ≠ 0) (u : Nat) : signed true m u < 0 := by
  unfold signed; simp only [if_true, Nat.shiftLeft_eq]
  have : 0 < m * 2 ^ u := Nat.mul_pos (by omega) (Nat.two_pow_pos _)
  omega
/-- When a number is at most nothing. -/
theorem fle_zero {b : Nat} (hn : isN .f32 b = false) : fle b 0 = true ↔ (∃ e, single.read b = .infinity true ∧ e = 0) ∨ ∃ s m e, single.read b = .number s m e ∧ (s = true ∨ m = 0) := by
  unfold fle Format.order
  simp only [read_f32, read_zero]
  have hn' : (single.read b).isNaN = false := hn
  cases hr : single.read b with
  | nan s f => rw [hr] at hn'; cases hn'
  | infinity s => cases s <;> simp [Datum.order]
  | number s m e =>
    simp only [Datum.order, signed_zero]
    by_cases h0 : m = 0
    · subst h0; simp [signed_zero]
    · cases s
      · have := signed_pos h0 (e - min e (-149)).toNat
        have hc : compare (signed false m (e - min e (-149)).toNat) 0 = .gt := by rw [Int.compare_eq_gt]; exact this
        simp [hc, h0]
      · have := signed_neg h0 (e - min e (-149)).toNat
        have hc : compare (signed true m (e - min e (-149)).toNat) 0 = .lt := by rw [Int.compare_eq_lt]; exact this
        simp [hc]
/-- '0 - a' of a number that is at most nothing. -/
theorem size_sub {b : Nat} (hn : isN .f32 b = false) (h : fle b 0 = true) : floatBits .sub .f32 0 b = some (fab b) := by
  have h3 : floatBits .sub .f32 0 b = single.sub 0 b := rfl
  rw [h3]
  unfold Format.sub
  rw [read_zero]
  rcases (fle_zero hn).1 h with ⟨_, hr, _⟩ | ⟨s, m, e, hr, hs⟩
  · rw [hr, single_inf hr]; decide
  · rw [hr]
    simp only [Datum.opposite, Datum.sum, Option.map_some, Option.some.injEq]
    have hrange := single_range hr
    show single.nearest _ _ _ = _
    rw [signed_zero, Int.zero_add]
    by_cases h0 : m = 0
    · subst h0
      rw [zero_mag hr, signed_zero]
      rfl
    · obtain rfl : s = true := by rcases hs with h | h
                                  · exact h
                                  · exact absurd h h0
      have hp := signed_pos h0 (e - min (-149) e).toNat
      simp only [Bool.not_true]
      rw [if_neg (by omega), show min (-149 : Int) e = -149 by omega]
      have e1 : decide (signed false m (e - -149).toNat < 0) = false := decide_eq_false (by have := signed_pos h0 (e - -149).toNat; omega)
      have e2 : (signed false m (e - -149).toNat).natAbs = m <<< (e - -149).toNat := by unfold signed; simp only [Bool.false_eq_true, if_false]; exact Int.natAbs_natCast _
      rw [e1, e2]
      have := nearest_word single (by decide) b true false m e (e - -149).toNat hr
      rw [show e - (((e - -149).toNat : Nat) : Int) = -149 by omega] at this
      rw [this, single_facts.2.2.2.1]
      rfl
/-- A number that is more than nothing is its own size. -/
theorem size_pos {b : Nat} (hn : isN .f32 b = false) (hlt : b < 4294967296) (h : fle b 0 = false) : fab b = b := by
  have hs : (single.read b).neg = false := by
    cases hr : single.read b with
    | nan s f => have hn' : (single.read b).isNaN = false := hn; rw [hr] at hn'; cases hn'
    | infinity s => cases s
                    · rfl
                    · rw [(fle_zero hn).2 (.inl ⟨0, hr, rfl⟩)] at h; cases h
    | number s m e => cases s
                      · rfl
                      · rw [(fle_zero hn).2 (.inr ⟨true, m, e, hr, .inl rfl⟩)] at h; cases h
  rw [read_sign] at hs
  unfold fab
  simp at hs
  omega
theorem isN_fab {b : Nat} (h : isN .f32 b = false) : isN .f32 (fab b) = false := by
  unfold isN at h ⊢
  rw [read_f32] at h ⊢
  unfold Format.read at h ⊢
  obtain ⟨hb, hi, hl, hs, hf⟩ := single_facts
  have e6 : fab b % single.signWeight = b % single.signWeight := by rw [hs]; unfold fab; omega
  rw [e6]
  generalize b % single.signWeight = r at *
  simp only [hb, hi, hl] at h ⊢
  split
  · rfl
  · split
    · rfl
    · split
      · rfl
      · rename_i h1 h2 h3
        rw [if_neg h1, if_neg h2, if_neg h3] at h
        cases h

/-! ### The greatest change. -/
/-- What a cell has more behind a sweep. -/
def dif (g g' : Gr) (k : Nat) : Nat := fop .sub (g'.hea k) (g.hea k)
/-- The greatest size among the first k cells. -/
def mostTo (g g' : Gr) : Nat → Nat
  | 0 => fab (dif g g' 0)
  | k + 1 => if isC g (k + 1) && fgt (fab (dif g g' (k + 1))) (mostTo g g' k) then fab (dif g g' (k + 1)) else mostTo g g' k
def most (g g' : Gr) : Nat := mostTo g g' 63
end Go.Proofs.YtdnnjahdcabdmaaGreatDoor
/- Sizes of numbers, and whether a ground is still: the walks. -/
namespace Go.Proofs.YtdnnjahdcabdmaaGreatDoor
open Go.ChangeShapes Go.WideShapes Go.ChangeAt Go.RowKit
set_option linter.unusedVariables false
set_option linter.unusedSimpArgs false
attribute [local irreducible] Calls

theorem run_f64bits (b : Nat) (w : World) : (callFunc 151 #[.float .f64 b]).run Tryz.prog w = .ok (.value (.int .u64 b)) w := by
  rw [run_callFunc_extern Tryz.func151 (by kernel_rfl) (by kernel_rfl) (by kernel_rfl) (e := Extern.MathFloatBits.float64bits) (by kernel_rfl)]
  rfl
theorem run_f64from (n : Int) (w : World) : (callFunc 153 #[.int .u64 n]).run Tryz.prog w = .ok (.value (.float .f64 n.toNat)) w := by
  rw [run_callFunc_extern Tryz.func153 (by kernel_rfl) (by kernel_rfl) (by kernel_rfl) (e := Extern.MathFloatBits.float64frombits) (by kernel_rfl)]
  rfl
/-- The sign bit struck from a wide word. -/
theorem andNot_sign (b : Nat) (h : b < 18446744073709551616) : bits .andNot .u64 (b : Int) 9223372036854775808 = ((b % 9223372036854775808 : Nat) : Int) := by
  have h0 : bits .andNot .u64 (b : Int) 9223372036854775808 = IntKind.u64.wrap ((BitVec.ofInt 64 (b : Int) &&& ~~~ BitVec.ofInt 64 (9223372036854775808 : Int)).toNat : Int) := rfl
  rw [h0, IntKind.wrap_u64]
  have h1 : BitVec.ofInt 64 (b : Int) = BitVec.ofNat 64 b := by simp
  have h2 : BitVec.ofInt 64 (9223372036854775808 : Int) = BitVec.ofNat 64 9223372036854775808 := by decide
  have h3 : ~~~ (BitVec.ofNat 64 9223372036854775808) = BitVec.ofNat 64 9223372036854775807 := by decide
  rw [h1, h2, h3]
  rw [BitVec.toNat_and]
  simp only [BitVec.toNat_ofNat]
  rw [Nat.mod_eq_of_lt (by omega), Nat.mod_eq_of_lt (by omega)]
  have h4 : b &&& 9223372036854775807 = b % 9223372036854775808 := by
    have := Nat.and_two_pow_sub_one_eq_mod b 63
    simpa using this
  rw [h4]
  omega
theorem widen_lt {b : Nat} (h : isN .f32 b = false) : widen b < 18446744073709551616 := by
  unfold widen
  rw [h]
  exact Ieee.Format.write_lt Ieee.double _
set_option maxRecDepth 100000 in
set_option maxHeartbeats 400000 in
theorem mathAbs_any (b : Nat) (hb : b < 18446744073709551616) (w : World) :
    Calls Tryz.prog 203 #[.float .f64 b] w fun e w' => e = .returned (.float .f64 (b % 9223372036854775808)) ∧ w' = w := by
  have h1 := fun w' => run_f64bits b w'
  have h2 : ∀ w', (callFunc 153 #[.int .u64 ((b : Int) % 9223372036854775808)]).run Tryz.prog w' = .ok (.value (.float .f64 (b % 9223372036854775808))) w' := fun w' => by
    rw [run_f64from, show ((b : Int) % 9223372036854775808).toNat = b % 9223372036854775808 by omega]
  have h3 : bits .andNot .u64 (b : Int) 9223372036854775808 = (b : Int) % 9223372036854775808 := (andNot_sign b hb).trans (by omega)
  go_enter Tryz.func203, Tryz.ntmps203
  go_wp2_with fail
  go_ret
  exact ⟨rfl, rfl⟩
theorem run_narrow_conv {P : Program} (src dst : TypeId) (b r : Nat) (hs : P.underlying src = some (.float .f64)) (hd : P.underlying dst = some (.float .f32)) (h : floatToFloatBits .f64 b .f32 = some r) (w : World) : (convert src dst (.float .f64 b)).run P w = .ok (.float .f32 r) w := by
  simp [convert, run_underlying hs, run_underlying hd, run_floatToFloat w h]
theorem run_widen_num {P : Program} (src dst : TypeId) (b : Nat) (hs : P.underlying src = some (.float .f32)) (hd : P.underlying dst = some (.float .f64)) (h : isN .f32 b = false) (w : World) : (convert src dst (.float .f32 b)).run P w = .ok (.float .f64 (widen b)) w := by
  rw [run_convert_widen w src dst b hs hd]
  have h1 : fwid b w = widen b := by unfold fwid; rw [h]; rfl
  have h2 : wcnt b = 0 := by unfold wcnt; rw [h]; rfl
  rw [h1, h2, World.drewN_zero]
set_option maxRecDepth 100000 in
set_option maxHeartbeats 400000 in
theorem size_any (b : Nat) (h : isN .f32 b = false) (w : World) :
    Calls Tryz.prog 199 #[.float .f32 b] w fun e w' => e = .returned (.float .f32 (fab b)) ∧ w' = w := by
  have h1 := fun w' => run_widen_num (P := Tryz.prog) 25 169 b Tryz.underlying25 Tryz.underlying169 h w'
  have h2 := fun w' => run_narrow_conv (P := Tryz.prog) 169 25 _ _ Tryz.underlying169 Tryz.underlying25 (narrow_abs b h) w'
  have h3 := fun w' => mathAbs_any (widen b) (widen_lt h) w'
  clear h
  go_enter Tryz.func199, Tryz.ntmps199
  go_wp2_with (go_at_call 203; refine (h3 _).mono ?_; rintro e w' ⟨rfl, hw⟩; rw [hw]; clear hw w')
  go_ret
  exact ⟨rfl, rfl⟩

/-- Two words that stand for the same. -/
theorem fle_rd {a a' : Nat} (h : Ieee.single.read a = Ieee.single.read a') (x : Nat) : fle a x = fle a' x := by
  unfold fle Ieee.Format.order; simp only [read_f32, h]
theorem fgt_rd {a a' b b' : Nat} (h : Ieee.single.read a = Ieee.single.read a') (h' : Ieee.single.read b = Ieee.single.read b') : fgt a b = fgt a' b' := by
  unfold fgt Ieee.Format.order; simp only [read_f32, h, h']
theorem isN_rd {a a' : Nat} (h : Ieee.single.read a = Ieee.single.read a') : isN .f32 a = isN .f32 a' := by
  unfold isN; simp only [read_f32, h]
theorem size_read {b : Nat} (hn : isN .f32 b = false) (h : fle b 0 = false) : Ieee.single.read b = Ieee.single.read (fab b) := by
  have hs : (Ieee.single.read b).neg = false := by
    cases hr : Ieee.single.read b with
    | nan s f => have hn' : (Ieee.single.read b).isNaN = false := hn; rw [hr] at hn'; cases hn'
    | infinity s => cases s
                    · rfl
                    · rw [(fle_zero hn).2 (.inl ⟨0, hr, rfl⟩)] at h; cases h
    | number s m e => cases s
                      · rfl
                      · rw [(fle_zero hn).2 (.inr ⟨true, m, e, hr, .inl rfl⟩)] at h; cases h
  rw [read_sign] at hs
  have hf : (fab b / 2147483648 % 2 == 1) = false := by
    have : fab b / 2147483648 % 2 = 0 := by unfold fab; omega
    rw [this]; rfl
  unfold Ieee.Format.read
  have e1 : Ieee.single.signWeight = 2147483648 := single_facts.2.2.2.1
  rw [e1, hs, hf]
  have e2 : fab b % 2147483648 = b % 2147483648 := by unfold fab; omega
  rw [e2]
set_option maxRecDepth 100000 in
set_option maxHeartbeats 400000 in
theorem l01Size_any (b : Nat) (h : isN .f32 b = false) (w : World) :
    Calls Tryz.prog 201 #[.float .f32 b] w fun e w' => ∃ r, e = .returned (.float .f32 r) ∧ Ieee.single.read r = Ieee.single.read (fab b) ∧ w' = w := by
  have h1 := fle_eq b 0
  cases hz : fle b 0 <;> rw [hz] at h1
  · have HR := Lib.hid (size_read h hz)
    clear h hz
    go_enter Tryz.func201, Tryz.ntmps201
    go_wp2_with fail
    go_ret
    exact ⟨b, rfl, HR.out, rfl⟩
  · have h2 := fun w' => run_float_arith (P := Tryz.prog) w' .sub 25 .f32 0 b _ (size_sub h hz)
    clear h hz
    go_enter Tryz.func201, Tryz.ntmps201
    go_wp2_with fail
    go_ret
    exact ⟨fab b, rfl, rfl, rfl⟩

theorem fin_num {b : Nat} (h : fin b = true) : isN .f32 b = false := by
  cases hn : isN .f32 b
  · rfl
  · unfold fin at h
    have h2 := feq_num h
    have h3 : isN .f32 (fop .sub b b) = true := by unfold fop; rw [bits_nan_left hn, isN_cn]; exact isN_qn _
    rw [h3] at h2; cases h2

/-- Are the balances of all cells that are not fixed small? -/
def stillG (g : Gr) (small : Nat) : Bool := (freeL g).all fun k => fle (fab (bal g k)) small
theorem bals_num {g : Gr} (h : balsOk g = true) {k : Nat} (hk : k < 64) (hc : isC g k = true) : isN .f32 (bal g k) = false := by
  unfold balsOk at h
  have h1 := anyTo_false.1 (by simpa using h) k hk
  unfold notFin at h1
  rw [hc] at h1
  exact fin_num (by simpa using h1)
theorem bals_eq {g : Gr} {ff : Nat → Nat} (h : balsOk g = true) (hff : ∀ k, k < 64 → cn (ff k) = cn (balF g k)) {k : Nat} (hk : k < 64) (hc : isC g k = true) : ff k = bal g k := by
  have h1 := hff k hk
  unfold balF at h1
  rw [hc] at h1
  exact al_eq h1 (bals_num h hk hc)
theorem stillG_any {g : Gr} {small : Nat} : stillG g small = !anyTo (fun k => (isC g k && !isFx g k) && !fle (fab (bal g k)) small) (fun i => i) 64 := by
  apply Bool.eq_iff_iff.2
  unfold stillG
  simp only [List.all_eq_true, Bool.not_eq_true', anyTo_false, freeL_mem]
  constructor
  · intro h i hi
    cases hc : isC g i
    · rfl
    · cases hf : isFx g i
      · simp [h i ⟨⟨hi, hc⟩, hf⟩]
      · rfl
  · rintro h k ⟨⟨hk, hc⟩, hf⟩
    have := h k hk
    rw [hc, hf] at this
    simpa using this

end Go.Proofs.YtdnnjahdcabdmaaGreatDoor
