import Derived.Test.YtglimhkpndfjgaaMT05
import Derived.Test.YtglimhkpndfjgaaMT06
import Derived.Laws.Externs
import Derived.Test.YtglimhkpndfjgaaMT02
import Derived.Test.YtglimhkpndfjgaaMT04
/- Sizes of numbers, and the greatest of several: plain laws on words; no statement is proved here. -/
namespace Go.Proofs.Ytglimhkpndfjgaa
open Go.ChangeShapes Go.WideShapes Go.ChangeAt Go.RowKit Ieee
set_option linter.unusedVariables false
set_option linter.unusedSimpArgs false

theorem read_f32 (b : Nat) : FloatKind.f32.format.read b = single.read b := rfl
theorem plain_read {a : Nat} (h : plain a = true) : ∃ s m e, single.read a = .number s m e := by
  unfold plain at h
  obtain ⟨h1, h2⟩ := Bool.and_eq_true_iff.1 h
  have c1 : single.read 3380609024 = .number true 8388608 (-3) := by decide
  have c2 : single.read 1233125376 = .number false 8388608 (-3) := by decide
  unfold fge at h1
  unfold fle at h2
  unfold Format.order at h1 h2
  simp only [read_f32, c1, c2] at h1 h2
  cases hr : single.read a with
  | nan s f => rw [hr] at h1; simp [Datum.order] at h1
  | number s m e => exact ⟨s, m, e, rfl⟩
  | infinity s =>
    rw [hr] at h1 h2
    cases s <;> simp [Datum.order] at h1 h2
theorem isN_word (s : Bool) (r : Nat) (h : r ≤ 2139095040) : isN .f32 (single.word s r) = false := by
  obtain ⟨hb, hi, hl, hs, hf⟩ := single_facts
  unfold isN
  rw [read_f32, read_word _ _ _ (by rw [hs]; omega), hb, hi, hl]
  split
  · rfl
  · split
    · rfl
    · rw [if_pos (by omega)]; rfl
theorem isN_nearest (s : Bool) (m : Nat) (e : Int) : isN .f32 (single.nearest s m e) = false := by
  unfold Format.nearest
  split
  · exact isN_word _ _ (by omega)
  · exact isN_word _ _ (Nat.min_le_right _ _)
theorem sub_plain {a b : Nat} (ha : plain a = true) (hb : plain b = true) : ∃ r, floatBits .sub .f32 a b = some r ∧ isN .f32 r = false ∧ r < 4294967296 := by
  obtain ⟨s, m, e, h1⟩ := plain_read ha
  obtain ⟨s', m', e', h2⟩ := plain_read hb
  have h3 : floatBits .sub .f32 a b = single.sub a b := rfl
  cases hr : floatBits .sub .f32 a b with
  | none =>
    rw [h3] at hr
    unfold Format.sub at hr
    rw [h1, h2] at hr
    simp [Datum.opposite, Datum.sum] at hr
  | some r =>
    refine ⟨r, rfl, ?_, ?_⟩
    · rw [h3] at hr
      unfold Format.sub at hr
      rw [h1, h2] at hr
      simp only [Datum.opposite, Datum.sum, Option.map_some, Option.some.injEq] at hr
      rw [← hr]
      exact isN_nearest _ _ _
    · rw [h3] at hr
      have := single.sub_lt hr
      exact this
theorem fop_sub_plain {a b : Nat} (ha : plain a = true) (hb : plain b = true) : isN .f32 (fop .sub a b) = false ∧ fop .sub a b < 4294967296 := by
  obtain ⟨r, h1, h2, h3⟩ := sub_plain ha hb
  have : fop .sub a b = r := by unfold fop; rw [h1]; exact cn_num h2
  rw [this]; exact ⟨h2, h3⟩
theorem word_split {b : Nat} (hlt : b < 4294967296) : b = single.word (b / 2147483648 % 2 == 1) (b % 2147483648) := by
  unfold Format.word
  rw [single_facts.2.2.2.1]
  by_cases h : b < 2147483648
  · rw [show b / 2147483648 = 0 by omega, show b % 2147483648 = b by omega]; rfl
  · rw [show b / 2147483648 = 1 by omega]
    simp only [if_true, show (1 % 2 == 1) = true from rfl]
    omega
theorem read_sign (b : Nat) : (single.read b).neg = (b / 2147483648 % 2 == 1) := by
  unfold Format.read
  rw [single_facts.2.2.2.1]
  simp only
  split
  · rfl
  · split
    · rfl
    · split <;> rfl
theorem read_zero : single.read 0 = .number false 0 (-149) := by decide
theorem signed_zero (s : Bool) (u : Nat) : signed s 0 u = 0 := by unfold signed; cases s <;> simp
theorem signed_pos {m : Nat} (h : m ≠ 0) (u : Nat) : 0 < signed false m u := by
  unfold signed; simp only [Bool.false_eq_true, if_false, Nat.shiftLeft_eq]
  have : 0 < m * 2 ^ u := Nat.mul_pos (by omega) (Nat.two_pow_pos _)
  omega
theorem signed_neg {m : Nat} (h : m ≠ 0) (u : Nat) : signed true m u < 0 := by
  unfold signed; simp only [if_true, Nat.shiftLeft_eq]
  have : 0 < m * 2 ^ u := Nat.mul_pos (by omega) (Nat.two_pow_pos _)
  omega
/-- When a number is at most nothing. -/
theorem fle_zero {b : Nat} (hn : isN .f32 b = false) : fle b 0 = true ↔ (∃ e, single.read b = .infinity true ∧ e = 0) ∨ ∃ s m e, single.read b = .number s m e ∧ (s = true ∨ m = 0) := by
  unfold fle Format.order
  simp only [read_f32, read_zero]
  have hn' : (single.read b).isNaN = false := hn
  cases hr : single.read b with
  | nan s f => rw [hr] at hn'; cases hn'
  | infinity s => cases s <;> simp [Datum.order]
  | number s m e =>
    simp only [Datum.order, signed_zero]
    by_cases h0 : m = 0
    · subst h0; simp [signed_zero]
    · cases s
      · have := signed_pos h0 (e - min e (-149)).toNat
        have hc : compare (signed false m (e - min e (-149)).toNat) 0 = .gt := by rw [Int.compare_eq_gt]; exact this
        simp [hc, h0]
      · have := signed_neg h0 (e - min e (-149)).toNat
        have hc : compare (signed true m (e - min e (-149)).toNat) 0 = .lt := by rw [Int.compare_eq_lt]; exact this
        simp [hc]
/-- '0 - a' of a number that is at most nothing. -/
theorem size_sub {b : Nat} (hn : isN .f32 b = false) (h : fle b 0 = true) : floatBits .sub .f32 0 b = some (fab b) := by
  have h3 : floatBits .sub .f32 0 b = single.sub 0 b := rfl
  rw [h3]
  unfold Format.sub
  rw [read_zero]
  rcases (fle_zero hn).1 h with ⟨_, hr, _⟩ | ⟨s, m, e, hr, hs⟩
  · rw [hr, single_inf hr]; decide
  · rw [hr]
    simp only [Datum.opposite, Datum.sum, Option.map_some, Option.some.injEq]
    have hrange := single_range hr
    show single.nearest _ _ _ = _
    rw [signed_zero, Int.zero_add]
    by_cases h0 : m = 0
    · subst h0
      rw [zero_mag hr, signed_zero]
      rfl
    · obtain rfl : s = true := by rcases hs with h | h
                                  · exact h
                                  · exact absurd h h0
      have hp := signed_pos h0 (e - min (-149) e).toNat
      simp only [Bool.not_true]
      rw [if_neg (by omega), show min (-149 : Int) e = -149 by omega]
      have e1 : decide (signed false m (e - -149).toNat < 0) = false := decide_eq_false (by have := signed_pos h0 (e - -149).toNat; omega)
      have e2 : (signed false m (e - -149).toNat).natAbs = m <<< (e - -149).toNat := by unfold signed; simp only [Bool.false_eq_true, if_false]; exact Int.natAbs_natCast _
      rw [e1, e2]
      have := nearest_word single (by decide) b true false m e (e - -149).toNat hr
      rw [show e - (((e - -149).toNat : Nat) : Int) = -149 by omega] at this
      rw [this, single_facts.2.2.2.1]
      rfl
/-- A number that is more than nothing is its own size. -/
theorem size_pos {b : Nat} (hn : isN .f32 b = false) (hlt : b < 4294967296) (h : fle b 0 = false) : fab b = b := by
  have hs : (single.read b).neg = false := by
    cases hr : single.read b with
    | nan s f => have hn' : (single.read b).isNaN = false := hn; rw [hr] at hn'; cases hn'
    | infinity s => cases s
                    · rfl
                    · rw [(fle_zero hn).2 (.inl ⟨0, hr, rfl⟩)] at h; cases h
    | number s m e => cases s
                      · rfl
                      · rw [(fle_zero hn).2 (.inr ⟨true, m, e, hr, .inl rfl⟩)] at h; cases h
  rw [read_sign] at hs
  unfold fab
  simp at hs
  omega
theorem isN_fab {b : Nat} (h : isN .f32 b = false) : isN .f32 (fab b) = false := by
  unfold isN at h ⊢
  rw [read_f32] at h ⊢
  unfold Format.read at h ⊢
  obtain ⟨hb, hi, hl, hs, hf⟩ := single_facts
  have e6 : fab b % single.signWeight = b % single.signWeight := by rw [hs]; unfold fab; omega
  rw [e6]
  generalize b % single.signWeight = r at *
  simp only [hb, hi, hl] at h ⊢
  split
  · rfl
  · split
    · rfl
    · split
      · rfl
      · rename_i h1 h2 h3
        rw [if_neg h1, if_neg h2, if_neg h3] at h
        cases h

/-! ### The greatest change. -/
/-- What a cell has more behind a sweep. -/
def dif (g g' : Gr) (k : Nat) : Nat := fop .sub (g'.hea k) (g.hea k)
/-- The greatest size among the first k cells. -/
def mostTo (g g' : Gr) : Nat → Nat
  | 0 => fab (dif g g' 0)
  | k + 1 => if isC g (k + 1) && fgt (fab (dif g g' (k + 1))) (mostTo g g' k) then fab (dif g g' (k + 1)) else mostTo g g' k
def most (g g' : Gr) : Nat := mostTo g g' 63
end Go.Proofs.Ytglimhkpndfjgaa
/- Sizes of numbers, and whether a ground is still: the walks. -/
namespace Go.Proofs.Ytglimhkpndfjgaa
open Go.ChangeShapes Go.WideShapes Go.ChangeAt Go.RowKit
set_option linter.unusedVariables false
set_option linter.unusedSimpArgs false
attribute [local irreducible] Calls

theorem run_f64bits (b : Nat) (w : World) : (callFunc 85 #[.float .f64 b]).run Try.prog w = .ok (.value (.int .u64 b)) w := by
  rw [run_callFunc_extern Try.func85 (by kernel_rfl) (by kernel_rfl) (by kernel_rfl) (e := Extern.MathFloatBits.float64bits) (by kernel_rfl)]
  rfl
theorem run_f64from (n : Int) (w : World) : (callFunc 84 #[.int .u64 n]).run Try.prog w = .ok (.value (.float .f64 n.toNat)) w := by
  rw [run_callFunc_extern Try.func84 (by kernel_rfl) (by kernel_rfl) (by kernel_rfl) (e := Extern.MathFloatBits.float64frombits) (by kernel_rfl)]
  rfl
/-- The sign bit struck from a wide word. -/
theorem andNot_sign (b : Nat) (h : b < 18446744073709551616) : bits .andNot .u64 (b : Int) 9223372036854775808 = ((b % 9223372036854775808 : Nat) : Int) := by
  have h0 : bits .andNot .u64 (b : Int) 9223372036854775808 = IntKind.u64.wrap ((BitVec.ofInt 64 (b : Int) &&& ~~~ BitVec.ofInt 64 (9223372036854775808 : Int)).toNat : Int) := rfl
  rw [h0, IntKind.wrap_u64]
  have h1 : BitVec.ofInt 64 (b : Int) = BitVec.ofNat 64 b := by simp
  have h2 : BitVec.ofInt 64 (9223372036854775808 : Int) = BitVec.ofNat 64 9223372036854775808 := by decide
  have h3 : ~~~ (BitVec.ofNat 64 9223372036854775808) = BitVec.ofNat 64 9223372036854775807 := by decide
  rw [h1, h2, h3]
  rw [BitVec.toNat_and]
  simp only [BitVec.toNat_ofNat]
  rw [Nat.mod_eq_of_lt (by omega), Nat.mod_eq_of_lt (by omega)]
  have h4 : b &&& 9223372036854775807 = b % 9223372036854775808 := by
    have := Nat.and_two_pow_sub_one_eq_mod b 63
    simpa using this
  rw [h4]
  omega
theorem widen_lt {b : Nat} (h : isN .f32 b = false) : widen b < 18446744073709551616 := by
  unfold widen
  rw [h]
  exact Ieee.Format.write_lt Ieee.double _
set_option maxRecDepth 100000 in
set_option maxHeartbeats 400000 in
theorem mathAbs_any (b : Nat) (hb : b < 18446744073709551616) (w : World) :
    Calls Try.prog 78 #[.float .f64 b] w fun e w' => e = .returned (.float .f64 (b % 9223372036854775808)) ∧ w' = w := by
  have h1 := fun w' => run_f64bits b w'
  have h2 : ∀ w', (callFunc 84 #[.int .u64 ((b : Int) % 9223372036854775808)]).run Try.prog w' = .ok (.value (.float .f64 (b % 9223372036854775808))) w' := fun w' => by
    rw [run_f64from, show ((b : Int) % 9223372036854775808).toNat = b % 9223372036854775808 by omega]
  have h3 : bits .andNot .u64 (b : Int) 9223372036854775808 = (b : Int) % 9223372036854775808 := (andNot_sign b hb).trans (by omega)
  go_enter Try.func78, Try.ntmps78
  go_wp2_with fail
  go_ret
  exact ⟨rfl, rfl⟩
theorem run_narrow_conv {P : Program} (src dst : TypeId) (b r : Nat) (hs : P.underlying src = some (.float .f64)) (hd : P.underlying dst = some (.float .f32)) (h : floatToFloatBits .f64 b .f32 = some r) (w : World) : (convert src dst (.float .f64 b)).run P w = .ok (.float .f32 r) w := by
  simp [convert, run_underlying hs, run_underlying hd, run_floatToFloat w h]
theorem run_widen_num {P : Program} (src dst : TypeId) (b : Nat) (hs : P.underlying src = some (.float .f32)) (hd : P.underlying dst = some (.float .f64)) (h : isN .f32 b = false) (w : World) : (convert src dst (.float .f32 b)).run P w = .ok (.float .f64 (widen b)) w := by
  rw [run_convert_widen w src dst b hs hd]
  have h1 : fwid b w = widen b := by unfold fwid; rw [h]; rfl
  have h2 : wcnt b = 0 := by unfold wcnt; rw [h]; rfl
  rw [h1, h2, World.drewN_zero]
set_option maxRecDepth 100000 in
set_option maxHeartbeats 400000 in
theorem size_any (b : Nat) (h : isN .f32 b = false) (w : World) :
    Calls Try.prog 63 #[.float .f32 b] w fun e w' => e = .returned (.float .f32 (fab b)) ∧ w' = w := by
  have h1 := fun w' => run_widen_num (P := Try.prog) 24 106 b Try.underlying24 Try.underlying106 h w'
  have h2 := fun w' => run_narrow_conv (P := Try.prog) 106 24 _ _ Try.underlying106 Try.underlying24 (narrow_abs b h) w'
  have h3 := fun w' => mathAbs_any (widen b) (widen_lt h) w'
  clear h
  go_enter Try.func63, Try.ntmps63
  go_wp2_with (go_at_call 78; refine (h3 _).mono ?_; rintro e w' ⟨rfl, hw⟩; rw [hw]; clear hw w')
  go_ret
  exact ⟨rfl, rfl⟩

/-- Two words that stand for the same. -/
theorem fle_rd {a a' : Nat} (h : Ieee.single.read a = Ieee.single.read a') (x : Nat) : fle a x = fle a' x := by
  unfold fle Ieee.Format.order; simp only [read_f32, h]
theorem fgt_rd {a a' b b' : Nat} (h : Ieee.single.read a = Ieee.single.read a') (h' : Ieee.single.read b = Ieee.single.read b') : fgt a b = fgt a' b' := by
  unfold fgt Ieee.Format.order; simp only [read_f32, h, h']
theorem isN_rd {a a' : Nat} (h : Ieee.single.read a = Ieee.single.read a') : isN .f32 a = isN .f32 a' := by
  unfold isN; simp only [read_f32, h]
theorem size_read {b : Nat} (hn : isN .f32 b = false) (h : fle b 0 = false) : Ieee.single.read b = Ieee.single.read (fab b) := by
  have hs : (Ieee.single.read b).neg = false := by
    cases hr : Ieee.single.read b with
    | nan s f => have hn' : (Ieee.single.read b).isNaN = false := hn; rw [hr] at hn'; cases hn'
    | infinity s => cases s
                    · rfl
                    · rw [(fle_zero hn).2 (.inl ⟨0, hr, rfl⟩)] at h; cases h
    | number s m e => cases s
                      · rfl
                      · rw [(fle_zero hn).2 (.inr ⟨true, m, e, hr, .inl rfl⟩)] at h; cases h
  rw [read_sign] at hs
  have hf : (fab b / 2147483648 % 2 == 1) = false := by
    have : fab b / 2147483648 % 2 = 0 := by unfold fab; omega
    rw [this]; rfl
  unfold Ieee.Format.read
  have e1 : Ieee.single.signWeight = 2147483648 := single_facts.2.2.2.1
  rw [e1, hs, hf]
  have e2 : fab b % 2147483648 = b % 2147483648 := by unfold fab; omega
  rw [e2]
theorem fin_num {b : Nat} (h : fin b = true) : isN .f32 b = false := by
  cases hn : isN .f32 b
  · rfl
  · unfold fin at h
    have h2 := feq_num h
    have h3 : isN .f32 (fop .sub b b) = true := by unfold fop; rw [bits_nan_left hn, isN_cn]; exact isN_qn _
    rw [h3] at h2; cases h2

/-- Are the balances of all cells that are not fixed small? -/
def stillG (g : Gr) (small : Nat) : Bool := (freeL g).all fun k => fle (fab (bal g k)) small
theorem bals_num {g : Gr} (h : balsOk g = true) {k : Nat} (hk : k < 64) (hc : isC g k = true) : isN .f32 (bal g k) = false := by
  unfold balsOk at h
  have h1 := anyTo_false.1 (by simpa using h) k hk
  unfold notFin at h1
  rw [hc] at h1
  exact fin_num (by simpa using h1)
theorem bals_eq {g : Gr} {ff : Nat → Nat} (h : balsOk g = true) (hff : ∀ k, k < 64 → cn (ff k) = cn (balF g k)) {k : Nat} (hk : k < 64) (hc : isC g k = true) : ff k = bal g k := by
  have h1 := hff k hk
  unfold balF at h1
  rw [hc] at h1
  exact al_eq h1 (bals_num h hk hc)
theorem stillG_any {g : Gr} {small : Nat} : stillG g small = !anyTo (fun k => (isC g k && !isFx g k) && !fle (fab (bal g k)) small) (fun i => i) 64 := by
  apply Bool.eq_iff_iff.2
  unfold stillG
  simp only [List.all_eq_true, Bool.not_eq_true', anyTo_false, freeL_mem]
  constructor
  · intro h i hi
    cases hc : isC g i
    · rfl
    · cases hf : isFx g i
      · simp [h i ⟨⟨hi, hc⟩, hf⟩]
      · rfl
  · rintro h k ⟨⟨hk, hc⟩, hf⟩
    have := h k hk
    rw [hc, hf] at this
    simpa using this

end Go.Proofs.Ytglimhkpndfjgaa
/- Steps until a ground is still: StepsUntilStill in the program and in the reference. -/
namespace Go.Proofs.Ytglimhkpndfjgaa
open Go.ChangeShapes Go.WideShapes Go.ChangeAt Go.RowKit
set_option linter.unusedVariables false
set_option linter.unusedSimpArgs false
attribute [local irreducible] Calls

/-- A function of three results, the first a row in memory. -/
theorem bodyPost_row3 {P : Program} {fn : Func} {R : Ending → World → Prop} {a : Act} {w : World} {p u v : Tmp} {ty t : TypeId} {b n : Nat} {C : Array Value} (hf : fn.results = #[.cell p ty, .tmp u, .tmp v]) (hp : a.tmps.getD p undef = .pointer (some ⟨b, 0, none⟩)) (hr : RowTy P ty n) (hb : Blk w b C t) (hs : C.size = n) (hd : a.defers = [])
    (hR : R (.returned (.tuple #[.agg C, a.tmps.getD u undef, a.tmps.getD v undef])) w) : bodyPost P fn R .ret a w := by
  obtain ⟨d, hu, hd', hi⟩ := hr
  have hl := run_loadVar_row (P := P) w b t ty C (0, 0) d hb hu (by cases d <;> simp_all) (by rw [hi, hs])
  refine bodyPost_ret (v := .tuple #[.agg C, a.tmps.getD u undef, a.tmps.getD v undef]) ?_ hd hR
  have hp' : a.tmps[p]?.getD undef = .pointer (some ⟨b, 0, none⟩) := by simpa using hp
  simp [results, hf, hp', asAddr, hl]

/-- What comes of a ground that goes on until it is still, l steps being left. -/
def until_ (part small : Nat) : Nat → Int → Gr → Gr × Int × Int
  | 0, n, G => if balsOk G then (if stillG G small then (G, n, 0) else (zeroG, 0, 7)) else (zeroG, 0, 4)
  | l + 1, n, G => if balsOk G then (if stillG G small then (G, n, 0) else if stepIs G part then until_ part small l (n + 1) (stepG G part) else (zeroG, 0, 4)) else (zeroG, 0, 4)
theorem until_bad {part small : Nat} {G : Gr} (h : balsOk G = false) (l : Nat) (n : Int) : until_ part small l n G = (zeroG, 0, 4) := by cases l <;> simp [until_, h]
theorem until_still {part small : Nat} {G : Gr} (h : balsOk G = true) (h2 : stillG G small = true) (l : Nat) (n : Int) : until_ part small l n G = (G, n, 0) := by cases l <;> simp [until_, h, h2]
theorem until_end {part small : Nat} {G : Gr} (h : balsOk G = true) (h2 : stillG G small = false) (n : Int) : until_ part small 0 n G = (zeroG, 0, 7) := by simp [until_, h, h2]
theorem until_step {part small : Nat} {G : Gr} (h : balsOk G = true) (h2 : stillG G small = false) (h3 : stepIs G part = true) (l : Nat) (n : Int) : until_ part small (l + 1) n G = until_ part small l (n + 1) (stepG G part) := by simp [until_, h, h2, h3]
theorem until_fail {part small : Nat} {G : Gr} (h : balsOk G = true) (h2 : stillG G small = false) (h3 : stepIs G part = false) (l : Nat) (n : Int) : until_ part small (l + 1) n G = (zeroG, 0, 4) := by simp [until_, h, h2, h3]
def untilT (g : Gr) (part small : Nat) (n : Int) : Gr × Int × Int :=
  if validG g && plain part && plain small then (if isStp n then until_ part small n.toNat 0 g else (zeroG, 0, 2)) else (zeroG, 0, 1)

end Go.Proofs.Ytglimhkpndfjgaa
/- LoggedLevels, in the program and in the reference, over what is kept of one head (lg). -/
namespace Go.Proofs.Ytglimhkpndfjgaa
open Go.ChangeShapes Go.WideShapes Go.ChangeAt Go.RowKit
set_option linter.unusedVariables false
set_option linter.unusedSimpArgs false
attribute [local irreducible] Calls

def updI (f : Nat → Int) (k : Nat) (x : Int) : Nat → Int := fun i => if i = k then x else f i
theorem i16s_set (n : Nat) (f : Nat → Int) (k : Nat) (x : Int) (hk : k < n) : (i16s n f).setIfInBounds k (.int .i16 x) = i16s n (updI f k x) := by
  apply Array.ext_getElem?
  intro i
  rw [Array.getElem?_setIfInBounds]
  by_cases hi : i < n
  · rw [i16s_get n (updI f k x) i hi]
    by_cases h : k = i
    · subst h; rw [if_pos rfl, if_pos (by rw [i16s_size]; exact hk)]; unfold updI; rw [if_pos rfl]
    · rw [if_neg h, i16s_get n f i hi]; unfold updI; rw [if_neg (Ne.symm h)]
  · rw [Array.getElem?_eq_none (by rw [i16s_size]; omega), if_neg (by omega), Array.getElem?_eq_none (by rw [i16s_size]; omega)]
theorem i16s_congr {n : Nat} {f f' : Nat → Int} (h : ∀ i, i < n → f i = f' i) : i16s n f = i16s n f' := by
  apply Array.ext_getElem?
  intro i
  by_cases hi : i < n
  · rw [i16s_get n _ i hi, i16s_get n _ i hi, h i hi]
  · rw [Array.getElem?_eq_none (by rw [i16s_size]; omega), Array.getElem?_eq_none (by rw [i16s_size]; omega)]
/-- What the loggers keep of a ground. -/
def levF (lg : Nat → Int) (g : Gr) (k : Nat) : Int := if validG g && isC g k then lg (g.hea k) else 0
def levC (g : Gr) : Int := if validG g then 0 else 1

end Go.Proofs.Ytglimhkpndfjgaa
/- What a logger keeps of a head: math.Round walked through its bits. -/
namespace Go.Proofs.Ytglimhkpndfjgaa
open Go.ChangeShapes Go.WideShapes Go.ChangeAt Go.RowKit
set_option linter.unusedVariables false
set_option linter.unusedSimpArgs false

theorem bits_u64 (op : BinOp) (f : BitVec 64 → BitVec 64 → BitVec 64) (a b : Nat) (h : bits op .u64 (a : Int) (b : Int) = IntKind.u64.wrap ((f (BitVec.ofInt 64 (a : Int)) (BitVec.ofInt 64 (b : Int))).toNat : Int)) : bits op .u64 (a : Int) (b : Int) = (((f (BitVec.ofNat 64 a) (BitVec.ofNat 64 b)).toNat : Nat) : Int) := by
  rw [h, IntKind.wrap_u64, show BitVec.ofInt 64 (a : Int) = BitVec.ofNat 64 a by simp, show BitVec.ofInt 64 (b : Int) = BitVec.ofNat 64 b by simp]
  have := (f (BitVec.ofNat 64 a) (BitVec.ofNat 64 b)).isLt
  simp only [Nat.reducePow] at this
  omega
theorem and_low (a k : Nat) (hk : k ≤ 64) (ha : a < 18446744073709551616) : bits .and .u64 (a : Int) ((2 ^ k - 1 : Nat) : Int) = ((a % 2 ^ k : Nat) : Int) := by
  rw [bits_u64 .and (fun x y => x &&& y) a (2 ^ k - 1) rfl, BitVec.toNat_and]
  simp only [BitVec.toNat_ofNat]
  have h1 : 2 ^ k ≤ 2 ^ 64 := Nat.pow_le_pow_right (by omega) hk
  have h2 : 0 < 2 ^ k := Nat.two_pow_pos _
  simp only [Nat.reducePow] at h1 ⊢
  rw [Nat.mod_eq_of_lt ha, Nat.mod_eq_of_lt (by omega), Nat.and_two_pow_sub_one_eq_mod]
theorem andNot_low (a k : Nat) (hk : k ≤ 64) (ha : a < 18446744073709551616) : bits .andNot .u64 (a : Int) ((2 ^ k - 1 : Nat) : Int) = ((a / 2 ^ k * 2 ^ k : Nat) : Int) := by
  rw [bits_u64 .andNot (fun x y => x &&& ~~~ y) a (2 ^ k - 1) rfl]
  have h1 : 2 ^ k ≤ 2 ^ 64 := Nat.pow_le_pow_right (by omega) hk
  have h2 : 0 < 2 ^ k := Nat.two_pow_pos _
  congr 1
  apply Nat.eq_of_testBit_eq
  intro i
  rw [BitVec.toNat_and]
  simp only [BitVec.toNat_not, BitVec.toNat_ofNat]
  rw [Nat.mod_eq_of_lt (show a < 2 ^ 64 by simpa using ha), Nat.mod_eq_of_lt (show 2 ^ k - 1 < 2 ^ 64 by omega)]
  rw [Nat.testBit_and, Nat.testBit_mul_two_pow, Nat.testBit_div_two_pow]
  rw [show 2 ^ 64 - 1 - (2 ^ k - 1) = 2 ^ 64 - ((2 ^ k - 1) + 1) by omega, Nat.testBit_two_pow_sub_succ (by omega)]
  rw [Nat.testBit_two_pow_sub_one]
  by_cases hi : k ≤ i
  · simp [hi, show i - k + k = i by omega, show ¬ i < k by omega]
    intro h
    by_cases h64 : i < 64
    · exact h64
    · have : a < 2 ^ i := Nat.lt_of_lt_of_le (by simpa using ha) (Nat.pow_le_pow_right (by omega) (show 64 ≤ i by omega))
      rw [Nat.testBit_lt_two_pow this] at h
      cases h
  · simp [hi, show i < k by omega]
/-- The exponent of a word. -/
theorem exp_word (s : Bool) (r : Nat) (hr : r < 9223372036854775808) : bits .and .u64 ((Ieee.double.word s r : Nat) / 4503599627370496 : Int) 2047 = ((r / 4503599627370496 : Nat) : Int) := by
  have h0 : ((Ieee.double.word s r : Nat) / 4503599627370496 : Int) = ((Ieee.double.word s r / 4503599627370496 : Nat) : Int) := by omega
  have hw : Ieee.double.word s r < 18446744073709551616 := by unfold Ieee.Format.word; rw [double_facts.2.2.2.1]; split <;> omega
  rw [h0]
  have := and_low (Ieee.double.word s r / 4503599627370496) 11 (by omega) (by omega)
  rw [show ((2 ^ 11 - 1 : Nat) : Int) = 2047 from rfl] at this
  rw [this]
  congr 1
  unfold Ieee.Format.word
  rw [double_facts.2.2.2.1]
  simp only [Nat.reducePow]
  split <;> omega
theorem sign_word (s : Bool) (r : Nat) (hr : r < 9223372036854775808) : bits .and .u64 ((Ieee.double.word s r : Nat) : Int) 9223372036854775808 = ((Ieee.double.word s 0 : Nat) : Int) := by
  have hw : Ieee.double.word s r < 18446744073709551616 := by unfold Ieee.Format.word; rw [double_facts.2.2.2.1]; split <;> omega
  rw [show (9223372036854775808 : Int) = ((9223372036854775808 : Nat) : Int) from rfl, bits_u64 .and (fun x y => x &&& y) _ _ rfl, BitVec.toNat_and]
  simp only [BitVec.toNat_ofNat]
  simp only [Nat.reducePow]
  rw [Nat.mod_eq_of_lt hw, Nat.mod_eq_of_lt (by omega)]
  congr 1
  have h2 : (9223372036854775808 : Nat) = 2 ^ 63 := by decide
  unfold Ieee.Format.word
  rw [double_facts.2.2.2.1, h2]
  apply Nat.eq_of_testBit_eq
  intro i
  rw [Nat.testBit_and, Nat.testBit_two_pow]
  rw [h2] at hr
  cases s
  · simp only [Bool.false_eq_true, if_false, Nat.zero_testBit]
    by_cases hi : 63 = i
    · subst hi; rw [Nat.testBit_lt_two_pow hr]; rfl
    · simp [hi]
  · simp only [if_true, Nat.add_zero, Nat.testBit_two_pow]
    by_cases hi : 63 = i
    · subst hi
      rw [Nat.testBit_two_pow_add_eq, Nat.testBit_lt_two_pow hr]; rfl
    · simp [hi]
attribute [local irreducible] Calls
theorem or_one (s : Bool) : bits .or .u64 ((Ieee.double.word s 0 : Nat) : Int) 4607182418800017408 = ((Ieee.double.word s 4607182418800017408 : Nat) : Int) := by cases s <;> decide
theorem shr_half (e : Nat) (h : e < 52) : (2251799813685248 : Int) / 2 ^ e = ((2 ^ (51 - e) : Nat) : Int) := by
  have h1 : (2251799813685248 : Nat) / 2 ^ e = 2 ^ (51 - e) := by
    rw [show (2251799813685248 : Nat) = 2 ^ 51 by decide, Nat.pow_div (by omega) (by omega)]
  rw [← h1]
  simp
theorem shr_mask (e : Nat) (h : e < 52) : (4503599627370495 : Int) / 2 ^ e = ((2 ^ (52 - e) - 1 : Nat) : Int) := by
  have h1 : (4503599627370495 : Nat) / 2 ^ e = 2 ^ (52 - e) - 1 := by
    have hp : 0 < 2 ^ e := Nat.two_pow_pos _
    have hm : 2 ^ (52 - e) * 2 ^ e = 4503599627370496 := by rw [← Nat.pow_add, show 52 - e + e = 52 by omega]
    have ha : 0 < 2 ^ (52 - e) := Nat.two_pow_pos _
    rw [Nat.div_eq_iff hp]
    generalize 2 ^ (52 - e) = a at *
    generalize 2 ^ e = b at *
    have : (a - 1) * b = a * b - b := by rw [Nat.sub_mul, Nat.one_mul]
    omega
  rw [← h1]
  simp
theorem word_cut (s : Bool) (r h e : Nat) (he : e < 52) : Ieee.double.word s ((r + h) / 2 ^ (52 - e) * 2 ^ (52 - e)) = (Ieee.double.word s r + h) / 2 ^ (52 - e) * 2 ^ (52 - e) := by
  unfold Ieee.Format.word
  rw [double_facts.2.2.2.1]
  cases s
  · rfl
  · simp only [if_true]
    have hp : 0 < 2 ^ (52 - e) := Nat.two_pow_pos _
    have hm : 9223372036854775808 = 2 ^ (52 - e) * 2 ^ (11 + e) := by rw [← Nat.pow_add, show 52 - e + (11 + e) = 63 by omega]
    rw [hm, Nat.add_assoc, Nat.mul_add_div hp, Nat.add_mul, Nat.mul_comm (2 ^ (11 + e))]
end Go.Proofs.Ytglimhkpndfjgaa
/- What a logger keeps of a head, in the program (logged) and in the reference (l07Logged). -/
namespace Go.Proofs.Ytglimhkpndfjgaa
open Go.ChangeShapes Go.WideShapes Go.ChangeAt Go.RowKit Ieee
set_option linter.unusedVariables false
set_option linter.unusedSimpArgs false
attribute [local irreducible] Calls

theorem magW_zero : magW 0 = 0 := by simp [magW]
theorem magW_bin (e : Nat) : magW ((e + 1) * 4503599627370496) = 4503599627370496 * pw e := by
  rw [magW_ge (by omega), pw_eq, show (e + 1) * 4503599627370496 % 4503599627370496 = 0 by omega, show (e + 1) * 4503599627370496 / 4503599627370496 - 1 = e by omega]
theorem magW_one : magW 4607182418800017408 = one64 := by
  have h := magW_bin 1022
  have h2 := one64_split 52 (by omega)
  rw [show pw 52 = 4503599627370496 by rw [pw_eq], show 1074 - 52 = 1022 from rfl] at h2
  rw [h2]
  exact h
theorem toInt_i16 {z : Nat} {n : Int} (h : Val double z (n * (one64 : Int))) (h1 : -32768 ≤ n) (h2 : n ≤ 32767) : floatToIntVal .f64 z .i16 = some n := by
  unfold floatToIntVal
  have hp := one64_pos
  have e := toInt64_val h
  rw [Int.mul_tdiv_cancel _ (by omega)] at e
  rw [e]
  show (if IntKind.i16.min ≤ n ∧ n ≤ IntKind.i16.max then some n else none) = some n
  rw [if_pos ⟨h1, h2⟩]
/-! ### The reference. -/
theorem word_form (s : Bool) (r : Nat) (h : r < 9218868437227405312) : ∃ m k : Nat, double.read (double.word s r) = .number s m (-1074 + (k : Int)) ∧ m < 9007199254740992 ∧ magW r = m * 2 ^ k ∧ k ≤ r / 4503599627370496 - 1 := by
  obtain ⟨hb, hi, hl, hs, hf⟩ := double_facts
  have := read_word double s r (by rw [hs]; omega)
  rw [hb, hi, hl] at this
  by_cases h1 : r < 4503599627370496
  · rw [if_pos h1] at this
    exact ⟨r, 0, by rw [this]; simp, by omega, by unfold magW; rw [if_pos h1]; simp, by omega⟩
  · rw [if_neg h1, if_pos h] at this
    exact ⟨_, r / 4503599627370496 - 1, this, by omega, by unfold magW; rw [if_neg h1], Nat.le_refl _⟩
theorem sg_bound (s : Bool) {q : Nat} (h : q ≤ 32767) : sg s q ≤ 32767 ∧ -32767 ≤ sg s q := by
  unfold sg
  cases s
  · simp only [Bool.false_eq_true, if_false]; omega
  · simp only [if_true]; omega
theorem sg_natAbs (s : Bool) (n : Nat) : (sg s n).natAbs = n := by unfold sg; cases s <;> simp
theorem sg_of (D : Int) (s : Bool) (h : D ≠ 0 → s = decide (D < 0)) : D = sg s D.natAbs := by
  by_cases h0 : D = 0
  · subst h0; unfold sg; cases s <;> simp
  · rw [h h0]; unfold sg
    by_cases h1 : D < 0
    · rw [decide_eq_true h1, if_pos rfl]; omega
    · rw [decide_eq_false h1]; simp only [Bool.false_eq_true, if_false]; omega
/-- A difference of few digits is exact. -/
theorem sub_exact {y z : Nat} {s : Bool} {m k : Nat} {Y : Int} (hy : double.read y = .number s m (-1074 + (k : Int))) (hz : Val double z Y) (m2 : Nat) (hd : (sg s (m * 2 ^ k) - Y).natAbs = m2 * 2 ^ k) (hm2 : m2 < 9007199254740992) (hk : k ≤ 2044) :
    ∃ x, floatBits .sub .f64 y z = some x ∧ Val double x (sg s (m * 2 ^ k) - Y) := by
  obtain ⟨t, n, l, h2, rfl⟩ := hz
  rw [double_facts.2.2.1] at h2
  show ∃ x, ((double.read y).sum (double.read z).opposite).map double.write = some x ∧ _
  rw [hy, h2]
  simp only [Datum.opposite, Datum.sum, Option.map_some]
  obtain ⟨u, hu⟩ : ∃ u, u = min k l := ⟨_, rfl⟩
  have e0 : min (-1074 + (k : Int)) (-1074 + (l : Int)) = -1074 + (u : Int) := by omega
  rw [e0, show (-1074 + (k : Int) - (-1074 + (u : Int))).toNat = k - u by omega, show (-1074 + (l : Int) - (-1074 + (u : Int))).toNat = l - u by omega, signed_sg, signed_sg]
  have eD : (sg s (m * 2 ^ (k - u)) + sg (!t) (n * 2 ^ (l - u))) * (2 ^ u : Nat) = sg s (m * 2 ^ k) - sg t (n * 2 ^ l) := by
    rw [Int.add_mul, ← sg_mul, ← sg_mul, Nat.mul_assoc, Nat.mul_assoc, ← Nat.pow_add, ← Nat.pow_add, Nat.sub_add_cancel (by omega), Nat.sub_add_cancel (by omega)]
    have : sg (!t) (n * 2 ^ l) = - sg t (n * 2 ^ l) := by unfold sg; cases t <;> simp
    rw [this]; omega
  rw [← eD] at hd ⊢
  generalize sg s (m * 2 ^ (k - u)) + sg (!t) (n * 2 ^ (l - u)) = D at *
  have hA : D.natAbs = m2 * 2 ^ (k - u) := by
    rw [Int.natAbs_mul, Int.natAbs_natCast, show m2 * 2 ^ k = m2 * 2 ^ (k - u) * 2 ^ u by rw [Nat.mul_assoc, ← Nat.pow_add, Nat.sub_add_cancel (by omega)]] at hd
    exact Nat.eq_of_mul_eq_mul_right (Nat.two_pow_pos _) hd
  obtain ⟨r, g1, g2, g3⟩ := nearest_exact (if D = 0 then s && !t else decide (D < 0)) m2 (k - u) u hm2 (by omega)
  refine ⟨_, rfl, ?_⟩
  show Val double (double.nearest (if D = 0 then s && !t else decide (D < 0)) D.natAbs (-1074 + (u : Int))) _
  rw [hA, g1]
  have := val_word (if D = 0 then s && !t else decide (D < 0)) r g2
  rw [g3, Nat.pow_add, ← Nat.mul_assoc, ← hA, sg_mul, ← sg_of D _ (fun h => by rw [if_neg h])] at this
  exact this
theorem rnd_split (M H : Nat) (h : one64 = 2 * H) : rnd M = M / one64 + if H ≤ M % one64 then 1 else 0 := by
  have hp := one64_pos
  have hdm := Nat.div_add_mod M one64
  have hlt := Nat.mod_lt M hp
  unfold rnd
  generalize M % one64 = ρ at *
  generalize M / one64 = q at *
  have e : 2 * M + one64 = 2 * one64 * q + (2 * ρ + one64) := by rw [← hdm, Nat.mul_add, Nat.mul_assoc]; omega
  rw [e, Nat.mul_add_div (by omega)]
  congr 1
  by_cases h1 : H ≤ ρ
  · rw [if_pos h1, Nat.div_eq_iff (by omega)]; omega
  · rw [if_neg h1, Nat.div_eq_iff (by omega)]; omega
/-- What is left of a number where its whole part is taken away. -/
theorem rest_val (s : Bool) (r : Nat) (hr : r < 9218868437227405312) (he : r / 4503599627370496 < 1075) (hq : magW r / one64 < 9007199254740992) :
    ∃ x, floatBits .sub .f64 (double.word s r) (floatOfInt .f64 (sg s (magW r / one64))) = some x ∧ Val double x (sg s (magW r % one64)) := by
  obtain ⟨m, k, h1, h2, h3, h4⟩ := word_form s r hr
  have hfn : Val double (floatOfInt .f64 (sg s (magW r / one64))) (sg s (magW r / one64) * (one64 : Int)) := by
    generalize magW r / one64 = q at *
    show Val double (double.nearest (decide (sg s q < 0)) (sg s q).natAbs 0) _
    obtain ⟨c, hc⟩ : ∃ c : Nat, c = 1074 := ⟨_, rfl⟩
    have hone : one64 = pw c := by rw [hc]; rfl
    obtain ⟨r', g1, g2, g3⟩ := nearest_exact (decide (sg s q < 0)) q 0 c hq (by omega)
    rw [Nat.pow_zero, Nat.mul_one, show (-1074 + (c : Int)) = 0 by omega] at g1
    rw [sg_natAbs, g1]
    have := val_word (decide (sg s q < 0)) r' g2
    rw [g3, Nat.zero_add, ← pw_eq, ← hone, sg_mul] at this
    have e : sg (decide (sg s q < 0)) q = sg s q := by
      have := sg_of (sg s q) (decide (sg s q < 0)) (fun _ => rfl)
      rw [sg_natAbs] at this
      exact this.symm
    rw [e] at this
    exact this
  have hd : sg s (m * 2 ^ k) - sg s (magW r / one64) * (one64 : Int) = sg s (magW r % one64) := by
    rw [← h3, ← sg_mul]
    have := Nat.div_add_mod (magW r) one64
    rw [Nat.mul_comm] at this
    unfold sg
    cases s
    · simp only [Bool.false_eq_true, if_false]; omega
    · simp only [if_true]; omega
  have ho : one64 = 2 ^ k * 2 ^ (1074 - k) := by rw [one64_split k (by omega), pw_eq, pw_eq]
  have hm : magW r % one64 = m % 2 ^ (1074 - k) * 2 ^ k := by
    rw [h3, ho, Nat.mul_comm m, Nat.mul_mod_mul_left, Nat.mul_comm]
  obtain ⟨x, g1, g2⟩ := sub_exact h1 hfn (m % 2 ^ (1074 - k)) (by rw [hd, sg_natAbs, hm]) (Nat.lt_of_le_of_lt (Nat.mod_le _ _) h2) (by omega)
  rw [hd] at g2
  exact ⟨x, g1, g2⟩

theorem order_f64_ge {a b : Nat} {x y : Int} (ha : Val double a x) (hb : Val double b y) : (FloatKind.f64.format.order a b == some .gt || FloatKind.f64.format.order a b == some .eq) = decide (y ≤ x) := order_ge ha hb
theorem order_f64_le {a b : Nat} {x y : Int} (ha : Val double a x) (hb : Val double b y) : (FloatKind.f64.format.order a b == some .lt || FloatKind.f64.format.order a b == some .eq) = decide (x ≤ y) := order_le ha hb
theorem lgv_pos {s : Bool} {r : Nat} (h : 32767 * (one64 : Int) ≤ sg s (magW r)) : lgv s r = 32767 := by
  have hp := one64_pos
  have hr := rnd_split
  unfold sg at h
  cases s
  · simp only [Bool.false_eq_true, if_false] at h
    have : 32767 ≤ rnd (magW r) := by
      unfold rnd
      rw [Nat.le_div_iff_mul_le (by omega)]
      have : 32767 * one64 ≤ magW r := by omega
      omega
    unfold lgv sg
    simp only [Bool.false_eq_true, if_false]
    omega
  · simp only [if_true] at h; omega
theorem lgv_neg {s : Bool} {r : Nat} (h : sg s (magW r) ≤ -32768 * (one64 : Int)) : lgv s r = -32768 := by
  have hp := one64_pos
  unfold sg at h
  cases s
  · simp only [Bool.false_eq_true, if_false] at h; omega
  · simp only [if_true] at h
    have : 32768 ≤ rnd (magW r) := by
      unfold rnd
      rw [Nat.le_div_iff_mul_le (by omega)]
      have : 32768 * one64 ≤ magW r := by omega
      omega
    unfold lgv sg
    simp only [if_true]
    omega
theorem clamp_mid {x : Int} (h1 : -32768 ≤ x) (h2 : x ≤ 32767) : max (min x 32767) (-32768) = x := by rw [Int.min_eq_left h2, Int.max_eq_left h1]
/-- The number that the reference ends with, between both bounds. -/
theorem lgv_mid {s : Bool} {r H : Nat} (hH : one64 = 2 * H) (h1 : ¬ 32767 * (one64 : Int) ≤ sg s (magW r)) (h2 : ¬ sg s (magW r) ≤ -32768 * (one64 : Int)) :
    magW r / one64 ≤ 32767 ∧ -32768 ≤ lgv s r ∧ lgv s r ≤ 32767 ∧ lgv s r = sg s (magW r / one64) + (if (H : Int) ≤ sg s (magW r % one64) then 1 else 0) - (if sg s (magW r % one64) ≤ -(H : Int) then 1 else 0) := by
  have hp := one64_pos
  have hs := rnd_split (magW r) H hH
  have hdm := Nat.div_add_mod (magW r) one64
  have hlt := Nat.mod_lt (magW r) hp
  have hq : magW r / one64 ≤ 32767 := by
    have : magW r < 32768 * one64 := by
      unfold sg at h1 h2
      cases s
      · simp only [Bool.false_eq_true, if_false] at h1; omega
      · simp only [if_true] at h2; omega
    have := (Nat.div_lt_iff_lt_mul hp).2 this
    omega
  have hq2 : s = false → magW r / one64 ≤ 32766 := by
    intro h; subst h
    unfold sg at h1
    simp only [Bool.false_eq_true, if_false] at h1
    have : magW r < 32767 * one64 := by omega
    have := (Nat.div_lt_iff_lt_mul hp).2 this
    omega
  refine ⟨hq, by unfold lgv; omega, by unfold lgv; omega, ?_⟩
  unfold lgv
  rw [hs]
  generalize magW r % one64 = ρ at *
  generalize magW r / one64 = q at *
  clear h1 h2 hs hdm
  unfold sg
  cases s
  · have hq3 := hq2 rfl
    clear hq2
    simp only [Bool.false_eq_true, if_false]
    by_cases h : H ≤ ρ
    · rw [if_pos h, if_pos (show (H : Int) ≤ ρ by omega), if_neg (by omega), clamp_mid (by omega) (by omega)]; omega
    · rw [if_neg h, if_neg (show ¬ (H : Int) ≤ ρ by omega), if_neg (by omega), clamp_mid (by omega) (by omega)]; omega
  · clear hq2
    simp only [if_true]
    by_cases h : H ≤ ρ
    · rw [if_pos h, if_neg (by omega), if_pos (by omega), clamp_mid (by omega) (by omega)]; omega
    · rw [if_neg h, if_neg (by omega), if_neg (by omega), clamp_mid (by omega) (by omega)]; omega
end Go.Proofs.Ytglimhkpndfjgaa
