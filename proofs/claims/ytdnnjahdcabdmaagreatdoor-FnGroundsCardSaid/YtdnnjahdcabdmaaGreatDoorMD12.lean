import Derived.Test.YtdnnjahdcabdmaaGreatDoorMD08
import Derived.Test.YtdnnjahdcabdmaaGreatDoorMD11
import Derived.Laws.Externs
import Derived.Test.YtdnnjahdcabdmaaGreatDoorMD03
/- Sizes of numbers, and the greatest of several: plain laws on words; no statement is proved here. -/
namespace Go.Proofs.YtdnnjahdcabdmaaGreatDoor
open Go.ChangeShapes Go.WideShapes Go.ChangeAt Go.RowKit Ieee
set_option linter.unusedVariables false
set_option linter.unusedSimpArgs false

theorem read_f32 (b : Nat) : FloatKind.f32.format.read b = single.read b := rfl
theorem plain_read {a : Nat} (h : plain a = true) : ∃ s m e, single.read a = .number s m e := by
  unfold plain at h
  obtain ⟨h1, h2⟩ := Bool.and_eq_true_iff.1 h
  have c1 : single.read 3380609024 = .number true 8388608 (-3) := by decide
  have c2 : single.read 1233125376 = .number false 8388608 (-3) := by decide
  unfold fge at h1
  unfold fle at h2
  unfold Format.order at h1 h2
  simp only [read_f32, c1, c2] at h1 h2
  cases hr : single.read a with
  | nan s f => rw [hr] at h1; simp [Datum.order] at h1
  | number s m e => exact ⟨s, m, e, rfl⟩
  | infinity s =>
    rw [hr] at h1 h2
    cases s <;> simp [Datum.order] at h1 h2
theorem isN_word (s : Bool) (r : Nat) (h : r ≤ 2139095040) : isN .f32 (single.word s r) = false := by
  obtain ⟨hb, hi, hl, hs, hf⟩ := single_facts
  unfold isN
  rw [read_f32, read_word _ _ _ (by rw [hs]; omega), hb, hi, hl]
  split
  · rfl
  · split
    · rfl
    · rw [if_pos (by omega)]; rfl
theorem isN_nearest (s : Bool) (m : Nat) (e : Int) : isN .f32 (single.nearest s m e) = false := by
  unfold Format.nearest
  split
  · exact isN_word _ _ (by omega)
  · exact isN_word _ _ (Nat.min_le_right _ _)
theorem sub_plain {a b : Nat} (ha : plain a = true) (hb : plain b = true) : ∃ r, floatBits .sub .f32 a b = some r ∧ isN .f32 r = false ∧ r < 4294967296 := by
  obtain ⟨s, m, e, h1⟩ := plain_read ha
  obtain ⟨s', m', e', h2⟩ := plain_read hb
  have h3 : floatBits .sub .f32 a b = single.sub a b := rfl
  cases hr : floatBits .sub .f32 a b with
  | none =>
    rw [h3] at hr
    unfold Format.sub at hr
    rw [h1, h2] at hr
    simp [Datum.opposite, Datum.sum] at hr
  | some r =>
    refine ⟨r, rfl, ?_, ?_⟩
    · rw [h3] at hr
      unfold Format.sub at hr
      rw [h1, h2] at hr
      simp only [Datum.opposite, Datum.sum, Option.map_some, Option.some.injEq] at hr
      rw [← hr]
      exact isN_nearest _ _ _
    · rw [h3] at hr
      have := single.sub_lt hr
      exact this
theorem fop_sub_plain {a b : Nat} (ha : plain a = true) (hb : plain b = true) : isN .f32 (fop .sub a b) = false ∧ fop .sub a b < 4294967296 := by
  obtain ⟨r, h1, h2, h3⟩ := sub_plain ha hb
  have : fop .sub a b = r := by unfold fop; rw [h1]; exact cn_num h2
  rw [this]; exact ⟨h2, h3⟩
theorem word_split {b : Nat} (hlt : b < 4294967296) : b = single.word (b / 2147483648 % 2 == 1) (b % 2147483648) := by
  unfold Format.word
  rw [single_facts.2.2.2.1]
  by_cases h : b < 2147483648
  · rw [show b / 2147483648 = 0 by omega, show b % 2147483648 = b by omega]; rfl
  · rw [show b / 2147483648 = 1 by omega]
    simp only [if_true, show (1 % 2 == 1) = true from rfl]
    omega
theorem read_sign (b : Nat) : (single.read b).neg = (b / 2147483648 % 2 == 1) := by
  unfold Format.read
  rw [single_facts.2.2.2.1]
  simp only
  split
  · rfl
  · split
    · rfl
    · split <;> rfl
theorem read_zero : single.read 0 = .number false 0 (-149) := by decide
theorem signed_zero (s : Bool) (u : Nat) : signed s 0 u = 0 := by unfold signed; cases s <;> simp
theorem signed_pos {m : Nat} (h : m ≠ 0) (u : Nat) : 0 < signed false m u := by
  unfold signed; simp only [Bool.false_eq_true, if_false, Nat.shiftLeft_eq]
  have : 0 < m * 2 ^ u := Nat.mul_pos (by omega) (Nat.two_pow_pos _)
  omega
theorem signed_neg {m : Nat} (h : m ≠ 0) (u : Nat) : signed true m u < 0 := by
  unfold signed; simp only [if_true, Nat.shiftLeft_eq]
  have : 0 < m * 2 ^ u := Nat.mul_pos (by omega) (Nat.two_pow_pos _)
  omega
/-- When a number is at most nothing. -/
theorem fle_zero {b : Nat} (hn : isN .f32 b = false) : fle b 0 = true ↔ (∃ e, single.read b = .infinity true ∧ e = 0) ∨ ∃ s m e, single.read b = .number s m e ∧ (s = true ∨ m = 0) := by
  unfold fle Format.order
  simp only [read_f32, read_zero]
  have hn' : (single.read b).isNaN = false := hn
  cases hr : single.read b with
  | nan s f => rw [hr] at hn'; cases hn'
  | infinity s => cases s <;> simp [Datum.order]
  | number s m e =>
    simp only [Datum.order, signed_zero]
    by_cases h0 : m = 0
    · subst h0; simp [signed_zero]
    · cases s
      · have := signed_pos h0 (e - min e (-149)).toNat
        have hc : compare (signed false m (e - min e (-149)).toNat) 0 = .gt := by rw [Int.compare_eq_gt]; exact this
        simp [hc, h0]
      · have := signed_neg h0 (e - min e (-149)).toNat
        have hc : compare (signed true m (e - min e (-149)).toNat) 0 = .lt := by rw [Int.compare_eq_lt]; exact this
        simp [hc]
/-- '0 - a' of a number that is at most nothing. -/
theorem size_sub {b : Nat} (hn : isN .f32 b = false) (h : fle b 0 = true) : floatBits .sub .f32 0 b = some (fab b) := by
  have h3 : floatBits .sub .f32 0 b = single.sub 0 b := rfl
  rw [h3]
  unfold Format.sub
  rw [read_zero]
  rcases (fle_zero hn).1 h with ⟨_, hr, _⟩ | ⟨s, m, e, hr, hs⟩
  · rw [hr, single_inf hr]; decide
  · rw [hr]
    simp only [Datum.opposite, Datum.sum, Option.map_some, Option.some.injEq]
    have hrange := single_range hr
    show single.nearest _ _ _ = _
    rw [signed_zero, Int.zero_add]
    by_cases h0 : m = 0
    · subst h0
      rw [zero_mag hr, signed_zero]
      rfl
    · obtain rfl : s = true := by rcases hs with h | h
                                  · exact h
                                  · exact absurd h h0
      have hp := signed_pos h0 (e - min (-149) e).toNat
      simp only [Bool.not_true]
      rw [if_neg (by omega), show min (-149 : Int) e = -149 by omega]
      have e1 : decide (signed false m (e - -149).toNat < 0) = false := decide_eq_false (by have := signed_pos h0 (e - -149).toNat; omega)
      have e2 : (signed false m (e - -149).toNat).natAbs = m <<< (e - -149).toNat := by unfold signed; simp only [Bool.false_eq_true, if_false]; exact Int.natAbs_natCast _
      rw [e1, e2]
      have := nearest_word single (by decide) b true false m e (e - -149).toNat hr
      rw [show e - (((e - -149).toNat : Nat) : Int) = -149 by omega] at this
      rw [this, single_facts.2.2.2.1]
      rfl
/-- A number that is more than nothing is its own size. -/
theorem size_pos {b : Nat} (hn : isN .f32 b = false) (hlt : b < 4294967296) (h : fle b 0 = false) : fab b = b := by
  have hs : (single.read b).neg = false := by
    cases hr : single.read b with
    | nan s f => have hn' : (single.read b).isNaN = false := hn; rw [hr] at hn'; cases hn'
    | infinity s => cases s
                    · rfl
                    · rw [(fle_zero hn).2 (.inl ⟨0, hr, rfl⟩)] at h; cases h
    | number s m e => cases s
                      · rfl
                      · rw [(fle_zero hn).2 (.inr ⟨true, m, e, hr, .inl rfl⟩)] at h; cases h
  rw [read_sign] at hs
  unfold fab
  simp at hs
  omega
theorem isN_fab {b : Nat} (h : isN .f32 b = false) : isN .f32 (fab b) = false := by
  unfold isN at h ⊢
  rw [read_f32] at h ⊢
  unfold Format.read at h ⊢
  obtain ⟨hb, hi, hl, hs, hf⟩ := single_facts
  have e6 : fab b % single.signWeight = b % single.signWeight := by rw [hs]; unfold fab; omega
  rw [e6]
  generalize b % single.signWeight = r at *
  simp only [hb, hi, hl] at h ⊢
  split
  · rfl
  · split
    · rfl
    · split
      · rfl
      · rename_i h1 h2 h3
        rw [if_neg h1, if_neg h2, if_neg h3] at h
        cases h

/-! ### The greatest change. -/
/-- What a cell has more behind a sweep. -/
def dif (g g' : Gr) (k : Nat) : Nat := fop .sub (g'.hea k) (g.hea k)
/-- The greatest size among the first k cells. -/
def mostTo (g g' : Gr) : Nat → Nat
  | 0 => fab (dif g g' 0)
  | k + 1 => if isC g (k + 1) && fgt (fab (dif g g' (k + 1))) (mostTo g g' k) then fab (dif g g' (k + 1)) else mostTo g g' k
def most (g g' : Gr) : Nat := mostTo g g' 63
end Go.Proofs.YtdnnjahdcabdmaaGreatDoor
/- Sizes of numbers, and whether a ground is still: the walks. -/
namespace Go.Proofs.YtdnnjahdcabdmaaGreatDoor
open Go.ChangeShapes Go.WideShapes Go.ChangeAt Go.RowKit
set_option linter.unusedVariables false
set_option linter.unusedSimpArgs false
attribute [local irreducible] Calls

theorem run_f64bits (b : Nat) (w : World) : (callFunc 151 #[.float .f64 b]).run Tryz.prog w = .ok (.value (.int .u64 b)) w := by
  rw [run_callFunc_extern Tryz.func151 (by kernel_rfl) (by kernel_rfl) (by kernel_rfl) (e := Extern.MathFloatBits.float64bits) (by kernel_rfl)]
  rfl
theorem run_f64from (n : Int) (w : World) : (callFunc 153 #[.int .u64 n]).run Tryz.prog w = .ok (.value (.float .f64 n.toNat)) w := by
  rw [run_callFunc_extern Tryz.func153 (by kernel_rfl) (by kernel_rfl) (by kernel_rfl) (e := Extern.MathFloatBits.float64frombits) (by kernel_rfl)]
  rfl
/-- The sign bit struck from a wide word. -/
theorem andNot_sign (b : Nat) (h : b < 18446744073709551616) : bits .andNot .u64 (b : Int) 9223372036854775808 = ((b % 9223372036854775808 : Nat) : Int) := by
  have h0 : bits .andNot .u64 (b : Int) 9223372036854775808 = IntKind.u64.wrap ((BitVec.ofInt 64 (b : Int) &&& ~~~ BitVec.ofInt 64 (9223372036854775808 : Int)).toNat : Int) := rfl
  rw [h0, IntKind.wrap_u64]
  have h1 : BitVec.ofInt 64 (b : Int) = BitVec.ofNat 64 b := by simp
  have h2 : BitVec.ofInt 64 (9223372036854775808 : Int) = BitVec.ofNat 64 9223372036854775808 := by decide
  have h3 : ~~~ (BitVec.ofNat 64 9223372036854775808) = BitVec.ofNat 64 9223372036854775807 := by decide
  rw [h1, h2, h3]
  rw [BitVec.toNat_and]
  simp only [BitVec.toNat_ofNat]
  rw [Nat.mod_eq_of_lt (by omega), Nat.mod_eq_of_lt (by omega)]
  have h4 : b &&& 9223372036854775807 = b % 9223372036854775808 := by
    have := Nat.and_two_pow_sub_one_eq_mod b 63
    simpa using this
  rw [h4]
  omega
theorem widen_lt {b : Nat} (h : isN .f32 b = false) : widen b < 18446744073709551616 := by
  unfold widen
  rw [h]
  exact Ieee.Format.write_lt Ieee.double _
set_option maxRecDepth 100000 in
set_option maxHeartbeats 400000 in
theorem mathAbs_any (b : Nat) (hb : b < 18446744073709551616) (w : World) :
    Calls Tryz.prog 203 #[.float .f64 b] w fun e w' => e = .returned (.float .f64 (b % 9223372036854775808)) ∧ w' = w := by
  have h1 := fun w' => run_f64bits b w'
  have h2 : ∀ w', (callFunc 153 #[.int .u64 ((b : Int) % 9223372036854775808)]).run Tryz.prog w' = .ok (.value (.float .f64 (b % 9223372036854775808))) w' := fun w' => by
    rw [run_f64from, show ((b : Int) % 9223372036854775808).toNat = b % 9223372036854775808 by omega]
  have h3 : bits .andNot .u64 (b : Int) 9223372036854775808 = (b : Int) % 9223372036854775808 := (andNot_sign b hb).trans (by omega)
  go_enter Tryz.func203, Tryz.ntmps203
  go_wp2_with fail
  go_ret
  exact ⟨rfl, rfl⟩
theorem run_narrow_conv {P : Program} (src dst : TypeId) (b r : Nat) (hs : P.underlying src = some (.float .f64)) (hd : P.underlying dst = some (.float .f32)) (h : floatToFloatBits .f64 b .f32 = some r) (w : World) : (convert src dst (.float .f64 b)).run P w = .ok (.float .f32 r) w := by
  simp [convert, run_underlying hs, run_underlying hd, run_floatToFloat w h]
theorem run_widen_num {P : Program} (src dst : TypeId) (b : Nat) (hs : P.underlying src = some (.float .f32)) (hd : P.underlying dst = some (.float .f64)) (h : isN .f32 b = false) (w : World) : (convert src dst (.float .f32 b)).run P w = .ok (.float .f64 (widen b)) w := by
  rw [run_convert_widen w src dst b hs hd]
  have h1 : fwid b w = widen b := by unfold fwid; rw [h]; rfl
  have h2 : wcnt b = 0 := by unfold wcnt; rw [h]; rfl
  rw [h1, h2, World.drewN_zero]
set_option maxRecDepth 100000 in
set_option maxHeartbeats 400000 in
theorem size_any (b : Nat) (h : isN .f32 b = false) (w : World) :
    Calls Tryz.prog 199 #[.float .f32 b] w fun e w' => e = .returned (.float .f32 (fab b)) ∧ w' = w := by
  have h1 := fun w' => run_widen_num (P := Tryz.prog) 25 169 b Tryz.underlying25 Tryz.underlying169 h w'
  have h2 := fun w' => run_narrow_conv (P := Tryz.prog) 169 25 _ _ Tryz.underlying169 Tryz.underlying25 (narrow_abs b h) w'
  have h3 := fun w' => mathAbs_any (widen b) (widen_lt h) w'
  clear h
  go_enter Tryz.func199, Tryz.ntmps199
  go_wp2_with (go_at_call 203; refine (h3 _).mono ?_; rintro e w' ⟨rfl, hw⟩; rw [hw]; clear hw w')
  go_ret
  exact ⟨rfl, rfl⟩

/-- Two words that stand for the same. -/
theorem fle_rd {a a' : Nat} (h : Ieee.single.read a = Ieee.single.read a') (x : Nat) : fle a x = fle a' x := by
  unfold fle Ieee.Format.order; simp only [read_f32, h]
theorem fgt_rd {a a' b b' : Nat} (h : Ieee.single.read a = Ieee.single.read a') (h' : Ieee.single.read b = Ieee.single.read b') : fgt a b = fgt a' b' := by
  unfold fgt Ieee.Format.order; simp only [read_f32, h, h']
theorem isN_rd {a a' : Nat} (h : Ieee.single.read a = Ieee.single.read a') : isN .f32 a = isN .f32 a' := by
  unfold isN; simp only [read_f32, h]
theorem size_read {b : Nat} (hn : isN .f32 b = false) (h : fle b 0 = false) : Ieee.single.read b = Ieee.single.read (fab b) := by
  have hs : (Ieee.single.read b).neg = false := by
    cases hr : Ieee.single.read b with
    | nan s f => have hn' : (Ieee.single.read b).isNaN = false := hn; rw [hr] at hn'; cases hn'
    | infinity s => cases s
                    · rfl
                    · rw [(fle_zero hn).2 (.inl ⟨0, hr, rfl⟩)] at h; cases h
    | number s m e => cases s
                      · rfl
                      · rw [(fle_zero hn).2 (.inr ⟨true, m, e, hr, .inl rfl⟩)] at h; cases h
  rw [read_sign] at hs
  have hf : (fab b / 2147483648 % 2 == 1) = false := by
    have : fab b / 2147483648 % 2 = 0 := by unfold fab; omega
    rw [this]; rfl
  unfold Ieee.Format.read
  have e1 : Ieee.single.signWeight = 2147483648 := single_facts.2.2.2.1
  rw [e1, hs, hf]
  have e2 : fab b % 2147483648 = b % 2147483648 := by unfold fab; omega
  rw [e2]
set_option maxRecDepth 100000 in
set_option maxHeartbeats 400000 in
theorem l01Size_any (b : Nat) (h : isN .f32 b = false) (w : World) :
    Calls Tryz.prog 201 #[.float .f32 b] w fun e w' => ∃ r, e = .returned (.float .f32 r) ∧ Ieee.single.read r = Ieee.single.read (fab b) ∧ w' = w := by
  have h1 := fle_eq b 0
  cases hz : fle b 0 <;> rw [hz] at h1
  · have HR := Lib.hid (size_read h hz)
    clear h hz
    go_enter Tryz.func201, Tryz.ntmps201
    go_wp2_with fail
    go_ret
    exact ⟨b, rfl, HR.out, rfl⟩
  · have h2 := fun w' => run_float_arith (P := Tryz.prog) w' .sub 25 .f32 0 b _ (size_sub h hz)
    clear h hz
    go_enter Tryz.func201, Tryz.ntmps201
    go_wp2_with fail
    go_ret
    exact ⟨fab b, rfl, rfl, rfl⟩

theorem fin_num {b : Nat} (h : fin b = true) : isN .f32 b = false := by
  cases hn : isN .f32 b
  · rfl
  · unfold fin at h
    have h2 := feq_num h
    have h3 : isN .f32 (fop .sub b b) = true := by unfold fop; rw [bits_nan_left hn, isN_cn]; exact isN_qn _
    rw [h3] at h2; cases h2

/-- Are the balances of all cells that are not fixed small? -/
def stillG (g : Gr) (small : Nat) : Bool := (freeL g).all fun k => fle (fab (bal g k)) small
theorem bals_num {g : Gr} (h : balsOk g = true) {k : Nat} (hk : k < 64) (hc : isC g k = true) : isN .f32 (bal g k) = false := by
  unfold balsOk at h
  have h1 := anyTo_false.1 (by simpa using h) k hk
  unfold notFin at h1
  rw [hc] at h1
  exact fin_num (by simpa using h1)
theorem bals_eq {g : Gr} {ff : Nat → Nat} (h : balsOk g = true) (hff : ∀ k, k < 64 → cn (ff k) = cn (balF g k)) {k : Nat} (hk : k < 64) (hc : isC g k = true) : ff k = bal g k := by
  have h1 := hff k hk
  unfold balF at h1
  rw [hc] at h1
  exact al_eq h1 (bals_num h hk hc)
theorem stillG_any {g : Gr} {small : Nat} : stillG g small = !anyTo (fun k => (isC g k && !isFx g k) && !fle (fab (bal g k)) small) (fun i => i) 64 := by
  apply Bool.eq_iff_iff.2
  unfold stillG
  simp only [List.all_eq_true, Bool.not_eq_true', anyTo_false, freeL_mem]
  constructor
  · intro h i hi
    cases hc : isC g i
    · rfl
    · cases hf : isFx g i
      · simp [h i ⟨⟨hi, hc⟩, hf⟩]
      · rfl
  · rintro h k ⟨⟨hk, hc⟩, hf⟩
    have := h k hk
    rw [hc, hf] at this
    simpa using this

end Go.Proofs.YtdnnjahdcabdmaaGreatDoor
/- Steps until a ground is still: StepsUntilStill in the program and in the reference. -/
namespace Go.Proofs.YtdnnjahdcabdmaaGreatDoor
open Go.ChangeShapes Go.WideShapes Go.ChangeAt Go.RowKit
set_option linter.unusedVariables false
set_option linter.unusedSimpArgs false
attribute [local irreducible] Calls

/-- A function of three results, the first a row in memory. -/
theorem bodyPost_row3 {P : Program} {fn : Func} {R : Ending → World → Prop} {a : Act} {w : World} {p u v : Tmp} {ty t : TypeId} {b n : Nat} {C : Array Value} (hf : fn.results = #[.cell p ty, .tmp u, .tmp v]) (hp : a.tmps.getD p undef = .pointer (some ⟨b, 0, none⟩)) (hr : RowTy P ty n) (hb : Blk w b C t) (hs : C.size = n) (hd : a.defers = [])
    (hR : R (.returned (.tuple #[.agg C, a.tmps.getD u undef, a.tmps.getD v undef])) w) : bodyPost P fn R .ret a w := by
  obtain ⟨d, hu, hd', hi⟩ := hr
  have hl := run_loadVar_row (P := P) w b t ty C (0, 0) d hb hu (by cases d <;> simp_all) (by rw [hi, hs])
  refine bodyPost_ret (v := .tuple #[.agg C, a.tmps.getD u undef, a.tmps.getD v undef]) ?_ hd hR
  have hp' : a.tmps[p]?.getD undef = .pointer (some ⟨b, 0, none⟩) := by simpa using hp
  simp [results, hf, hp', asAddr, hl]

/-- What comes of a ground that goes on until it is still, l steps being left. -/
def until_ (part small : Nat) : Nat → Int → Gr → Gr × Int × Int
  | 0, n, G => if balsOk G then (if stillG G small then (G, n, 0) else (zeroG, 0, 7)) else (zeroG, 0, 4)
  | l + 1, n, G => if balsOk G then (if stillG G small then (G, n, 0) else if stepIs G part then until_ part small l (n + 1) (stepG G part) else (zeroG, 0, 4)) else (zeroG, 0, 4)
theorem until_bad {part small : Nat} {G : Gr} (h : balsOk G = false) (l : Nat) (n : Int) : until_ part small l n G = (zeroG, 0, 4) := by cases l <;> simp [until_, h]
theorem until_still {part small : Nat} {G : Gr} (h : balsOk G = true) (h2 : stillG G small = true) (l : Nat) (n : Int) : until_ part small l n G = (G, n, 0) := by cases l <;> simp [until_, h, h2]
theorem until_end {part small : Nat} {G : Gr} (h : balsOk G = true) (h2 : stillG G small = false) (n : Int) : until_ part small 0 n G = (zeroG, 0, 7) := by simp [until_, h, h2]
theorem until_step {part small : Nat} {G : Gr} (h : balsOk G = true) (h2 : stillG G small = false) (h3 : stepIs G part = true) (l : Nat) (n : Int) : until_ part small (l + 1) n G = until_ part small l (n + 1) (stepG G part) := by simp [until_, h, h2, h3]
theorem until_fail {part small : Nat} {G : Gr} (h : balsOk G = true) (h2 : stillG G small = false) (h3 : stepIs G part = false) (l : Nat) (n : Int) : until_ part small (l + 1) n G = (zeroG, 0, 4) := by simp [until_, h, h2, h3]
def untilT (g : Gr) (part small : Nat) (n : Int) : Gr × Int × Int :=
  if validG g && plain part && plain small then (if isStp n then until_ part small n.toNat 0 g else (zeroG, 0, 2)) else (zeroG, 0, 1)

end Go.Proofs.YtdnnjahdcabdmaaGreatDoor
/- LoggedLevels, in the program and in the reference, over what is kept of one head (lg). -/
namespace Go.Proofs.YtdnnjahdcabdmaaGreatDoor
open Go.ChangeShapes Go.WideShapes Go.ChangeAt Go.RowKit
set_option linter.unusedVariables false
set_option linter.unusedSimpArgs false
attribute [local irreducible] Calls

def updI (f : Nat → Int) (k : Nat) (x : Int) : Nat → Int := fun i => if i = k then x else f i
theorem i16s_set (n : Nat) (f : Nat → Int) (k : Nat) (x : Int) (hk : k < n) : (i16s n f).setIfInBounds k (.int .i16 x) = i16s n (updI f k x) := by
  apply Array.ext_getElem?
  intro i
  rw [Array.getElem?_setIfInBounds]
  by_cases hi : i < n
  · rw [i16s_get n (updI f k x) i hi]
    by_cases h : k = i
    · subst h; rw [if_pos rfl, if_pos (by rw [i16s_size]; exact hk)]; unfold updI; rw [if_pos rfl]
    · rw [if_neg h, i16s_get n f i hi]; unfold updI; rw [if_neg (Ne.symm h)]
  · rw [Array.getElem?_eq_none (by rw [i16s_size]; omega), if_neg (by omega), Array.getElem?_eq_none (by rw [i16s_size]; omega)]
theorem i16s_congr {n : Nat} {f f' : Nat → Int} (h : ∀ i, i < n → f i = f' i) : i16s n f = i16s n f' := by
  apply Array.ext_getElem?
  intro i
  by_cases hi : i < n
  · rw [i16s_get n _ i hi, i16s_get n _ i hi, h i hi]
  · rw [Array.getElem?_eq_none (by rw [i16s_size]; omega), Array.getElem?_eq_none (by rw [i16s_size]; omega)]
/-- What the loggers keep of a ground. -/
def levF (lg : Nat → Int) (g : Gr) (k : Nat) : Int := if validG g && isC g k then lg (g.hea k) else 0
def levC (g : Gr) : Int := if validG g then 0 else 1

end Go.Proofs.YtdnnjahdcabdmaaGreatDoor
/- What a logger keeps of a head: math.Round walked through its bits. -/
namespace Go.Proofs.YtdnnjahdcabdmaaGreatDoor
open Go.ChangeShapes Go.WideShapes Go.ChangeAt Go.RowKit
set_option linter.unusedVariables false
set_option linter.unusedSimpArgs false

theorem bits_u64 (op : BinOp) (f : BitVec 64 → BitVec 64 → BitVec 64) (a b : Nat) (h : bits op .u64 (a : Int) (b : Int) = IntKind.u64.wrap ((f (BitVec.ofInt 64 (a : Int)) (BitVec.ofInt 64 (b : Int))).toNat : Int)) : bits op .u64 (a : Int) (b : Int) = (((f (BitVec.ofNat 64 a) (BitVec.ofNat 64 b)).toNat : Nat) : Int) := by
  rw [h, IntKind.wrap_u64, show BitVec.ofInt 64 (a : Int) = BitVec.ofNat 64 a by simp, show BitVec.ofInt 64 (b : Int) = BitVec.ofNat 64 b by simp]
  have := (f (BitVec.ofNat 64 a) (BitVec.ofNat 64 b)).isLt
  simp only [Nat.reducePow] at this
  omega
theorem and_low (a k : Nat) (hk : k ≤ 64) (ha : a < 18446744073709551616) : bits .and .u64 (a : Int) ((2 ^ k - 1 : Nat) : Int) = ((a % 2 ^ k : Nat) : Int) := by
  rw [bits_u64 .and (fun x y => x &&& y) a (2 ^ k - 1) rfl, BitVec.toNat_and]
  simp only [BitVec.toNat_ofNat]
  have h1 : 2 ^ k ≤ 2 ^ 64 := Nat.pow_le_pow_right (by omega) hk
  have h2 : 0 < 2 ^ k := Nat.two_pow_pos _
  simp only [Nat.reducePow] at h1 ⊢
  rw [Nat.mod_eq_of_lt ha, Nat.mod_eq_of_lt (by omega), Nat.and_two_pow_sub_one_eq_mod]
theorem andNot_low (a k : Nat) (hk : k ≤ 64) (ha : a < 18446744073709551616) : bits .andNot .u64 (a : Int) ((2 ^ k - 1 : Nat) : Int) = ((a / 2 ^ k * 2 ^ k : Nat) : Int) := by
  rw [bits_u64 .andNot (fun x y => x &&& ~~~ y) a (2 ^ k - 1) rfl]
  have h1 : 2 ^ k ≤ 2 ^ 64 := Nat.pow_le_pow_right (by omega) hk
  have h2 : 0 < 2 ^ k := Nat.two_pow_pos _
  congr 1
  apply Nat.eq_of_testBit_eq
  intro i
  rw [BitVec.toNat_and]
  simp only [BitVec.toNat_not, BitVec.toNat_ofNat]
  rw [Nat.mod_eq_of_lt (show a < 2 ^ 64 by simpa using ha), Nat.mod_eq_of_lt (show 2 ^ k - 1 < 2 ^ 64 by omega)]
  rw [Nat.testBit_and, Nat.testBit_mul_two_pow, Nat.testBit_div_two_pow]
  rw [show 2 ^ 64 - 1 - (2 ^ k - 1) = 2 ^ 64 - ((2 ^ k - 1) + 1) by omega, Nat.testBit_two_pow_sub_succ (by omega)]
  rw [Nat.testBit_two_pow_sub_one]
  by_cases hi : k ≤ i
  · simp [hi, show i - k + k = i by omega, show ¬ i < k by omega]
    intro h
    by_cases h64 : i < 64
    · exact h64
    · have : a < 2 ^ i := Nat.lt_of_lt_of_le (by simpa using ha) (Nat.pow_le_pow_right (by omega) (show 64 ≤ i by omega))
      rw [Nat.testBit_lt_two_pow this] at h
      cases h
  · simp [hi, show i < k by omega]
/-- The exponent of a word. -/
theorem exp_word (s : Bool) (r : Nat) (hr : r < 9223372036854775808) : bits .and .u64 ((Ieee.double.word s r : Nat) / 4503599627370496 : Int) 2047 = ((r / 4503599627370496 : Nat) : Int) := by
  have h0 : ((Ieee.double.word s r : Nat) / 4503599627370496 : Int) = ((Ieee.double.word s r / 4503599627370496 : Nat) : Int) := by omega
  have hw : Ieee.double.word s r < 18446744073709551616 := by unfold Ieee.Format.word; rw [double_facts.2.2.2.1]; split <;> omega
  rw [h0]
  have := and_low (Ieee.double.word s r / 4503599627370496) 11 (by omega) (by omega)
  rw [show ((2 ^ 11 - 1 : Nat) : Int) = 2047 from rfl] at this
  rw [this]
  congr 1
  unfold Ieee.Format.word
  rw [double_facts.2.2.2.1]
  simp only [Nat.reducePow]
  split <;> omega
theorem sign_word (s : Bool) (r : Nat) (hr : r < 9223372036854775808) : bits .and .u64 ((Ieee.double.word s r : Nat) : Int) 9223372036854775808 = ((Ieee.double.word s 0 : Nat) : Int) := by
  have hw : Ieee.double.word s r < 18446744073709551616 := by unfold Ieee.Format.word; rw [double_facts.2.2.2.1]; split <;> omega
  rw [show (9223372036854775808 : Int) = ((9223372036854775808 : Nat) : Int) from rfl, bits_u64 .and (fun x y => x &&& y) _ _ rfl, BitVec.toNat_and]
  simp only [BitVec.toNat_ofNat]
  simp only [Nat.reducePow]
  rw [Nat.mod_eq_of_lt hw, Nat.mod_eq_of_lt (by omega)]
  congr 1
  have h2 : (9223372036854775808 : Nat) = 2 ^ 63 := by decide
  unfold Ieee.Format.word
  rw [double_facts.2.2.2.1, h2]
  apply Nat.eq_of_testBit_eq
  intro i
  rw [Nat.testBit_and, Nat.testBit_two_pow]
  rw [h2] at hr
  cases s
  · simp only [Bool.false_eq_true, if_false, Nat.zero_testBit]
    by_cases hi : 63 = i
    · subst hi; rw [Nat.testBit_lt_two_pow hr]; rfl
    · simp [hi]
  · simp only [if_true, Nat.add_zero, Nat.testBit_two_pow]
    by_cases hi : 63 = i
    · subst hi
      rw [Nat.testBit_two_pow_add_eq, Nat.testBit_lt_two_pow hr]; rfl
    · simp [hi]
attribute [local irreducible] Calls
theorem or_one (s : Bool) : bits .or .u64 ((Ieee.double.word s 0 : Nat) : Int) 4607182418800017408 = ((Ieee.double.word s 4607182418800017408 : Nat) : Int) := by cases s <;> decide
theorem shr_half (e : Nat) (h : e < 52) : (2251799813685248 : Int) / 2 ^ e = ((2 ^ (51 - e) : Nat) : Int) := by
  have h1 : (2251799813685248 : Nat) / 2 ^ e = 2 ^ (51 - e) := by
    rw [show (2251799813685248 : Nat) = 2 ^ 51 by decide, Nat.pow_div (by omega) (by omega)]
  rw [← h1]
  simp
theorem shr_mask (e : Nat) (h : e < 52) : (4503599627370495 : Int) / 2 ^ e = ((2 ^ (52 - e) - 1 : Nat) : Int) := by
  have h1 : (4503599627370495 : Nat) / 2 ^ e = 2 ^ (52 - e) - 1 := by
    have hp : 0 < 2 ^ e := Nat.two_pow_pos _
    have hm : 2 ^ (52 - e) * 2 ^ e = 4503599627370496 := by rw [← Nat.pow_add, show 52 - e + e = 52 by omega]
    have ha : 0 < 2 ^ (52 - e) := Nat.two_pow_pos _
    rw [Nat.div_eq_iff hp]
    generalize 2 ^ (52 - e) = a at *
    generalize 2 ^ e = b at *
    have : (a - 1) * b = a * b - b := by rw [Nat.sub_mul, Nat.one_mul]
    omega
  rw [← h1]
  simp
theorem word_cut (s : Bool) (r h e : Nat) (he : e < 52) : Ieee.double.word s ((r + h) / 2 ^ (52 - e) * 2 ^ (52 - e)) = (Ieee.double.word s r + h) / 2 ^ (52 - e) * 2 ^ (52 - e) := by
  unfold Ieee.Format.word
  rw [double_facts.2.2.2.1]
  cases s
  · rfl
  · simp only [if_true]
    have hp : 0 < 2 ^ (52 - e) := Nat.two_pow_pos _
    have hm : 9223372036854775808 = 2 ^ (52 - e) * 2 ^ (11 + e) := by rw [← Nat.pow_add, show 52 - e + (11 + e) = 63 by omega]
    rw [hm, Nat.add_assoc, Nat.mul_add_div hp, Nat.add_mul, Nat.mul_comm (2 ^ (11 + e))]
end Go.Proofs.YtdnnjahdcabdmaaGreatDoor
