import Derived.Test.YtokdpmpgonafmaaGreatMG36
import Derived.Test.YtokdpmpgonafmaaGreatMG16
import Derived.Test.YtokdpmpgonafmaaGreatMG03
/- GreatestPercent, at permits of any capacity. -/
namespace Go.Proofs.YtokdpmpgonafmaaGreat
open Go.ChangeShapes Go.WideShapes Go.ChangeAt Go.RowKit
set_option linter.unusedVariables false
set_option linter.unusedSimpArgs false
attribute [local irreducible] Calls

set_option maxRecDepth 100000 in
set_option maxHeartbeats 400000 in
theorem greatestPercent_anyC (g : Gr) (v : Value) (r n m c0 : Nat) (P : Nat → Wt) (Q : Nat → Pm) (hg : g.ok) (hP : ∀ i, i < n → (P i).ok) (hQ : ∀ i, i < m → (Q i).ok) (w : World) (hv : WSl w v n P) (hu : Own w r 64 3 (.slice (some ⟨r, 0, none⟩) m c0) m (pls m Q)) :
    Calls Tryz.prog 29 #[.agg (ofc g v), .slice (some ⟨r, 0, none⟩) m c0] w fun e w' => e = .returned (.tuple #[.int .i64 (gpT g n P m Q).1, .int .i64 (gpT g n P m Q).2]) ∧ Below w.heap.size w w' := by
  obtain ⟨T, hT⟩ : ∃ T, T = gpT g n P m Q := ⟨_, rfl⟩
  rw [← hT]
  unfold gpT at hT
  obtain ⟨R, V⟩ := T
  have lr := hu.lt
  go_enter Tryz.func29, Tryz.ntmps29
  go_upto_region 1 with (refine wpList_box_as rfl rfl rfl ?_)
  have hA := Blk.new w (ofc g v) 42
  have hbel := below1 w (.cells (ofc g v) 42)
  have hv := hv.below hbel
  have hu := hu.below hbel lr
  generalize w.alloc (.cells (ofc g v) 42) = W at *
  have lA := hA.lt
  have lr := hu.lt
  have hvp := validPermits_any g v _ n m P Q hg hP hQ W hv hu.psl
  cases hvd : validP g n P m Q <;> rw [hvd] at hvp hT
  · have HF : Hid (R = 0 ∧ V = 1) := Lib.hid (by
      simp only [if_false, Bool.false_eq_true] at hT
      injection hT with e1 e2
      exact ⟨e1, e2⟩)
    clear hT hvd
    go_wp2_with (first | (refine wpList_load_blk rfl rfl rfl row76 hA (ofc_size _ _) ?_) | (go_at_call 50; refine hvp.mono ?_; rintro e w2 ⟨rfl, hb2⟩))
    go_ret2
    exact ⟨by rw [HF.out.1, HF.out.2]; rfl, hbel.trans (hb2.mono hbel.size)⟩
  · obtain ⟨hvg, hvo, hci, hm6, _⟩ := validP_use hvd
    have HRT := Lib.hid (validP_rates hvd)
    have hke := fun pc u' w' (h1 : Blk w' w.heap.size (ofc g v) 42) h2 h3 => kept_any g w.heap.size v u' n m P (fun i => scl pc (Q i)) hg hvg (cellsIn_scl hci pc) (validO_watch hvo) w' h1.ogat ((h1.cell _).trans (ofc_last _ _)) h2 h3
    have HF : Hid (downT (fun pc => keptB g n P m fun i => scl pc (Q i)) 101 = (R, V)) := Lib.hid (by simpa using hT.symm)
    clear hT hvd
    go_upto_region 4 with (first | (refine wpList_load_blk rfl rfl rfl row76 hA (ofc_size _ _) ?_) | (go_at_call 50; refine hvp.mono ?_; rintro e w2 ⟨rfl, hb2⟩))
    have hA := hA.below hb2 lA
    have hv := hv.below hb2
    have hu := hu.below hb2 lr
    have hbel := hbel.trans (hb2.mono hbel.size)
    clear hb2 hvp
    go_loopw [6] (fun i wr => ∃ k : Nat, k ≤ 101 ∧ i = .int .i64 ((k : Int) - 1) ∧ Hid (downT (fun pc => keptB g n P m fun i => scl pc (Q i)) k = (R, V)) ∧ Blk wr w.heap.size (ofc g v) 42 ∧ WSl wr v n P ∧ Own wr r 64 3 (.slice (some ⟨r, 0, none⟩) m c0) m (pls m Q) ∧ Below w.heap.size w wr) (fun i _ => (intOf i + 1).toNat)
    case atStart => exact ⟨101, by omega, rfl, HF, hA, hv, hu, hbel⟩
    case round =>
      clear hA hv hu hbel HF
      obtain ⟨k, hk, rfl, hun, hA, hv, hu, hbel⟩ := hrel
      cases k with
      | succ k =>
        have e0 : ((k + 1 : Nat) : Int) - 1 = k := by omega
        rw [e0]
        have lA := hA.lt
        have lr := hu.lt
        have bk : (0 : Int) ≤ k := by omega
        have bl : (k : Int) ≤ 100 := by omega
        have hsc := scaled_anyC m r c0 Q k ⟨bk, bl⟩ HRT.out hm6 wr hu
        have hke := hke (k : Int)
        have hun' := hun.out
        unfold downT at hun'
        generalize hK : keptB g n P m (fun i => scl (k : Int) (Q i)) = K at *
        cases K
        · have HUN : Hid (downT (fun pc => keptB g n P m fun i => scl pc (Q i)) k = (R, V)) := Lib.hid (by simpa [hK] using hun')
          clear hun' hK hun
          go_wp2_with (first | (go_at_call 56; refine hsc.mono ?_; rintro e w2 ⟨vs, rs, rfl, hrs, hres, hb2⟩; have hA2 := hA.below hb2 lA; have hv2 := hv.below hb2; have hu2 := hu.below hb2 lr) | (go_at_call 54; refine (hke _ _ hA2 hv2 hres.psl).mono ?_; rintro e w3 ⟨rfl, hb3⟩))
          have hbel2 := hbel.trans (hb2.mono hbel.size)
          have lA2 := hA2.lt
          have lr2 := hu2.lt
          go_roundw
          case rel => exact ⟨k, by omega, by go_num, HUN, hA2.below hb3 lA2, hv2.below hb3, hu2.below hb3 lr2, hbel2.trans (hb3.mono hbel2.size)⟩
          case measure => (simp [intOf]; try omega)
        · have HF : Hid (R = k ∧ V = 0) := Lib.hid (by
            simp only [hK, if_true] at hun'
            injection hun' with e1 e2
            exact ⟨e1.symm, e2.symm⟩)
          clear hun' hK hun
          go_wp2_with (first | (go_at_call 56; refine hsc.mono ?_; rintro e w2 ⟨vs, rs, rfl, hrs, hres, hb2⟩; have hA2 := hA.below hb2 lA; have hv2 := hv.below hb2; have hu2 := hu.below hb2 lr) | (go_at_call 54; refine (hke _ _ hA2 hv2 hres.psl).mono ?_; rintro e w3 ⟨rfl, hb3⟩))
          have hbel2 := hbel.trans (hb2.mono hbel.size)
          go_ret2
          exact ⟨by rw [HF.out.1, HF.out.2]; rfl, hbel2.trans (hb3.mono hbel2.size)⟩
      | zero =>
        have HF : Hid (R = 0 ∧ V = 6) := Lib.hid (by
          have := hun.out
          unfold downT at this
          injection this with e1 e2
          exact ⟨e1.symm, e2.symm⟩)
        clear hun
        go_wp2_with fail
        go_ret2
        exact ⟨by rw [HF.out.1, HF.out.2]; rfl, hbel⟩

set_option maxRecDepth 100000 in
set_option maxHeartbeats 400000 in
theorem specGreatestPercent_anyC (g : Gr) (v : Value) (r n m c0 : Nat) (P : Nat → Wt) (Q : Nat → Pm) (hg : g.ok) (hP : ∀ i, i < n → (P i).ok) (hQ : ∀ i, i < m → (Q i).ok) (w : World) (hv : WSl w v n P) (hu : Own w r 64 3 (.slice (some ⟨r, 0, none⟩) m c0) m (pls m Q)) :
    Calls Tryz.prog 30 #[.agg (ofc g v), .slice (some ⟨r, 0, none⟩) m c0] w fun e w' => e = .returned (.tuple #[.int .i64 (gpT g n P m Q).1, .int .i64 (gpT g n P m Q).2]) ∧ Below w.heap.size w w' := by
  obtain ⟨T, hT⟩ : ∃ T, T = gpT g n P m Q := ⟨_, rfl⟩
  rw [← hT]
  unfold gpT at hT
  obtain ⟨R, V⟩ := T
  have lr := hu.lt
  go_enter Tryz.func30, Tryz.ntmps30
  go_upto_region 1 with (refine wpList_box_as rfl rfl rfl ?_)
  have hA := Blk.new w (ofc g v) 42
  have hbel := below1 w (.cells (ofc g v) 42)
  have hv := hv.below hbel
  have hu := hu.below hbel lr
  generalize w.alloc (.cells (ofc g v) 42) = W at *
  have lA := hA.lt
  have lr := hu.lt
  have hvp := l07Fits_any g v _ n m P Q w.heap.size _ hg hP hQ W hA hv hu.psl
  cases hvd : validP g n P m Q <;> rw [hvd] at hvp hT
  · have HF : Hid (R = 0 ∧ V = 1) := Lib.hid (by
      simp only [if_false, Bool.false_eq_true] at hT
      injection hT with e1 e2
      exact ⟨e1, e2⟩)
    clear hT hvd
    go_wp2_with (go_at_call 33; refine hvp.mono ?_; rintro e w2 ⟨rfl, hb2⟩)
    go_ret2
    exact ⟨by rw [HF.out.1, HF.out.2]; rfl, hbel.trans (hb2.mono hbel.size)⟩
  · obtain ⟨hvg, hvo, hci, hm6, _⟩ := validP_use hvd
    have HRT := Lib.hid (validP_rates hvd)
    have hke := fun pc u' w' (h1 : Blk w' w.heap.size (ofc g v) 42) h2 h3 => l07Kept_any g w.heap.size v u' n m P (fun i => scl pc (Q i)) hg hvg (cellsIn_scl hci pc) (validO_watch hvo) w' h1.ogat ((h1.cell _).trans (ofc_last _ _)) h2 h3
    have HF : Hid (downT (fun pc => keptB g n P m fun i => scl pc (Q i)) 101 = (R, V)) := Lib.hid (by simpa using hT.symm)
    clear hT hvd
    go_upto_region 4 with (go_at_call 33; refine hvp.mono ?_; rintro e w2 ⟨rfl, hb2⟩)
    have hA := hA.below hb2 lA
    have hv := hv.below hb2
    have hu := hu.below hb2 lr
    have hbel := hbel.trans (hb2.mono hbel.size)
    clear hb2 hvp
    go_loopw [6] (fun i wr => ∃ k : Nat, k ≤ 101 ∧ i = .int .i64 ((k : Int) - 1) ∧ Hid (downT (fun pc => keptB g n P m fun i => scl pc (Q i)) k = (R, V)) ∧ Blk wr w.heap.size (ofc g v) 42 ∧ WSl wr v n P ∧ Own wr r 64 3 (.slice (some ⟨r, 0, none⟩) m c0) m (pls m Q) ∧ Below w.heap.size w wr) (fun i _ => (intOf i + 1).toNat)
    case atStart => exact ⟨101, by omega, rfl, HF, hA, hv, hu, hbel⟩
    case round =>
      clear hA hv hu hbel HF
      obtain ⟨k, hk, rfl, hun, hA, hv, hu, hbel⟩ := hrel
      cases k with
      | succ k =>
        have e0 : ((k + 1 : Nat) : Int) - 1 = k := by omega
        rw [e0]
        have lA := hA.lt
        have lr := hu.lt
        have bk : (0 : Int) ≤ k := by omega
        have bl : (k : Int) ≤ 100 := by omega
        have hsc := specScaled_anyC m r c0 Q k ⟨bk, bl⟩ HRT.out hm6 wr hu
        have hke := hke (k : Int)
        have hun' := hun.out
        unfold downT at hun'
        generalize hK : keptB g n P m (fun i => scl (k : Int) (Q i)) = K at *
        cases K
        · have HUN : Hid (downT (fun pc => keptB g n P m fun i => scl pc (Q i)) k = (R, V)) := Lib.hid (by simpa [hK] using hun')
          clear hun' hK hun
          go_wp2_with (first | (go_at_call 58; refine hsc.mono ?_; rintro e w2 ⟨vs, rs, rfl, hrs, hres, hb2⟩; have hA2 := hA.below hb2 lA; have hv2 := hv.below hb2; have hu2 := hu.below hb2 lr) | (go_at_call 57; refine (hke _ _ hA2 hv2 hres.psl).mono ?_; rintro e w3 ⟨rfl, hb3⟩))
          have hbel2 := hbel.trans (hb2.mono hbel.size)
          have lA2 := hA2.lt
          have lr2 := hu2.lt
          go_roundw
          case rel => exact ⟨k, by omega, by go_num, HUN, hA2.below hb3 lA2, hv2.below hb3, hu2.below hb3 lr2, hbel2.trans (hb3.mono hbel2.size)⟩
          case measure => (simp [intOf]; try omega)
        · have HF : Hid (R = k ∧ V = 0) := Lib.hid (by
            simp only [hK, if_true] at hun'
            injection hun' with e1 e2
            exact ⟨e1.symm, e2.symm⟩)
          clear hun' hK hun
          go_wp2_with (first | (go_at_call 58; refine hsc.mono ?_; rintro e w2 ⟨vs, rs, rfl, hrs, hres, hb2⟩; have hA2 := hA.below hb2 lA; have hv2 := hv.below hb2; have hu2 := hu.below hb2 lr) | (go_at_call 57; refine (hke _ _ hA2 hv2 hres.psl).mono ?_; rintro e w3 ⟨rfl, hb3⟩))
          have hbel2 := hbel.trans (hb2.mono hbel.size)
          go_ret2
          exact ⟨by rw [HF.out.1, HF.out.2]; rfl, hbel2.trans (hb3.mono hbel2.size)⟩
      | zero =>
        have HF : Hid (R = 0 ∧ V = 6) := Lib.hid (by
          have := hun.out
          unfold downT at this
          injection this with e1 e2
          exact ⟨e1.symm, e2.symm⟩)
        clear hun
        go_wp2_with fail
        go_ret2
        exact ⟨by rw [HF.out.1, HF.out.2]; rfl, hbel⟩
end Go.Proofs.YtokdpmpgonafmaaGreat
/- LoggedLevels, in the program and in the reference, over what is kept of one head (lg). -/
namespace Go.Proofs.YtokdpmpgonafmaaGreat
open Go.ChangeShapes Go.WideShapes Go.ChangeAt Go.RowKit
set_option linter.unusedVariables false
set_option linter.unusedSimpArgs false
attribute [local irreducible] Calls

def updI (f : Nat → Int) (k : Nat) (x : Int) : Nat → Int := fun i => if i = k then x else f i
theorem i16s_set (n : Nat) (f : Nat → Int) (k : Nat) (x : Int) (hk : k < n) : (i16s n f).setIfInBounds k (.int .i16 x) = i16s n (updI f k x) := by
  apply Array.ext_getElem?
  intro i
  rw [Array.getElem?_setIfInBounds]
  by_cases hi : i < n
  · rw [i16s_get n (updI f k x) i hi]
    by_cases h : k = i
    · subst h; rw [if_pos rfl, if_pos (by rw [i16s_size]; exact hk)]; unfold updI; rw [if_pos rfl]
    · rw [if_neg h, i16s_get n f i hi]; unfold updI; rw [if_neg (Ne.symm h)]
  · rw [Array.getElem?_eq_none (by rw [i16s_size]; omega), if_neg (by omega), Array.getElem?_eq_none (by rw [i16s_size]; omega)]
theorem i16s_congr {n : Nat} {f f' : Nat → Int} (h : ∀ i, i < n → f i = f' i) : i16s n f = i16s n f' := by
  apply Array.ext_getElem?
  intro i
  by_cases hi : i < n
  · rw [i16s_get n _ i hi, i16s_get n _ i hi, h i hi]
  · rw [Array.getElem?_eq_none (by rw [i16s_size]; omega), Array.getElem?_eq_none (by rw [i16s_size]; omega)]
/-- What the loggers keep of a ground. -/
def levF (lg : Nat → Int) (g : Gr) (k : Nat) : Int := if validG g && isC g k then lg (g.hea k) else 0
def levC (g : Gr) : Int := if validG g then 0 else 1

end Go.Proofs.YtokdpmpgonafmaaGreat
/- What a logger keeps of a head: math.Round walked through its bits. -/
namespace Go.Proofs.YtokdpmpgonafmaaGreat
open Go.ChangeShapes Go.WideShapes Go.ChangeAt Go.RowKit
set_option linter.unusedVariables false
set_option linter.unusedSimpArgs false

theorem bits_u64 (op : BinOp) (f : BitVec 64 → BitVec 64 → BitVec 64) (a b : Nat) (h : bits op .u64 (a : Int) (b : Int) = IntKind.u64.wrap ((f (BitVec.ofInt 64 (a : Int)) (BitVec.ofInt 64 (b : Int))).toNat : Int)) : bits op .u64 (a : Int) (b : Int) = (((f (BitVec.ofNat 64 a) (BitVec.ofNat 64 b)).toNat : Nat) : Int) := by
  rw [h, IntKind.wrap_u64, show BitVec.ofInt 64 (a : Int) = BitVec.ofNat 64 a by simp, show BitVec.ofInt 64 (b : Int) = BitVec.ofNat 64 b by simp]
  have := (f (BitVec.ofNat 64 a) (BitVec.ofNat 64 b)).isLt
  simp only [Nat.reducePow] at this
  omega
theorem and_low (a k : Nat) (hk : k ≤ 64) (ha : a < 18446744073709551616) : bits .and .u64 (a : Int) ((2 ^ k - 1 : Nat) : Int) = ((a % 2 ^ k : Nat) : Int) := by
  rw [bits_u64 .and (fun x y => x &&& y) a (2 ^ k - 1) rfl, BitVec.toNat_and]
  simp only [BitVec.toNat_ofNat]
  have h1 : 2 ^ k ≤ 2 ^ 64 := Nat.pow_le_pow_right (by omega) hk
  have h2 : 0 < 2 ^ k := Nat.two_pow_pos _
  simp only [Nat.reducePow] at h1 ⊢
  rw [Nat.mod_eq_of_lt ha, Nat.mod_eq_of_lt (by omega), Nat.and_two_pow_sub_one_eq_mod]
theorem andNot_low (a k : Nat) (hk : k ≤ 64) (ha : a < 18446744073709551616) : bits .andNot .u64 (a : Int) ((2 ^ k - 1 : Nat) : Int) = ((a / 2 ^ k * 2 ^ k : Nat) : Int) := by
  rw [bits_u64 .andNot (fun x y => x &&& ~~~ y) a (2 ^ k - 1) rfl]
  have h1 : 2 ^ k ≤ 2 ^ 64 := Nat.pow_le_pow_right (by omega) hk
  have h2 : 0 < 2 ^ k := Nat.two_pow_pos _
  congr 1
  apply Nat.eq_of_testBit_eq
  intro i
  rw [BitVec.toNat_and]
  simp only [BitVec.toNat_not, BitVec.toNat_ofNat]
  rw [Nat.mod_eq_of_lt (show a < 2 ^ 64 by simpa using ha), Nat.mod_eq_of_lt (show 2 ^ k - 1 < 2 ^ 64 by omega)]
  rw [Nat.testBit_and, Nat.testBit_mul_two_pow, Nat.testBit_div_two_pow]
  rw [show 2 ^ 64 - 1 - (2 ^ k - 1) = 2 ^ 64 - ((2 ^ k - 1) + 1) by omega, Nat.testBit_two_pow_sub_succ (by omega)]
  rw [Nat.testBit_two_pow_sub_one]
  by_cases hi : k ≤ i
  · simp [hi, show i - k + k = i by omega, show ¬ i < k by omega]
    intro h
    by_cases h64 : i < 64
    · exact h64
    · have : a < 2 ^ i := Nat.lt_of_lt_of_le (by simpa using ha) (Nat.pow_le_pow_right (by omega) (show 64 ≤ i by omega))
      rw [Nat.testBit_lt_two_pow this] at h
      cases h
  · simp [hi, show i < k by omega]
/-- The exponent of a word. -/
theorem exp_word (s : Bool) (r : Nat) (hr : r < 9223372036854775808) : bits .and .u64 ((Ieee.double.word s r : Nat) / 4503599627370496 : Int) 2047 = ((r / 4503599627370496 : Nat) : Int) := by
  have h0 : ((Ieee.double.word s r : Nat) / 4503599627370496 : Int) = ((Ieee.double.word s r / 4503599627370496 : Nat) : Int) := by omega
  have hw : Ieee.double.word s r < 18446744073709551616 := by unfold Ieee.Format.word; rw [double_facts.2.2.2.1]; split <;> omega
  rw [h0]
  have := and_low (Ieee.double.word s r / 4503599627370496) 11 (by omega) (by omega)
  rw [show ((2 ^ 11 - 1 : Nat) : Int) = 2047 from rfl] at this
  rw [this]
  congr 1
  unfold Ieee.Format.word
  rw [double_facts.2.2.2.1]
  simp only [Nat.reducePow]
  split <;> omega
theorem sign_word (s : Bool) (r : Nat) (hr : r < 9223372036854775808) : bits .and .u64 ((Ieee.double.word s r : Nat) : Int) 9223372036854775808 = ((Ieee.double.word s 0 : Nat) : Int) := by
  have hw : Ieee.double.word s r < 18446744073709551616 := by unfold Ieee.Format.word; rw [double_facts.2.2.2.1]; split <;> omega
  rw [show (9223372036854775808 : Int) = ((9223372036854775808 : Nat) : Int) from rfl, bits_u64 .and (fun x y => x &&& y) _ _ rfl, BitVec.toNat_and]
  simp only [BitVec.toNat_ofNat]
  simp only [Nat.reducePow]
  rw [Nat.mod_eq_of_lt hw, Nat.mod_eq_of_lt (by omega)]
  congr 1
  have h2 : (9223372036854775808 : Nat) = 2 ^ 63 := by decide
  unfold Ieee.Format.word
  rw [double_facts.2.2.2.1, h2]
  apply Nat.eq_of_testBit_eq
  intro i
  rw [Nat.testBit_and, Nat.testBit_two_pow]
  rw [h2] at hr
  cases s
  · simp only [Bool.false_eq_true, if_false, Nat.zero_testBit]
    by_cases hi : 63 = i
    · subst hi; rw [Nat.testBit_lt_two_pow hr]; rfl
    · simp [hi]
  · simp only [if_true, Nat.add_zero, Nat.testBit_two_pow]
    by_cases hi : 63 = i
    · subst hi
      rw [Nat.testBit_two_pow_add_eq, Nat.testBit_lt_two_pow hr]; rfl
    · simp [hi]
attribute [local irreducible] Calls
theorem or_one (s : Bool) : bits .or .u64 ((Ieee.double.word s 0 : Nat) : Int) 4607182418800017408 = ((Ieee.double.word s 4607182418800017408 : Nat) : Int) := by cases s <;> decide
theorem shr_half (e : Nat) (h : e < 52) : (2251799813685248 : Int) / 2 ^ e = ((2 ^ (51 - e) : Nat) : Int) := by
  have h1 : (2251799813685248 : Nat) / 2 ^ e = 2 ^ (51 - e) := by
    rw [show (2251799813685248 : Nat) = 2 ^ 51 by decide, Nat.pow_div (by omega) (by omega)]
  rw [← h1]
  simp
theorem shr_mask (e : Nat) (h : e < 52) : (4503599627370495 : Int) / 2 ^ e = ((2 ^ (52 - e) - 1 : Nat) : Int) := by
  have h1 : (4503599627370495 : Nat) / 2 ^ e = 2 ^ (52 - e) - 1 := by
    have hp : 0 < 2 ^ e := Nat.two_pow_pos _
    have hm : 2 ^ (52 - e) * 2 ^ e = 4503599627370496 := by rw [← Nat.pow_add, show 52 - e + e = 52 by omega]
    have ha : 0 < 2 ^ (52 - e) := Nat.two_pow_pos _
    rw [Nat.div_eq_iff hp]
    generalize 2 ^ (52 - e) = a at *
    generalize 2 ^ e = b at *
    have : (a - 1) * b = a * b - b := by rw [Nat.sub_mul, Nat.one_mul]
    omega
  rw [← h1]
  simp
theorem word_cut (s : Bool) (r h e : Nat) (he : e < 52) : Ieee.double.word s ((r + h) / 2 ^ (52 - e) * 2 ^ (52 - e)) = (Ieee.double.word s r + h) / 2 ^ (52 - e) * 2 ^ (52 - e) := by
  unfold Ieee.Format.word
  rw [double_facts.2.2.2.1]
  cases s
  · rfl
  · simp only [if_true]
    have hp : 0 < 2 ^ (52 - e) := Nat.two_pow_pos _
    have hm : 9223372036854775808 = 2 ^ (52 - e) * 2 ^ (11 + e) := by rw [← Nat.pow_add, show 52 - e + (11 + e) = 63 by omega]
    rw [hm, Nat.add_assoc, Nat.mul_add_div hp, Nat.add_mul, Nat.mul_comm (2 ^ (11 + e))]
end Go.Proofs.YtokdpmpgonafmaaGreat
