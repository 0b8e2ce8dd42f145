/- The sums of the owners' rates: the walks that FnExactSharesOfOwners needs. -/
import Derived.Test.YtililmlgladnaaaPerm
import Derived.StillTailTactics
import Derived.IntWalk
namespace Go.Proofs.Ytililmlgladnaaa
open Go.ChangeShapes Go.WideShapes Go.ChangeAt Go.RowKit
set_option linter.unusedVariables false

/-- A row of int64 numbers. -/
@[irreducible] def i64s (n : Nat) (f : Nat → Int) : Array Value := Array.ofFn (n := n) fun i => .int .i64 (f i)
theorem i64s_size (n : Nat) (f : Nat → Int) : (i64s n f).size = n := by simp [i64s]
theorem i64s_get (n : Nat) (f : Nat → Int) (i : Nat) (h : i < n) : (i64s n f)[i]? = some (.int .i64 (f i)) := by simp [i64s, h]
theorem i64s_one (n : Nat) (f : Nat → Int) : ∀ v ∈ (i64s n f).toList, v.oneCell' = true := by
  intro v hv; simp [i64s] at hv; obtain ⟨i, rfl⟩ := hv; rfl
theorem i64s_all (n : Nat) (f : Nat → Int) : (i64s n f).toList.all (·.oneCell') = true := List.all_eq_true.2 (i64s_one n f)
theorem i64s_set (n : Nat) (f : Nat → Int) (k : Nat) (x : Int) : (i64s n f).setIfInBounds k (.int .i64 x) = i64s n (fun j => if j = k then x else f j) := by
  apply Array.ext_getElem?
  intro i
  rw [Array.getElem?_setIfInBounds]
  by_cases hi : i < n
  · rw [i64s_get n f i hi, i64s_get n (fun j => if j = k then x else f j) i hi]
    by_cases h : k = i
    · subst h; simp [i64s_size, hi]
    · rw [if_neg h]; simp [Ne.symm h]
  · have e1 : ∀ g : Nat → Int, (i64s n g)[i]? = none := fun g => by rw [Array.getElem?_eq_none]; rw [i64s_size]; omega
    rw [e1, e1]
    split
    · simp [i64s_size]; omega
    · rfl
theorem row45 : RowTy Try.prog 45 8 := ⟨.array 8 2, by kernel_rfl, rfl, by kernel_rfl⟩
theorem zero45 : ZeroTy Try.prog 45 (i64s 8 fun _ => 0) := by unfold ZeroTy i64s; kernel_rfl
theorem size45 : (Try.prog.info? 45).map (·.size) = some 8 := by kernel_rfl
theorem eight_zeros : (#[.int .i64 0, .int .i64 0, .int .i64 0, .int .i64 0, .int .i64 0, .int .i64 0, .int .i64 0, .int .i64 0] : Array Value) = i64s 8 fun _ => 0 := by unfold i64s; rfl

/-- What each owner has of the first k permits. -/
def shTo (P : Nat → Pm) : Nat → Nat → Int
  | 0, _ => 0
  | k + 1, j => if j = (P k).own.toNat then shTo P k j + (P k).rat else shTo P k j
theorem shTo_bd (P : Nat → Pm) : ∀ (k : Nat), (∀ i, i < k → 0 ≤ (P i).rat ∧ (P i).rat ≤ 400) → ∀ j, 0 ≤ shTo P k j ∧ shTo P k j ≤ 400 * k
  | 0, _, j => by simp [shTo]
  | k + 1, h, j => by
    have h1 := shTo_bd P k (fun i hi => h i (by omega)) j
    have h2 := h k (by omega)
    simp only [shTo]
    split <;> omega
/-- What both functions return. -/
def sharesOf (n : Nat) (P : Nat → Pm) : Value :=
  if ratesAre n P && !anyTo badOwner P n then .tuple #[.agg (i64s 8 (shTo P n)), .int .i64 0] else .tuple #[.agg (i64s 8 fun _ => 0), .int .i64 1]

set_option maxRecDepth 100000 in
set_option maxHeartbeats 400000 in
theorem shares_any (n : Nat) (P : Nat → Pm) (hP : ∀ i, i < n → (P i).ok) (v : Value) (w : World) (hv : PSl w v n P) :
    Calls Try.prog 26 #[v] w fun e w' => e = .returned (sharesOf n P) ∧ Below w.heap.size w w' := by
  go_enter Try.func26, Try.ntmps26
  go_upto_region 2 with (refine wpList_store_last rfl rfl rfl ?_ rfl size45 rfl rfl ?_; (· simp))
  rw [eight_zeros]
  have hR : Blk ((w.alloc (.cells (i64s 8 fun _ => 0) 45)).alloc (.cells (i64s 8 fun _ => 0) 45)) w.heap.size (i64s 8 fun _ => 0) 45 := (Blk.new _ _ _).alloc _
  have hS : Blk ((w.alloc (.cells (i64s 8 fun _ => 0) 45)).alloc (.cells (i64s 8 fun _ => 0) 45)) (w.heap.size + 1) (i64s 8 fun _ => 0) 45 := Blk.new1 _ _ _ _
  have hbel := below2 w (.cells (i64s 8 fun _ => 0) 45) (.cells (i64s 8 fun _ => 0) 45)
  generalize ((w.alloc (.cells (i64s 8 fun _ => 0) 45)).alloc (.cells (i64s 8 fun _ => 0) 45)) = W at *
  have hr := ratesOk_any n P hP v W (hv.below hbel)
  have ho := fun (w' : World) (hb : Below W.heap.size W w') => containsPm_any badOwner 65 #[] n P v w' ((hv.below hbel).below hb) callShares (fun i w'' hi hb => shares1_any (P i) (hP i hi) w'')
  have lS := hS.lt
  have lR := hR.lt
  have hrow := i64s_one 8 fun _ => 0
  by_cases hok : ratesAre n P = true
  · rw [hok] at hr
    by_cases hown : anyTo badOwner P n = true
    · rw [hown] at ho
      go_wp2_with (first | (go_at_call 63; refine hr.mono ?_; rintro e w1 ⟨rfl, hb1⟩; have ho1 := ho w1 hb1) | (go_at_call 64; refine ho1.mono ?_; rintro e w2 ⟨rfl, hb2⟩; have hb2 := hb1.trans (hb2.mono hb1.size); have hS2 := hS.below hb2 lS; have hR2 := hR.below hb2 lR; have lR2 := hR2.lt) | (refine wpList_load_blk rfl rfl rfl row45 hS2 (i64s_size _ _) ?_) | (refine wpList_store_blk rfl rfl rfl rfl row45 hR2 (i64s_size _ _) (i64s_size _ _) hrow ?_))
      refine bodyPost_row2 rfl rfl row45 (hR2.setRow _) (i64s_size _ _) rfl ⟨?_, below_setRow (hbel.trans (hb2.mono hbel.size)) (Nat.le_refl _) _⟩
      simp [sharesOf, hok, hown]
    · rw [Bool.not_eq_true] at hown
      rw [hown] at ho
      have hf := anyTo_false.1 hown
      have hbd : ∀ i, i < n → (0 ≤ (P i).own ∧ (P i).own ≤ 7) ∧ (0 ≤ (P i).rat ∧ (P i).rat ≤ 400) := fun i hi => by
        have h1 := hf i hi
        simp [badOwner] at h1
        simp [ratesAre] at hok
        have h2 := anyTo_false.1 hok.2 i hi
        simp [badRate] at h2
        omega
      have h6 : n ≤ 6 := by simp [ratesAre] at hok; exact hok.1
      have HB := Lib.hid hbd
      have HO := Lib.hid hok
      have HW := Lib.hid hown
      clear hf hbd hok hown
      obtain ⟨a, c, rfl, hc1, hc2, hcell⟩ := hv
      unfold maxLen at hc2
      have HC := Lib.hid hcell
      clear hcell
      go_wp2_with (first | (go_at_call 63; refine hr.mono ?_; rintro e w1 ⟨rfl, hb1⟩; have ho1 := ho w1 hb1) | (go_at_call 64; refine ho1.mono ?_; rintro e w2 ⟨rfl, hb2⟩; have hb2 := hb1.trans (hb2.mono hb1.size); have hS2 := hS.below hb2 lS; have hR2 := hR.below hb2 lR; have lR2 := hR2.lt; have bel2 := hbel.trans (hb2.mono hbel.size)))
      clear hr ho ho1 hS hR hb1 hb2 hbel
      go_loopw [18] (fun i wr => ∃ k : Nat, k ≤ n ∧ i = .int .i64 k ∧ Blk wr w.heap.size (i64s 8 fun _ => 0) 45 ∧ Blk wr (w.heap.size + 1) (i64s 8 (shTo P k)) 45 ∧ Below w.heap.size w wr) (fun i _ => n - (intOf i).toNat)
      case atStart => exact ⟨0, by omega, rfl, hR2, hS2, bel2⟩
      case round =>
        clear hR2 hS2 bel2 lR2
        obtain ⟨k, hk, rfl, hR, hS, hbel⟩ := hrel
        have lS := hS.lt
        have lR := hR.lt
        by_cases hlt : k < n
        · obtain ⟨b, o, rfl, hb, hcell⟩ := HC.out.resolve_left (by omega)
          have e0 : wr.cell? ⟨b, o + k * 3, none⟩ = some (.int .i8 (P k).own) := (hbel.cell (p := ⟨b, _, none⟩) hb).trans ((hcell k 0 hlt (by omega)).trans (P k).get0)
          have e1 : wr.cell? ⟨b, o + k * 3 + 1, none⟩ = some (.int .i8 (P k).cel) := (hbel.cell (p := ⟨b, _, none⟩) hb).trans ((hcell k 1 hlt (by omega)).trans (P k).get1)
          have e2 : wr.cell? ⟨b, o + k * 3 + 2, none⟩ = some (.int .i16 (P k).rat) := (hbel.cell (p := ⟨b, _, none⟩) hb).trans ((hcell k 2 hlt (by omega)).trans (P k).get2)
          clear hcell
          have ⟨⟨b1, b2⟩, b3, b4⟩ := HB.out k hlt
          have ⟨b5, b6⟩ := shTo_bd P k (fun i hi => (HB.out i (by omega)).2) (P k).own.toNat
          go_wp2_with fail
          have hX := Blk.new wr #[.int .i8 (P k).own, .int .i8 (P k).cel, .int .i16 (P k).rat] 99
          have hS := hS.alloc (.cells #[.int .i8 (P k).own, .int .i8 (P k).cel, .int .i16 (P k).rat] 99)
          have hR := hR.alloc (.cells #[.int .i8 (P k).own, .int .i8 (P k).cel, .int .i16 (P k).rat] 99)
          have hbel := hbel.alloc hbel.size (.cells #[.int .i8 (P k).own, .int .i8 (P k).cel, .int .i16 (P k).rat] 99)
          generalize wr.alloc (.cells #[.int .i8 (P k).own, .int .i8 (P k).cel, .int .i16 (P k).rat] 99) = W3 at *
          clear e0 e1 e2 lS lR
          have x0 : W3.cell? ⟨wr.heap.size, 0, none⟩ = some (.int .i8 (P k).own) := hX.cell 0
          have x2 : W3.cell? ⟨wr.heap.size, 2, none⟩ = some (.int .i16 (P k).rat) := hX.cell 2
          have xs : W3.cell? ⟨w.heap.size + 1, (P k).own.toNat, none⟩ = some (.int .i64 (shTo P k (P k).own.toNat)) := (hS.cell _).trans (i64s_get 8 _ _ (by omega))
          have xf := hS.free (P k).own.toNat
          have b8 : (P k).own < 8 := by omega
          have sm : IntKind.i64.wrap (shTo P k (P k).own.toNat + (P k).rat) = shTo P k (P k).own.toNat + (P k).rat := IntWalk.i64_in _ (by omega)
          go_still_tail 9, (by kernel_rfl)
          change wpList _ _ _ _ _ W3.drew
          go_wp2_with fail
          go_roundw
          case rel =>
            refine ⟨k + 1, by omega, by go_num, (hR.drew).setOther _ (by show w.heap.size ≠ w.heap.size + 1; omega), ?_, ?_⟩
            · have := (hS.drew).setCell (P k).own.toNat (.int .i64 (shTo P k (P k).own.toNat + (P k).rat))
              rw [i64s_set] at this
              exact (by
                have e : (fun j => if j = (P k).own.toNat then shTo P k (P k).own.toNat + (P k).rat else shTo P k j) = shTo P (k + 1) := by
                  funext j; simp only [shTo]; split
                  · rename_i h; rw [h]
                  · rfl
                rw [← e]; exact this)
            · exact hbel.drew.setCell (p := ⟨w.heap.size + 1, (P k).own.toNat, none⟩) (by show w.heap.size ≤ w.heap.size + 1; omega) _
          case measure => simp [intOf]; omega
        · obtain rfl : k = n := by omega
          go_wp2_with (first | (refine wpList_load_blk rfl rfl rfl row45 hS (i64s_size _ _) ?_) | (refine wpList_store_blk rfl rfl rfl rfl row45 hR (i64s_size _ _) (i64s_size _ _) (i64s_one _ _) ?_))
          refine bodyPost_row2 rfl rfl row45 (hR.setRow _) (i64s_size _ _) rfl ⟨?_, below_setRow hbel (Nat.le_refl _) _⟩
          simp [sharesOf, HO.out, HW.out]
  · rw [Bool.not_eq_true] at hok
    rw [hok] at hr
    clear ho
    go_wp2_with (first | (go_at_call 63; refine hr.mono ?_; rintro e w1 ⟨rfl, hb1⟩; have hS2 := hS.below hb1 lS; have hR2 := hR.below hb1 lR) | (refine wpList_load_blk rfl rfl rfl row45 hS2 (i64s_size _ _) ?_) | (refine wpList_store_blk rfl rfl rfl rfl row45 hR2 (i64s_size _ _) (i64s_size _ _) hrow ?_))
    refine bodyPost_row2 rfl rfl row45 (hR2.setRow _) (i64s_size _ _) rfl ⟨?_, below_setRow (hbel.trans (hb1.mono hbel.size)) (Nat.le_refl _) _⟩
    simp [sharesOf, hok]
set_option maxRecDepth 100000 in
set_option maxHeartbeats 400000 in
theorem specShares_any (n : Nat) (P : Nat → Pm) (hP : ∀ i, i < n → (P i).ok) (v : Value) (w : World) (hv : PSl w v n P) :
    Calls Try.prog 24 #[v] w fun e w' => e = .returned (sharesOf n P) ∧ Below w.heap.size w w' := by
  go_enter Try.func24, Try.ntmps24
  go_upto_region 2 with (refine wpList_store_last rfl rfl rfl ?_ rfl size45 rfl rfl ?_; (· simp))
  rw [eight_zeros]
  have hR : Blk ((w.alloc (.cells (i64s 8 fun _ => 0) 45)).alloc (.cells (i64s 8 fun _ => 0) 45)) w.heap.size (i64s 8 fun _ => 0) 45 := (Blk.new _ _ _).alloc _
  have hS : Blk ((w.alloc (.cells (i64s 8 fun _ => 0) 45)).alloc (.cells (i64s 8 fun _ => 0) 45)) (w.heap.size + 1) (i64s 8 fun _ => 0) 45 := Blk.new1 _ _ _ _
  have hbel := below2 w (.cells (i64s 8 fun _ => 0) 45) (.cells (i64s 8 fun _ => 0) 45)
  generalize ((w.alloc (.cells (i64s 8 fun _ => 0) 45)).alloc (.cells (i64s 8 fun _ => 0) 45)) = W at *
  have hr := l07Rates_any n P hP v W (hv.below hbel)
  have hrow := i64s_one 8 fun _ => 0
  obtain ⟨a, c, rfl, hc1, hc2, hcell⟩ := hv
  unfold maxLen at hc2
  have HC := Lib.hid hcell
  clear hcell
  generalize hgood : ratesAre n P = good at *
  have HG := Lib.hid hgood
  clear hgood
  go_wp2_with (go_at_call 60; refine hr.mono ?_; rintro e w1 ⟨rfl, rfl⟩)
  clear hr
  go_loop [5, 6] (fun g i => ∃ (k : Nat) (good : Bool), k ≤ n ∧ i = .int .i64 k ∧ g = .bool good ∧ Hid (if good then ratesAre n P = true ∧ anyTo badOwner P k = false else (ratesAre n P && !anyTo badOwner P n) = false)) (fun _ i => n - (intOf i).toNat)
  case atStart =>
    refine ⟨0, good, by omega, rfl, rfl, Lib.hid ?_⟩
    have := HG.out
    cases good <;> simp [this, anyTo]
  case round =>
    obtain ⟨k, good, hk, rfl, rfl, hg⟩ := hrel
    have lS := hS.lt
    have lR := hR.lt
    by_cases hlt : k < n
    · have hd : decide ((k : Int) < n) = true := by simp; omega
      cases good
      · go_wp2_with (first | (refine wpList_load_blk rfl rfl rfl row45 hS (i64s_size _ _) ?_) | (refine wpList_store_blk rfl rfl rfl rfl row45 hR (i64s_size _ _) (i64s_size _ _) hrow ?_))
        have hne : (ratesAre n P && !anyTo badOwner P n) = false := by simpa using hg.out
        refine bodyPost_row2 rfl rfl row45 (hR.setRow _) (i64s_size _ _) rfl ⟨?_, below_setRow hbel (Nat.le_refl _) _⟩
        simp [sharesOf, hne]
      · obtain ⟨b, o, rfl, hb, hcell⟩ := HC.out.resolve_left (by omega)
        have e0 : w1.cell? ⟨b, o + k * 3, none⟩ = some (.int .i8 (P k).own) := (hbel.cell (p := ⟨b, _, none⟩) hb).trans ((hcell k 0 hlt (by omega)).trans (P k).get0)
        have ho := (hP k hlt).1
        clear hcell
        have hg' : ratesAre n P = true ∧ anyTo badOwner P k = false := by simpa using hg.out
        have HH := Lib.hid hg'
        clear hg hg' HG
        cases hbr : badOwner (P k)
        · have hd : (decide (0 ≤ (P k).own) && decide ((P k).own ≤ 7)) = true := by simpa [badOwner] using hbr
          have HB := Lib.hid hbr
          clear hbr
          go_wp2_with (go_at_call 61; refine (l00In_any _ _ _ _).mono ?_; rw [hd]; rintro e w' ⟨rfl, rfl⟩)
          go_round
          case rel => exact ⟨k + 1, true, by omega, by go_num, rfl, Lib.hid (by simp [HH.out.1, anyTo, HH.out.2, HB.out])⟩
          case measure => simp [intOf]; omega
        · have hd : (decide (0 ≤ (P k).own) && decide ((P k).own ≤ 7)) = false := by
            unfold badOwner at hbr
            cases h1 : decide (0 ≤ (P k).own) <;> cases h2 : decide ((P k).own ≤ 7) <;> simp_all
          have HB := Lib.hid hbr
          clear hbr
          go_wp2_with (go_at_call 61; refine (l00In_any _ _ _ _).mono ?_; rw [hd]; rintro e w' ⟨rfl, rfl⟩)
          go_round
          case rel => exact ⟨k + 1, false, by omega, by go_num, rfl, Lib.hid (by simp [anyTo_true hlt HB.out])⟩
          case measure => simp [intOf]; omega
    · obtain rfl : k = n := by omega
      have hd : decide ((k : Int) < k) = false := by simp
      cases good
      · go_wp2_with (first | (refine wpList_load_blk rfl rfl rfl row45 hS (i64s_size _ _) ?_) | (refine wpList_store_blk rfl rfl rfl rfl row45 hR (i64s_size _ _) (i64s_size _ _) hrow ?_))
        have hne : (ratesAre k P && !anyTo badOwner P k) = false := by simpa using hg.out
        refine bodyPost_row2 rfl rfl row45 (hR.setRow _) (i64s_size _ _) rfl ⟨?_, below_setRow hbel (Nat.le_refl _) _⟩
        simp [sharesOf, hne]
      · have hg' : ratesAre k P = true ∧ anyTo badOwner P k = false := by simpa using hg.out
        have hf := anyTo_false.1 hg'.2
        have hbd : ∀ i, i < k → (0 ≤ (P i).own ∧ (P i).own ≤ 7) ∧ (0 ≤ (P i).rat ∧ (P i).rat ≤ 400) := fun i hi => by
          have h1 := hf i hi
          simp [badOwner] at h1
          have hok := hg'.1
          simp [ratesAre] at hok
          have h2 := anyTo_false.1 hok.2 i hi
          simp [badRate] at h2
          omega
        have h6 : k ≤ 6 := by have hok := hg'.1; simp [ratesAre] at hok; exact hok.1
        have HB := Lib.hid hbd
        have HO := Lib.hid hg'
        clear hf hbd hg' hg HG hlt
        go_wp2_with fail
        go_loopw [7] (fun i wr => ∃ m : Nat, m ≤ k ∧ i = .int .i64 m ∧ Blk wr w.heap.size (i64s 8 fun _ => 0) 45 ∧ Blk wr (w.heap.size + 1) (i64s 8 (shTo P m)) 45 ∧ Below w.heap.size w wr) (fun i _ => k - (intOf i).toNat)
        case atStart => exact ⟨0, by omega, rfl, hR, hS, hbel⟩
        case round =>
          clear hR hS hbel lR lS hd
          obtain ⟨m, hm, rfl, hR, hS, hbel⟩ := hrel
          have lS := hS.lt
          have lR := hR.lt
          by_cases hlt : m < k
          · obtain ⟨b, o, rfl, hb, hcell⟩ := HC.out.resolve_left (by omega)
            have e0 : wr.cell? ⟨b, o + m * 3, none⟩ = some (.int .i8 (P m).own) := (hbel.cell (p := ⟨b, _, none⟩) hb).trans ((hcell m 0 hlt (by omega)).trans (P m).get0)
            have e2 : wr.cell? ⟨b, o + m * 3 + 2, none⟩ = some (.int .i16 (P m).rat) := (hbel.cell (p := ⟨b, _, none⟩) hb).trans ((hcell m 2 hlt (by omega)).trans (P m).get2)
            clear hcell
            have ⟨⟨b1, b2⟩, b3, b4⟩ := HB.out m hlt
            have ⟨b5, b6⟩ := shTo_bd P m (fun i hi => (HB.out i (by omega)).2) (P m).own.toNat
            go_wp2_with fail
            have xs : wr.cell? ⟨w.heap.size + 1, (P m).own.toNat, none⟩ = some (.int .i64 (shTo P m (P m).own.toNat)) := (hS.cell _).trans (i64s_get 8 _ _ (by omega))
            have xf := hS.free (P m).own.toNat
            have b8 : (P m).own < 8 := by omega
            have sm : IntKind.i64.wrap (shTo P m (P m).own.toNat + (P m).rat) = shTo P m (P m).own.toNat + (P m).rat := IntWalk.i64_in _ (by omega)
            have bk : (0 : Int) ≤ m := by omega
            have bl : (m : Int) < k := by omega
            go_still_tail 15, (by kernel_rfl)
            change wpList _ _ _ _ _ wr.drew
            go_wp2_with fail
            go_roundw
            case rel =>
              refine ⟨m + 1, by omega, by go_num, (hR.drew).setOther _ (by show w.heap.size ≠ w.heap.size + 1; omega), ?_, ?_⟩
              · have := (hS.drew).setCell (P m).own.toNat (.int .i64 (shTo P m (P m).own.toNat + (P m).rat))
                rw [i64s_set] at this
                exact (by
                  have e : (fun j => if j = (P m).own.toNat then shTo P m (P m).own.toNat + (P m).rat else shTo P m j) = shTo P (m + 1) := by
                    funext j; simp only [shTo]; split
                    · rename_i h; rw [h]
                    · rfl
                  rw [← e]; exact this)
              · exact hbel.drew.setCell (p := ⟨w.heap.size + 1, (P m).own.toNat, none⟩) (by show w.heap.size ≤ w.heap.size + 1; omega) _
            case measure => simp [intOf]; omega
          · obtain rfl : m = k := by omega
            go_wp2_with (first | (refine wpList_load_blk rfl rfl rfl row45 hS (i64s_size _ _) ?_) | (refine wpList_store_blk rfl rfl rfl rfl row45 hR (i64s_size _ _) (i64s_size _ _) (i64s_one _ _) ?_))
            refine bodyPost_row2 rfl rfl row45 (hR.setRow _) (i64s_size _ _) rfl ⟨?_, below_setRow hbel (Nat.le_refl _) _⟩
            simp [sharesOf, HO.out.1, HO.out.2]

set_option maxRecDepth 100000 in
set_option maxHeartbeats 400000 in
theorem eqShares_same (f : Nat → Int) (w : World) :
    Calls Try.prog 27 #[.agg (i64s 8 f), .agg (i64s 8 f)] w fun e w' => e = .returned (.bool true) ∧ Below w.heap.size w w' := by
  go_enter Try.func27, Try.ntmps27
  go_wp2_with (refine wpList_box_as rfl rfl rfl ?_)
  have hA : Blk ((w.alloc (.cells (i64s 8 f) 45)).alloc (.cells (i64s 8 f) 45)) w.heap.size (i64s 8 f) 45 := (Blk.new _ _ _).alloc _
  have hB : Blk ((w.alloc (.cells (i64s 8 f) 45)).alloc (.cells (i64s 8 f) 45)) (w.heap.size + 1) (i64s 8 f) 45 := Blk.new1 _ _ _ _
  have hbel := below2 w (.cells (i64s 8 f) 45) (.cells (i64s 8 f) 45)
  generalize ((w.alloc (.cells (i64s 8 f) 45)).alloc (.cells (i64s 8 f) 45)) = W at *
  go_loopw [5] (fun i wr => ∃ m : Nat, m ≤ 8 ∧ i = .int .i64 m ∧ Blk wr w.heap.size (i64s 8 f) 45 ∧ Blk wr (w.heap.size + 1) (i64s 8 f) 45 ∧ Below w.heap.size w wr) (fun i _ => 8 - (intOf i).toNat)
  case atStart => exact ⟨0, by omega, rfl, hA, hB, hbel⟩
  case round =>
    clear hA hB hbel
    obtain ⟨m, hm, rfl, hA, hB, hbel⟩ := hrel
    by_cases hlt : m < 8
    · have c1 : wr.cell? ⟨w.heap.size, m, none⟩ = some (.int .i64 (f m)) := (hA.cell _).trans (i64s_get 8 _ _ hlt)
      have c2 : wr.cell? ⟨w.heap.size + 1, m, none⟩ = some (.int .i64 (f m)) := (hB.cell _).trans (i64s_get 8 _ _ hlt)
      have bk : (0 : Int) ≤ m := by omega
      have bl : (m : Int) < 8 := by omega
      go_wp2_with fail
      go_quiet (fail)
      go_wp2_with fail
      go_roundw
      case rel => exact ⟨m + 1, by omega, by go_num, hA.drewN _, hB.drewN _, below_drewN hbel _⟩
      case measure => simp [intOf]; omega
    · obtain rfl : m = 8 := by omega
      go_wp2_with fail
      go_ret
      exact ⟨rfl, hbel⟩
end Go.Proofs.Ytililmlgladnaaa
