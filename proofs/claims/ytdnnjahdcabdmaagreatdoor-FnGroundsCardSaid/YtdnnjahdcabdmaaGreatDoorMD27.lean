import Derived.Test.YtdnnjahdcabdmaaGreatDoorMD04
import Derived.StillTailTactics
import Derived.IntWalk
import Derived.Test.YtdnnjahdcabdmaaGreatDoorMD02
import Derived.Lib.ParseIntBMem
import Derived.Lib.CutLaws
/- The sums of the owners' rates: the walks that FnExactSharesOfOwners needs. -/
namespace Go.Proofs.YtdnnjahdcabdmaaGreatDoor
open Go.ChangeShapes Go.WideShapes Go.ChangeAt Go.RowKit
set_option linter.unusedVariables false

/-- A row of int64 numbers. -/
@[irreducible] def i64s (n : Nat) (f : Nat → Int) : Array Value := Array.ofFn (n := n) fun i => .int .i64 (f i)
theorem i64s_size (n : Nat) (f : Nat → Int) : (i64s n f).size = n := by simp [i64s]
theorem i64s_get (n : Nat) (f : Nat → Int) (i : Nat) (h : i < n) : (i64s n f)[i]? = some (.int .i64 (f i)) := by simp [i64s, h]
theorem i64s_one (n : Nat) (f : Nat → Int) : ∀ v ∈ (i64s n f).toList, v.oneCell' = true := by
  intro v hv; simp [i64s] at hv; obtain ⟨i, rfl⟩ := hv; rfl
theorem i64s_all (n : Nat) (f : Nat → Int) : (i64s n f).toList.all (·.oneCell') = true := List.all_eq_true.2 (i64s_one n f)
theorem i64s_set (n : Nat) (f : Nat → Int) (k : Nat) (x : Int) : (i64s n f).setIfInBounds k (.int .i64 x) = i64s n (fun j => if j = k then x else f j) := by
  apply Array.ext_getElem?
  intro i
  rw [Array.getElem?_setIfInBounds]
  by_cases hi : i < n
  · rw [i64s_get n f i hi, i64s_get n (fun j => if j = k then x else f j) i hi]
    by_cases h : k = i
    · subst h; simp [i64s_size, hi]
    · rw [if_neg h]; simp [Ne.symm h]
  · have e1 : ∀ g : Nat → Int, (i64s n g)[i]? = none := fun g => by rw [Array.getElem?_eq_none]; rw [i64s_size]; omega
    rw [e1, e1]
    split
    · simp [i64s_size]; omega
    · rfl
theorem row45 : RowTy Tryz.prog 60 8 := ⟨.array 8 2, by kernel_rfl, rfl, by kernel_rfl⟩
theorem zero45 : ZeroTy Tryz.prog 60 (i64s 8 fun _ => 0) := by unfold ZeroTy i64s; kernel_rfl
theorem size45 : (Tryz.prog.info? 60).map (·.size) = some 8 := by kernel_rfl
theorem eight_zeros : (#[.int .i64 0, .int .i64 0, .int .i64 0, .int .i64 0, .int .i64 0, .int .i64 0, .int .i64 0, .int .i64 0] : Array Value) = i64s 8 fun _ => 0 := by unfold i64s; rfl

/-- What each owner has of the first k permits. -/
def shTo (P : Nat → Pm) : Nat → Nat → Int
  | 0, _ => 0
  | k + 1, j => if j = (P k).own.toNat then shTo P k j + (P k).rat else shTo P k j
theorem shTo_bd (P : Nat → Pm) : ∀ (k : Nat), (∀ i, i < k → 0 ≤ (P i).rat ∧ (P i).rat ≤ 400) → ∀ j, 0 ≤ shTo P k j ∧ shTo P k j ≤ 400 * k
  | 0, _, j => by simp [shTo]
  | k + 1, h, j => by
    have h1 := shTo_bd P k (fun i hi => h i (by omega)) j
    have h2 := h k (by omega)
    simp only [shTo]
    split <;> omega
/-- What both functions return. -/
def sharesOf (n : Nat) (P : Nat → Pm) : Value :=
  if ratesAre n P && !anyTo badOwner P n then .tuple #[.agg (i64s 8 (shTo P n)), .int .i64 0] else .tuple #[.agg (i64s 8 fun _ => 0), .int .i64 1]

set_option maxRecDepth 100000 in
set_option maxHeartbeats 400000 in
theorem shares_any (n : Nat) (P : Nat → Pm) (hP : ∀ i, i < n → (P i).ok) (v : Value) (w : World) (hv : PSl w v n P) :
    Calls Tryz.prog 22 #[v] w fun e w' => e = .returned (sharesOf n P) ∧ Below w.heap.size w w' := by
  go_enter Tryz.func22, Tryz.ntmps22
  go_upto_region 2 with (refine wpList_store_last rfl rfl rfl ?_ rfl size45 rfl rfl ?_; (· simp))
  rw [eight_zeros]
  have hR : Blk ((w.alloc (.cells (i64s 8 fun _ => 0) 60)).alloc (.cells (i64s 8 fun _ => 0) 60)) w.heap.size (i64s 8 fun _ => 0) 60 := (Blk.new _ _ _).alloc _
  have hS : Blk ((w.alloc (.cells (i64s 8 fun _ => 0) 60)).alloc (.cells (i64s 8 fun _ => 0) 60)) (w.heap.size + 1) (i64s 8 fun _ => 0) 60 := Blk.new1 _ _ _ _
  have hbel := below2 w (.cells (i64s 8 fun _ => 0) 60) (.cells (i64s 8 fun _ => 0) 60)
  generalize ((w.alloc (.cells (i64s 8 fun _ => 0) 60)).alloc (.cells (i64s 8 fun _ => 0) 60)) = W at *
  have hr := ratesOk_any n P hP v W (hv.below hbel)
  have ho := fun (w' : World) (hb : Below W.heap.size W w') => containsPm_any badOwner 68 #[] n P v w' ((hv.below hbel).below hb) callShares (fun i w'' hi hb => shares1_any (P i) (hP i hi) w'')
  have lS := hS.lt
  have lR := hR.lt
  have hrow := i64s_one 8 fun _ => 0
  by_cases hok : ratesAre n P = true
  · rw [hok] at hr
    by_cases hown : anyTo badOwner P n = true
    · rw [hown] at ho
      go_wp2_with (first | (go_at_call 67; refine hr.mono ?_; rintro e w1 ⟨rfl, hb1⟩; have ho1 := ho w1 hb1) | (go_at_call 61; refine ho1.mono ?_; rintro e w2 ⟨rfl, hb2⟩; have hb2 := hb1.trans (hb2.mono hb1.size); have hS2 := hS.below hb2 lS; have hR2 := hR.below hb2 lR; have lR2 := hR2.lt) | (refine wpList_load_blk rfl rfl rfl row45 hS2 (i64s_size _ _) ?_) | (refine wpList_store_blk rfl rfl rfl rfl row45 hR2 (i64s_size _ _) (i64s_size _ _) hrow ?_))
      refine bodyPost_row2 rfl rfl row45 (hR2.setRow _) (i64s_size _ _) rfl ⟨?_, below_setRow (hbel.trans (hb2.mono hbel.size)) (Nat.le_refl _) _⟩
      simp [sharesOf, hok, hown]
    · rw [Bool.not_eq_true] at hown
      rw [hown] at ho
      have hf := anyTo_false.1 hown
      have hbd : ∀ i, i < n → (0 ≤ (P i).own ∧ (P i).own ≤ 7) ∧ (0 ≤ (P i).rat ∧ (P i).rat ≤ 400) := fun i hi => by
        have h1 := hf i hi
        simp [badOwner] at h1
        simp [ratesAre] at hok
        have h2 := anyTo_false.1 hok.2 i hi
        simp [badRate] at h2
        omega
      have h6 : n ≤ 6 := by simp [ratesAre] at hok; exact hok.1
      have HB := Lib.hid hbd
      have HO := Lib.hid hok
      have HW := Lib.hid hown
      clear hf hbd hok hown
      obtain ⟨a, c, rfl, hc1, hc2, hcell⟩ := hv
      unfold maxLen at hc2
      have HC := Lib.hid hcell
      clear hcell
      go_wp2_with (first | (go_at_call 67; refine hr.mono ?_; rintro e w1 ⟨rfl, hb1⟩; have ho1 := ho w1 hb1) | (go_at_call 61; refine ho1.mono ?_; rintro e w2 ⟨rfl, hb2⟩; have hb2 := hb1.trans (hb2.mono hb1.size); have hS2 := hS.below hb2 lS; have hR2 := hR.below hb2 lR; have lR2 := hR2.lt; have bel2 := hbel.trans (hb2.mono hbel.size)))
      clear hr ho ho1 hS hR hb1 hb2 hbel
      go_loopw [18] (fun i wr => ∃ k : Nat, k ≤ n ∧ i = .int .i64 k ∧ Blk wr w.heap.size (i64s 8 fun _ => 0) 60 ∧ Blk wr (w.heap.size + 1) (i64s 8 (shTo P k)) 60 ∧ Below w.heap.size w wr) (fun i _ => n - (intOf i).toNat)
      case atStart => exact ⟨0, by omega, rfl, hR2, hS2, bel2⟩
      case round =>
        clear hR2 hS2 bel2 lR2
        obtain ⟨k, hk, rfl, hR, hS, hbel⟩ := hrel
        have lS := hS.lt
        have lR := hR.lt
        by_cases hlt : k < n
        · obtain ⟨b, o, rfl, hb, hcell⟩ := HC.out.resolve_left (by omega)
          have e0 : wr.cell? ⟨b, o + k * 3, none⟩ = some (.int .i8 (P k).own) := (hbel.cell (p := ⟨b, _, none⟩) hb).trans ((hcell k 0 hlt (by omega)).trans (P k).get0)
          have e1 : wr.cell? ⟨b, o + k * 3 + 1, none⟩ = some (.int .i8 (P k).cel) := (hbel.cell (p := ⟨b, _, none⟩) hb).trans ((hcell k 1 hlt (by omega)).trans (P k).get1)
          have e2 : wr.cell? ⟨b, o + k * 3 + 2, none⟩ = some (.int .i16 (P k).rat) := (hbel.cell (p := ⟨b, _, none⟩) hb).trans ((hcell k 2 hlt (by omega)).trans (P k).get2)
          clear hcell
          have ⟨⟨b1, b2⟩, b3, b4⟩ := HB.out k hlt
          have ⟨b5, b6⟩ := shTo_bd P k (fun i hi => (HB.out i (by omega)).2) (P k).own.toNat
          go_wp2_with fail
          have hX := Blk.new wr #[.int .i8 (P k).own, .int .i8 (P k).cel, .int .i16 (P k).rat] 59
          have hS := hS.alloc (.cells #[.int .i8 (P k).own, .int .i8 (P k).cel, .int .i16 (P k).rat] 59)
          have hR := hR.alloc (.cells #[.int .i8 (P k).own, .int .i8 (P k).cel, .int .i16 (P k).rat] 59)
          have hbel := hbel.alloc hbel.size (.cells #[.int .i8 (P k).own, .int .i8 (P k).cel, .int .i16 (P k).rat] 59)
          generalize wr.alloc (.cells #[.int .i8 (P k).own, .int .i8 (P k).cel, .int .i16 (P k).rat] 59) = W3 at *
          clear e0 e1 e2 lS lR
          have x0 : W3.cell? ⟨wr.heap.size, 0, none⟩ = some (.int .i8 (P k).own) := hX.cell 0
          have x2 : W3.cell? ⟨wr.heap.size, 2, none⟩ = some (.int .i16 (P k).rat) := hX.cell 2
          have xs : W3.cell? ⟨w.heap.size + 1, (P k).own.toNat, none⟩ = some (.int .i64 (shTo P k (P k).own.toNat)) := (hS.cell _).trans (i64s_get 8 _ _ (by omega))
          have xf := hS.free (P k).own.toNat
          have b8 : (P k).own < 8 := by omega
          have sm : IntKind.i64.wrap (shTo P k (P k).own.toNat + (P k).rat) = shTo P k (P k).own.toNat + (P k).rat := IntWalk.i64_in _ (by omega)
          go_still_tail 9, (by kernel_rfl)
          change wpList _ _ _ _ _ W3.drew
          go_wp2_with fail
          go_roundw
          case rel =>
            refine ⟨k + 1, by omega, by go_num, (hR.drew).setOther _ (by show w.heap.size ≠ w.heap.size + 1; omega), ?_, ?_⟩
            · have := (hS.drew).setCell (P k).own.toNat (.int .i64 (shTo P k (P k).own.toNat + (P k).rat))
              rw [i64s_set] at this
              exact (by
                have e : (fun j => if j = (P k).own.toNat then shTo P k (P k).own.toNat + (P k).rat else shTo P k j) = shTo P (k + 1) := by
                  funext j; simp only [shTo]; split
                  · rename_i h; rw [h]
                  · rfl
                rw [← e]; exact this)
            · exact hbel.drew.setCell (p := ⟨w.heap.size + 1, (P k).own.toNat, none⟩) (by show w.heap.size ≤ w.heap.size + 1; omega) _
          case measure => simp [intOf]; omega
        · obtain rfl : k = n := by omega
          go_wp2_with (first | (refine wpList_load_blk rfl rfl rfl row45 hS (i64s_size _ _) ?_) | (refine wpList_store_blk rfl rfl rfl rfl row45 hR (i64s_size _ _) (i64s_size _ _) (i64s_one _ _) ?_))
          refine bodyPost_row2 rfl rfl row45 (hR.setRow _) (i64s_size _ _) rfl ⟨?_, below_setRow hbel (Nat.le_refl _) _⟩
          simp [sharesOf, HO.out, HW.out]
  · rw [Bool.not_eq_true] at hok
    rw [hok] at hr
    clear ho
    go_wp2_with (first | (go_at_call 67; refine hr.mono ?_; rintro e w1 ⟨rfl, hb1⟩; have hS2 := hS.below hb1 lS; have hR2 := hR.below hb1 lR) | (refine wpList_load_blk rfl rfl rfl row45 hS2 (i64s_size _ _) ?_) | (refine wpList_store_blk rfl rfl rfl rfl row45 hR2 (i64s_size _ _) (i64s_size _ _) hrow ?_))
    refine bodyPost_row2 rfl rfl row45 (hR2.setRow _) (i64s_size _ _) rfl ⟨?_, below_setRow (hbel.trans (hb1.mono hbel.size)) (Nat.le_refl _) _⟩
    simp [sharesOf, hok]
end Go.Proofs.YtdnnjahdcabdmaaGreatDoor
/- A text cut at a byte, in the reference: the walk. -/
namespace Go.Proofs.YtdnnjahdcabdmaaGreatDoor
open Go.ChangeShapes Go.WideShapes Go.ChangeAt Go.RowKit
set_option linter.unusedVariables false
set_option linter.unusedSimpArgs false
attribute [local irreducible] Calls

/-- A text's words between a byte. -/
def splitL (c : UInt8) : List UInt8 → List (List UInt8)
  | [] => [[]]
  | x :: l => if x = c then [] :: splitL c l else match splitL c l with | h :: t => (x :: h) :: t | [] => [[x]]
def preL (p : List UInt8) : List (List UInt8) → List (List UInt8)
  | h :: t => (p ++ h) :: t
  | [] => [p]
theorem splitL_ne (c : UInt8) (l : List UInt8) : splitL c l ≠ [] := by
  cases l with
  | nil => simp [splitL]
  | cons x l =>
    unfold splitL
    split
    · simp
    · split <;> simp
theorem preL_nil {L : List (List UInt8)} (h : L ≠ []) : preL [] L = L := by cases L <;> simp_all [preL]
theorem splitL_hit (c : UInt8) (l : List UInt8) (p : List UInt8) : preL p (splitL c (c :: l)) = p :: splitL c l := by
  rw [splitL, if_pos rfl]; simp [preL]
theorem splitL_miss {c x : UInt8} (h : x ≠ c) (l : List UInt8) (p : List UInt8) : preL p (splitL c (x :: l)) = preL (p ++ [x]) (splitL c l) := by
  rw [splitL, if_neg h]
  cases hs : splitL c l with
  | nil => exact absurd hs (splitL_ne c l)
  | cons a t => simp [preL]
theorem splitL_length (c : UInt8) : ∀ l : List UInt8, (splitL c l).length ≤ l.length + 1
  | [] => by simp [splitL]
  | x :: l => by
    have ih := splitL_length c l
    rw [splitL]
    split
    · simp; omega
    · cases hs : splitL c l with
      | nil => simp
      | cons a t => rw [hs] at ih; simp at ih ⊢; omega
/-- The values of words. -/
def strs (L : List (List UInt8)) : List Value := L.map fun l => .string ⟨l.toArray⟩
theorem strs_length (L : List (List UInt8)) : (strs L).length = L.length := by simp [strs]
theorem strs_snoc (L : List (List UInt8)) (l : List UInt8) : strs L ++ [.string ⟨l.toArray⟩] = strs (L ++ [l]) := by simp [strs]
theorem strs_get {L : List (List UInt8)} {j : Nat} {l : List UInt8} (h : L[j]? = some l) : (strs L)[j]? = some (.string ⟨l.toArray⟩) := by simp [strs, h]
theorem elStr : ElemTy Tryz.prog 89 9 1 16 := elem_of (z := .string ⟨#[]⟩) Tryz.underlying89 (by kernel_rfl) rfl
theorem extract_eq (s : ByteArray) (f k : Nat) : s.extract f k = ⟨((s.data.toList.drop f).take (k - f)).toArray⟩ := by
  rcases s with ⟨d⟩
  apply congrArg ByteArray.mk (a₁ := (ByteArray.extract ⟨d⟩ f k).data)
  rcases d with ⟨l⟩
  simp [ByteArray.data_extract, List.extract_eq_take_drop]
end Go.Proofs.YtdnnjahdcabdmaaGreatDoor
/- Numbers written with eight digits to the base 16: plain laws; no statement is proved here. -/
namespace Go.Proofs.YtdnnjahdcabdmaaGreatDoor
open Go.ChangeShapes Go.WideShapes Go.ChangeAt Go.RowKit
set_option linter.unusedVariables false

/-- A digit's value. -/
def hexD (c : UInt8) : Option Nat := if 48 ≤ c.toNat ∧ c.toNat ≤ 57 then some (c.toNat - 48) else if 97 ≤ c.toNat ∧ c.toNat ≤ 102 then some (c.toNat - 87) else none
/-- The value of a great or a small digit. -/
def hexE (c : UInt8) : Option Nat := if 65 ≤ c.toNat ∧ c.toNat ≤ 70 then some (c.toNat - 55) else hexD c
def hexV : Nat → List UInt8 → Option Nat
  | a, [] => some a
  | a, c :: l => match hexD c with | some d => hexV (a * 16 + d) l | none => none
/-- What a reader of digits answers that stops at M: the number; or whether it is too great. -/
def hexU (M : Nat) : Nat → List UInt8 → Sum Nat Bool
  | a, [] => .inl a
  | a, c :: l => match hexE c with | some d => if M < a * 16 + d then .inr true else hexU M (a * 16 + d) l | none => .inr false
/-- A digit. -/
def dig (n : Nat) : UInt8 := UInt8.ofNat (if n < 10 then 48 + n else 87 + n)
/-- The last k digits. -/
def hexK : Nat → Nat → List UInt8
  | 0, _ => []
  | k + 1, u => dig (u / 16 ^ k) :: hexK k (u % 16 ^ k)
/-- The digits without zeros ahead. -/
def hexL (u : Nat) : List UInt8 := if h : u < 16 then [dig u] else hexL (u / 16) ++ [dig (u % 16)]
termination_by u
decreasing_by omega

theorem hexD_lt {c : UInt8} {d : Nat} (h : hexD c = some d) : d < 16 := by
  unfold hexD at h
  split at h
  · injection h with h; omega
  · split at h
    · injection h with h; omega
    · cases h
theorem hexE_lt {c : UInt8} {d : Nat} (h : hexE c = some d) : d < 16 := by
  unfold hexE at h
  split at h
  · injection h with h; omega
  · exact hexD_lt h
theorem hexE_of {c : UInt8} {d : Nat} (h : hexD c = some d) : hexE c = some d := by
  have h0 := h
  unfold hexD at h
  unfold hexE
  rw [if_neg, h0]
  split at h
  · omega
  · split at h
    · omega
    · cases h
theorem toNat_dig {n : Nat} (h : n < 16) : (dig n).toNat = if n < 10 then 48 + n else 87 + n := by
  unfold dig
  rw [UInt8.toNat_ofNat']
  split <;> omega
theorem hexD_dig {n : Nat} (h : n < 16) : hexD (dig n) = some n := by
  unfold hexD
  rw [toNat_dig h]
  by_cases h1 : n < 10
  · rw [if_pos h1, if_pos (by omega)]; congr 1; omega
  · rw [if_neg h1, if_neg (by omega), if_pos (by omega)]; congr 1; omega
theorem dig_hexD {c : UInt8} {d : Nat} (h : hexD c = some d) : c = dig d := by
  have hl := hexD_lt h
  apply UInt8.toNat_inj.1
  rw [toNat_dig hl]
  unfold hexD at h
  split at h
  · injection h with h; rw [if_pos (by omega)]; omega
  · split at h
    · injection h with h; rw [if_neg (by omega)]; omega
    · cases h
theorem hexK_length : ∀ k u, (hexK k u).length = k
  | 0, _ => rfl
  | k + 1, u => by simp [hexK, hexK_length k]
theorem hexV_hexK : ∀ k a u, u < 16 ^ k → hexV a (hexK k u) = some (a * 16 ^ k + u)
  | 0, a, u, h => by simp at h; subst h; simp [hexK, hexV]
  | k + 1, a, u, h => by
    have h1 : u / 16 ^ k < 16 := by
      apply Nat.div_lt_of_lt_mul; rw [Nat.pow_succ] at h; exact h
    have h2 : u % 16 ^ k < 16 ^ k := Nat.mod_lt _ (Nat.pow_pos (by decide))
    unfold hexK hexV
    rw [hexD_dig h1]
    show hexV (a * 16 + u / 16 ^ k) (hexK k (u % 16 ^ k)) = _
    rw [hexV_hexK k _ _ h2]
    congr 1
    have h3 := Nat.div_add_mod u (16 ^ k)
    rw [Nat.pow_succ, Nat.add_mul, Nat.mul_assoc a 16, Nat.mul_comm 16 (16 ^ k), Nat.mul_comm (u / 16 ^ k)]
    omega
theorem hexK_hexV : ∀ (l : List UInt8) (a b : Nat), hexV a l = some b → ∃ u, u < 16 ^ l.length ∧ b = a * 16 ^ l.length + u ∧ l = hexK l.length u
  | [], a, b, h => by
    injection h with h
    exact ⟨0, by simp, by simp [h], rfl⟩
  | c :: l, a, b, h => by
    unfold hexV at h
    cases hd : hexD c with
    | none => rw [hd] at h; cases h
    | some d =>
      rw [hd] at h
      obtain ⟨u, h1, h2, h3⟩ := hexK_hexV l _ _ h
      have hl := hexD_lt hd
      have hp : 0 < 16 ^ l.length := Nat.pow_pos (by decide)
      have hm : d * 16 ^ l.length + u < 16 * 16 ^ l.length := by
        have : d * 16 ^ l.length ≤ 15 * 16 ^ l.length := Nat.mul_le_mul_right _ (by omega)
        omega
      refine ⟨d * 16 ^ l.length + u, ?_, ?_, ?_⟩
      · show _ < 16 ^ (l.length + 1)
        rw [Nat.pow_succ, Nat.mul_comm (16 ^ l.length) 16]; exact hm
      · show b = a * 16 ^ (l.length + 1) + _
        rw [h2, Nat.pow_succ, Nat.add_mul, Nat.mul_comm (16 ^ l.length) 16, ← Nat.mul_assoc]; omega
      · show c :: l = dig ((d * 16 ^ l.length + u) / 16 ^ l.length) :: hexK l.length ((d * 16 ^ l.length + u) % 16 ^ l.length)
        have e1 : (d * 16 ^ l.length + u) / 16 ^ l.length = d := by
          rw [Nat.mul_comm, Nat.mul_add_div hp, Nat.div_eq_of_lt h1]; omega
        have e2 : (d * 16 ^ l.length + u) % 16 ^ l.length = u := by
          rw [Nat.mul_comm, Nat.mul_add_mod]; exact Nat.mod_eq_of_lt h1
        rw [e1, e2, ← h3, dig_hexD hd]
theorem hexV_le : ∀ (l : List UInt8) (a b : Nat), hexV a l = some b → a ≤ b
  | [], a, b, h => by injection h with h; omega
  | c :: l, a, b, h => by
    unfold hexV at h
    cases hd : hexD c with
    | none => rw [hd] at h; cases h
    | some d => rw [hd] at h; have := hexV_le l _ _ h; omega
theorem hexU_of (M : Nat) : ∀ (l : List UInt8) (a b : Nat), hexV a l = some b → b ≤ M → hexU M a l = .inl b
  | [], a, b, h, _ => by injection h with h; rw [← h]; rfl
  | c :: l, a, b, h, hM => by
    unfold hexV at h
    cases hd : hexD c with
    | none => rw [hd] at h; cases h
    | some d =>
      rw [hd] at h
      have hle := hexV_le l _ _ h
      unfold hexU
      rw [hexE_of hd]
      show (if M < a * 16 + d then _ else _) = _
      rw [if_neg (by omega)]
      exact hexU_of M l _ _ h hM
theorem hexU_le (M : Nat) : ∀ (l : List UInt8) (a b : Nat), a ≤ M → hexU M a l = .inl b → b ≤ M
  | [], a, b, ha, h => by injection h with h; omega
  | c :: l, a, b, ha, h => by
    unfold hexU at h
    cases hd : hexE c with
    | none => rw [hd] at h; cases h
    | some d =>
      rw [hd] at h
      have h : (if M < a * 16 + d then _ else _) = _ := h
      split at h
      · cases h
      · exact hexU_le M l _ _ (by omega) h
/-- From the other end. -/
theorem hexK_snoc : ∀ k u, u < 16 ^ (k + 1) → hexK (k + 1) u = hexK k (u / 16) ++ [dig (u % 16)]
  | 0, u, h => by
    have h : u < 16 := by simpa using h
    show [dig (u / 16 ^ 0)] = [dig (u % 16)]
    rw [Nat.mod_eq_of_lt h]; simp
  | k + 1, u, h => by
    have h2 : u % 16 ^ (k + 1) < 16 ^ (k + 1) := Nat.mod_lt _ (Nat.pow_pos (by decide))
    show dig (u / 16 ^ (k + 1)) :: hexK (k + 1) (u % 16 ^ (k + 1)) = (dig (u / 16 / 16 ^ k) :: hexK k (u / 16 % 16 ^ k)) ++ [dig (u % 16)]
    rw [hexK_snoc k _ h2]
    have e1 : u / 16 / 16 ^ k = u / 16 ^ (k + 1) := by rw [Nat.div_div_eq_div_mul, Nat.pow_succ, Nat.mul_comm]
    have e2 : u % 16 ^ (k + 1) / 16 = u / 16 % 16 ^ k := by rw [Nat.pow_succ, Nat.mul_comm, Nat.mod_mul_right_div_self]
    have e3 : u % 16 ^ (k + 1) % 16 = u % 16 := Nat.mod_mod_of_dvd _ ⟨16 ^ k, by rw [Nat.pow_succ, Nat.mul_comm]⟩
    rw [e1, e2, e3]; rfl
theorem hexK_zero : ∀ k, hexK k 0 = List.replicate k 48
  | 0 => rfl
  | k + 1 => by
    unfold hexK
    rw [Nat.zero_div, Nat.zero_mod, hexK_zero k]; rfl
theorem hexL_lt {u : Nat} (h : u < 16) : hexL u = [dig u] := by unfold hexL; rw [dif_pos h]
theorem hexL_ge {u : Nat} (h : ¬ u < 16) : hexL u = hexL (u / 16) ++ [dig (u % 16)] := by rw [hexL, dif_neg h]
theorem hexL_pad : ∀ k u, u < 16 ^ (k + 1) → (hexL u).length ≤ k + 1 ∧ hexK (k + 1) u = List.replicate (k + 1 - (hexL u).length) 48 ++ hexL u
  | 0, u, h => by
    have h : u < 16 := by simpa using h
    rw [hexL_lt h]
    exact ⟨Nat.le_refl _, by rw [hexK_snoc 0 u (by simpa using h), Nat.mod_eq_of_lt h]; rfl⟩
  | k + 1, u, h => by
    by_cases hu : u < 16
    · rw [hexL_lt hu, hexK_snoc _ _ h, Nat.div_eq_of_lt hu, hexK_zero, Nat.mod_eq_of_lt hu]
      exact ⟨by simp, by simp⟩
    · have h1 : u / 16 < 16 ^ (k + 1) := by
        apply Nat.div_lt_of_lt_mul; rw [Nat.pow_succ, Nat.mul_comm] at h; exact h
      obtain ⟨h2, h3⟩ := hexL_pad k _ h1
      rw [hexL_ge hu, hexK_snoc _ _ h, h3]
      refine ⟨by simp; omega, ?_⟩
      rw [show k + 1 + 1 - (hexL (u / 16) ++ [dig (u % 16)]).length = k + 1 - (hexL (u / 16)).length by simp]
      simp
theorem hexL_length {u : Nat} (h : u < 4294967296) : (hexL u).length ≤ 8 ∧ hexK 8 u = List.replicate (8 - (hexL u).length) 48 ++ hexL u := hexL_pad 7 u (by simpa using h)
theorem hexL_pos (u : Nat) : 0 < (hexL u).length := by
  by_cases h : u < 16
  · rw [hexL_lt h]; simp
  · rw [hexL_ge h]; simp

/-- The text of a number. -/
def txt (b : Nat) : List UInt8 := hexK 8 (cn b)
/-- The number with a text. -/
def numL (l : List UInt8) : Option Nat := if l.length = 8 then (match hexV 0 l with | some b => if cn b = b then some b else none | none => none) else none
theorem cn_lt {b : Nat} (h : b < 4294967296) : cn b < 4294967296 := by
  unfold cn
  cases hn : isN .f32 b
  · rw [cnk_of_not hn]; exact h
  · rw [cnk_of_nan hn]; decide
theorem txt_length (b : Nat) : (txt b).length = 8 := hexK_length 8 _
theorem hexV_txt {b : Nat} (h : b < 4294967296) : hexV 0 (txt b) = some (cn b) := by
  unfold txt
  rw [hexV_hexK 8 0 (cn b) (by simpa using cn_lt h)]; simp
theorem numL_some {l : List UInt8} {b : Nat} (h : numL l = some b) : l.length = 8 ∧ hexV 0 l = some b ∧ cn b = b ∧ b < 4294967296 ∧ l = txt b := by
  unfold numL at h
  split at h
  · rename_i hl
    cases hv : hexV 0 l with
    | none => rw [hv] at h; cases h
    | some b' =>
      rw [hv] at h
      have h : (if cn b' = b' then some b' else none) = some b := h
      split at h
      · rename_i hc
        injection h with h
        subst h
        obtain ⟨u, h1, h2, h3⟩ := hexK_hexV l 0 b' hv
        rw [hl] at h1 h2 h3
        have hu : b' = u := by omega
        subst hu
        exact ⟨hl, rfl, hc, by simpa using h1, by unfold txt; rw [hc]; exact h3⟩
      · cases h
  · cases h
theorem numL_txt {b : Nat} (h : b < 4294967296) : numL (txt b) = some (cn b) := by
  unfold numL
  rw [if_pos (txt_length b), hexV_txt h]
  show (if cn (cn b) = cn b then some (cn b) else none) = _
  exact if_pos (cnk_cnk .f32 b)
theorem numL_cases {l : List UInt8} {n : Nat} (h : hexU 4294967295 0 l = .inl n) : n < 4294967296 ∧ ((txt n = l ∧ numL l = some n) ∨ (txt n ≠ l ∧ numL l = none)) := by
  have hn := hexU_le _ l 0 n (by omega) h
  refine ⟨by omega, ?_⟩
  by_cases ht : txt n = l
  · left
    have e := numL_txt (b := n) (by omega)
    have e2 := hexU_of 4294967295 (txt n) 0 (cn n) (hexV_txt (by omega)) (by have := cn_lt (b := n) (by omega); omega)
    rw [ht, h] at e2
    injection e2 with e2
    rw [ht, ← e2] at e
    exact ⟨ht, e⟩
  · right
    refine ⟨ht, ?_⟩
    cases hm : numL l with
    | none => rfl
    | some b =>
      obtain ⟨h1, h2, h3, h4, h5⟩ := numL_some hm
      have e := hexU_of 4294967295 l 0 b h2 (by omega)
      rw [h] at e
      injection e with e
      exact absurd (by rw [e]; exact h5.symm) ht
theorem numL_none {l : List UInt8} (h : ∀ n, hexU 4294967295 0 l ≠ .inl n) : numL l = none := by
  cases hm : numL l with
  | none => rfl
  | some b =>
    obtain ⟨h1, h2, h3, h4, h5⟩ := numL_some hm
    exact absurd (hexU_of 4294967295 l 0 b h2 (by omega)) (h b)
/-- No text of a number holds a byte that is no digit. -/
theorem numL_digits {l : List UInt8} {b : Nat} (h : numL l = some b) : ∀ c ∈ l, ∃ d, hexD c = some d := by
  have hv := (numL_some h).2.1
  have go : ∀ (l : List UInt8) (a b : Nat), hexV a l = some b → ∀ c ∈ l, ∃ d, hexD c = some d := by
    intro l
    induction l with
    | nil => intro a b _ c hc; cases hc
    | cons x l ih =>
      intro a b h c hc
      unfold hexV at h
      cases hd : hexD x with
      | none => rw [hd] at h; cases h
      | some d =>
        rw [hd] at h
        rcases List.mem_cons.1 hc with rfl | hc
        · exact ⟨d, hd⟩
        · exact ih _ _ h c hc
  exact go l 0 b hv
/-- What a reader gives: the number (0 if there is none), and the code. -/
def numB (l : List UInt8) : Nat := (numL l).getD 0
def numC (l : List UInt8) : Int := if (numL l).isSome then 0 else 5
end Go.Proofs.YtdnnjahdcabdmaaGreatDoor
/- A text cut at the first of some byte, and at all of them: plain laws; no statement is proved here. -/
namespace Go.Proofs.YtdnnjahdcabdmaaGreatDoor
open Go.ChangeShapes Go.WideShapes Go.ChangeAt Go.RowKit
set_option linter.unusedVariables false

theorem index_split (c : UInt8) : ∀ l : List UInt8, (∃ i : Nat, Lib.index l [c] = i ∧ i < l.length ∧ splitL c l = l.take i :: splitL c (l.drop (i + 1))) ∨ (Lib.index l [c] = -1 ∧ splitL c l = [l])
  | [] => .inr ⟨by simp [Lib.index], rfl⟩
  | b :: l => by
    by_cases hb : b = c
    · subst hb
      left
      exact ⟨0, by simp [Lib.index], by simp, by simp [splitL]⟩
    · have hp : ([c].isPrefixOf (b :: l)) = false := by simp [List.isPrefixOf]; intro h; exact hb h.symm
      rcases index_split c l with ⟨i, h1, h2, h3⟩ | ⟨h1, h2⟩
      · left
        refine ⟨i + 1, ?_, by simp; omega, ?_⟩
        · rw [Lib.index, hp, h1]
          simp
        · rw [splitL, if_neg hb, h3]; simp
      · right
        refine ⟨?_, ?_⟩
        · rw [Lib.index, hp, h1]; simp
        · rw [splitL, if_neg hb, h2]
theorem cut_split (c : UInt8) (l : List UInt8) : (∃ p q, Lib.cut l [c] = (p, q, true) ∧ splitL c l = p :: splitL c q) ∨ (Lib.cut l [c] = (l, [], false) ∧ splitL c l = [l]) := by
  rcases index_split c l with ⟨i, h1, h2, h3⟩ | ⟨h1, h2⟩
  · left
    refine ⟨l.take i, l.drop (i + 1), ?_, h3⟩
    unfold Lib.cut
    rw [h1, if_pos (by omega)]
    rfl
  · right
    refine ⟨?_, h2⟩
    unfold Lib.cut
    rw [h1, if_neg (by decide)]
theorem splitL_one {c : UInt8} : ∀ {l : List UInt8}, c ∉ l → splitL c l = [l]
  | [], _ => rfl
  | x :: l, h => by
    rw [splitL, if_neg (fun e => h (by rw [e]; exact List.mem_cons_self)), splitL_one (fun e => h (List.mem_cons_of_mem _ e))]
theorem splitL_mem {c : UInt8} : ∀ {l : List UInt8}, c ∈ l → 2 ≤ (splitL c l).length
  | [], h => by cases h
  | x :: l, h => by
    rw [splitL]
    split
    · have := List.length_pos_iff.2 (splitL_ne c l)
      simp; omega
    · rename_i hx
      have hm : c ∈ l := by
        rcases List.mem_cons.1 h with e | e
        · exact absurd e.symm hx
        · exact e
      have ih := splitL_mem hm
      cases hs : splitL c l with
      | nil => rw [hs] at ih; simp at ih
      | cons a t => rw [hs] at ih; simpa using ih
theorem numL_nil : numL [] = none := rfl
theorem numL_space {l : List UInt8} (h : (32 : UInt8) ∈ l) : numL l = none := by
  cases hm : numL l with
  | none => rfl
  | some b =>
    obtain ⟨d, hd⟩ := numL_digits hm 32 h
    exact absurd (hd.symm.trans (show hexD 32 = none by decide)) (by simp)
theorem numC_none {l : List UInt8} (h : numL l = none) : numC l = 5 := by unfold numC; rw [h]; rfl
theorem numC_cases (l : List UInt8) : numC l = 0 ∨ numC l = 5 := by
  unfold numC; cases numL l <;> simp
/-- The two halves of a text, and what the reference's words have to do with them. -/
theorem wave_words (l : List UInt8) : (splitL 32 l = [(Lib.cut l [32]).1, (Lib.cut l [32]).2.1]) ∨ ((splitL 32 l).length ≠ 2 ∧ numC (Lib.cut l [32]).2.1 = 5) := by
  rcases cut_split 32 l with ⟨p, q, h1, h2⟩ | ⟨h1, h2⟩
  · rw [h1]
    by_cases hq : (32 : UInt8) ∈ q
    · right
      have := splitL_mem hq
      exact ⟨by rw [h2]; simp; omega, numC_none (numL_space hq)⟩
    · left
      rw [h2, splitL_one hq]
  · right
    rw [h1, h2]
    exact ⟨by simp, numC_none numL_nil⟩
end Go.Proofs.YtdnnjahdcabdmaaGreatDoor
