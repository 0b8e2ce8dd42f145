import Derived.Test.YtcojgmgoiopboaaGreatDoorMR05
import Derived.Test.YtcojgmgoiopboaaGreatDoorMR01
import Derived.Test.YtcojgmgoiopboaaGreatDoorMR02
import Derived.Lib.CutLaws
import Derived.Lib.ItoaMem
/- A text cut at a byte, in the reference: the walk. -/
namespace Go.Proofs.YtcojgmgoiopboaaGreatDoor
open Go.ChangeShapes Go.WideShapes Go.ChangeAt Go.RowKit
set_option linter.unusedVariables false
set_option linter.unusedSimpArgs false
attribute [local irreducible] Calls

/-- A text's words between a byte. -/
def splitL (c : UInt8) : List UInt8 → List (List UInt8)
  | [] => [[]]
  | x :: l => if x = c then [] :: splitL c l else match splitL c l with | h :: t => (x :: h) :: t | [] => [[x]]
def preL (p : List UInt8) : List (List UInt8) → List (List UInt8)
  | h :: t => (p ++ h) :: t
  | [] => [p]
theorem splitL_ne (c : UInt8) (l : List UInt8) : splitL c l ≠ [] := by
  cases l with
  | nil => simp [splitL]
  | cons x l =>
    unfold splitL
    split
    · simp
    · split <;> simp
theorem preL_nil {L : List (List UInt8)} (h : L ≠ []) : preL [] L = L := by cases L <;> simp_all [preL]
theorem splitL_hit (c : UInt8) (l : List UInt8) (p : List UInt8) : preL p (splitL c (c :: l)) = p :: splitL c l := by
  rw [splitL, if_pos rfl]; simp [preL]
theorem splitL_miss {c x : UInt8} (h : x ≠ c) (l : List UInt8) (p : List UInt8) : preL p (splitL c (x :: l)) = preL (p ++ [x]) (splitL c l) := by
  rw [splitL, if_neg h]
  cases hs : splitL c l with
  | nil => exact absurd hs (splitL_ne c l)
  | cons a t => simp [preL]
theorem splitL_length (c : UInt8) : ∀ l : List UInt8, (splitL c l).length ≤ l.length + 1
  | [] => by simp [splitL]
  | x :: l => by
    have ih := splitL_length c l
    rw [splitL]
    split
    · simp; omega
    · cases hs : splitL c l with
      | nil => simp
      | cons a t => rw [hs] at ih; simp at ih ⊢; omega
/-- The values of words. -/
def strs (L : List (List UInt8)) : List Value := L.map fun l => .string ⟨l.toArray⟩
theorem strs_length (L : List (List UInt8)) : (strs L).length = L.length := by simp [strs]
theorem strs_snoc (L : List (List UInt8)) (l : List UInt8) : strs L ++ [.string ⟨l.toArray⟩] = strs (L ++ [l]) := by simp [strs]
theorem strs_get {L : List (List UInt8)} {j : Nat} {l : List UInt8} (h : L[j]? = some l) : (strs L)[j]? = some (.string ⟨l.toArray⟩) := by simp [strs, h]
theorem elStr : ElemTy Tryz.prog 38 9 1 16 := elem_of (z := .string ⟨#[]⟩) Tryz.underlying38 (by kernel_rfl) rfl
theorem extract_eq (s : ByteArray) (f k : Nat) : s.extract f k = ⟨((s.data.toList.drop f).take (k - f)).toArray⟩ := by
  rcases s with ⟨d⟩
  apply congrArg ByteArray.mk (a₁ := (ByteArray.extract ⟨d⟩ f k).data)
  rcases d with ⟨l⟩
  simp [ByteArray.data_extract, List.extract_eq_take_drop]
set_option maxRecDepth 100000 in
set_option maxHeartbeats 4000000 in
theorem l01Split_any (s : ByteArray) (c : UInt8) (hs : s.size ≤ 1048576) (w : World) :
    Calls Tryz.prog 13 #[.string s, .int .u8 c.toNat] w fun e w' => ∃ v g, e = .returned v ∧ Own w' g 9 1 v (splitL c s.data.toList).length (strs (splitL c s.data.toList)) ∧ w.heap.size ≤ g ∧ Below w.heap.size w w' := by
  have hidx : ∀ (k : Nat) (h : k < s.size) w', (Instr.index 9 (.string s) (.int .i64 (k : Int))).run Tryz.prog w' = .ok (.int .u8 ((s.data.toList.getD k 0).toNat : Int)) w' := fun k h w' => by
    rw [run_index_string w' 9 _ .i64 _ Tryz.underlying9, dif_pos ⟨by omega, by omega⟩]
    have e2 : ((k : Int)).toNat = k := by omega
    simp only [e2]
    rw [List.getD_eq_getElem?_getD, List.getElem?_eq_getElem (show k < s.data.toList.length from h)]
    rfl
  have HX := Lib.hid hidx
  have hl : s.data.toList.length = s.size := rfl
  have HL := Lib.hid hl
  have HE := Lib.hid (extract_eq s)
  clear hidx hl
  generalize s.data.toList = bs at *
  go_enter Tryz.func13, Tryz.ntmps13
  go_upto_region 4 with fail
  have hO : Own (w.alloc (.cells #[] 9)) w.heap.size 9 1 (.slice (some ⟨w.heap.size, 0, none⟩) 0 0) 0 (strs []) := own_blk (Blk.new _ _ _) rfl (by decide) rfl
  have hbel := below1 w (.cells #[] 9)
  generalize w.alloc (.cells #[] 9) = W at *
  go_loopw [5, 6, 7] (fun vo vf vi wr => ∃ (L : List (List UInt8)) (f k g : Nat), vf = .int .i64 f ∧ vi = .int .i64 k ∧ f ≤ k ∧ k ≤ s.size ∧ L.length ≤ k ∧ Hid (splitL c bs = L ++ preL ((bs.drop f).take (k - f)) (splitL c (bs.drop k))) ∧ Own wr g 9 1 vo L.length (strs L) ∧ w.heap.size ≤ g ∧ Below w.heap.size w wr) (fun _ _ vi _ => s.size - (intOf vi).toNat)
  case atStart => exact ⟨[], 0, 0, w.heap.size, rfl, rfl, by omega, by omega, by simp, Lib.hid (by simp [preL_nil (splitL_ne c bs)]), hO, Nat.le_refl _, hbel⟩
  case round =>
    clear hO hbel
    obtain ⟨L, f, k, g, rfl, rfl, hf, hk, hLk, hsp, hO, hg, hbel⟩ := hrel
    have bk : (0 : Int) ≤ k := by omega
    have bf : (0 : Int) ≤ f := by omega
    have bfk : (f : Int) ≤ k := by omega
    have lO := hO.lt
    by_cases hlt : k < s.size
    · have bl : (k : Int) < s.size := by omega
      have hix := fun w' => HX.out k hlt w'
      have hlb : k < bs.length := by rw [HL.out]; exact hlt
      have hdrop : bs.drop k = bs[k] :: bs.drop (k + 1) := List.drop_eq_getElem_cons hlb
      have hget : bs.getD k 0 = bs[k] := by rw [List.getD_eq_getElem?_getD, List.getElem?_eq_getElem hlb]; rfl
      have htake : (bs.drop f).take (k - f) ++ [bs[k]] = (bs.drop f).take (k + 1 - f) := by
        have e : (bs.drop f)[k - f]? = some bs[k] := by rw [List.getElem?_drop, show f + (k - f) = k by omega, List.getElem?_eq_getElem hlb]
        rw [show k + 1 - f = (k - f) + 1 by omega, List.take_add_one, e]; rfl
      rw [hget] at hix
      have hsp2 := hsp.out
      rw [hdrop] at hsp2
      clear hdrop hget
      by_cases hc : bs[k] = c
      · rw [hc, splitL_hit] at hsp2
        have HS : Hid (splitL c bs = (L ++ [(bs.drop f).take (k - f)]) ++ preL ((bs.drop (k + 1)).take (k + 1 - (k + 1))) (splitL c (bs.drop (k + 1)))) := Lib.hid (by
          rw [Nat.sub_self, List.take_zero, preL_nil (splitL_ne _ _), hsp2]; simp)
        have hex := HE.out f k
        rw [hc] at hix
        clear hc hsp2 htake
        have hO' := hO
        have hsz := hbel.size
        go_upto_region 5 with (at_builtin; refine wpList_app elStr rfl rfl rfl rfl Nat.one_pos (hO'.alloc _) (Blk.new _ _ _) rfl ?_ ?_ ?_ ?_; (· intro u hu; simp at hu; subst hu; rfl); (· unfold maxLen; omega); (· omega); intro v1 w1 g1 hown1 hgr1 hg1)
        go_wp2_with fail
        go_roundw
        case rel =>
          have hb1 := (hbel.alloc hsz (.cells #[.string ⟨((bs.drop f).take (k - f)).toArray⟩] 9)).grown hgr1 (by simp; omega) (fun q hq => by injection hq with hq; omega)
          have hown1 := hown1
          rw [show ∀ u : Value, (#[u] : Array Value).toList = [u] from fun _ => rfl, strs_snoc] at hown1
          exact ⟨L ++ [(bs.drop f).take (k - f)], k + 1, k + 1, g1, by go_num, by go_num, Nat.le_refl _, by omega, by simp; omega, HS, by simpa using hown1, by simp at hg1; omega, hb1⟩
        case measure => simp [intOf]; omega
      · rw [splitL_miss hc, htake] at hsp2
        have HS := Lib.hid hsp2
        have hne : ¬ ((bs[k].toNat : Nat) : Int) = (c.toNat : Int) := fun h => hc (UInt8.toNat_inj.1 (by omega))
        generalize bs[k] = x at *
        clear hc hsp2 htake
        go_wp2_with fail
        go_roundw
        case rel => exact ⟨L, f, k + 1, g, rfl, by go_num, by omega, by omega, by omega, HS, hO, hg, hbel⟩
        case measure => simp [intOf]; omega
    · obtain rfl : k = s.size := by omega
      have hsp2 := hsp.out
      rw [List.drop_eq_nil_of_le (show bs.length ≤ s.size by rw [HL.out]; exact Nat.le_refl _)] at hsp2
      have HS : Hid (splitL c bs = L ++ [(bs.drop f).take (s.size - f)]) := Lib.hid (by rw [hsp2]; simp [splitL, preL])
      have hex := HE.out f s.size
      have hsz := hbel.size
      clear hsp2
      go_wp2_with (at_builtin; refine wpList_app elStr rfl rfl rfl rfl Nat.one_pos (hO.alloc _) (Blk.new _ _ _) rfl ?_ ?_ ?_ ?_; (· intro u hu; simp at hu; subst hu; rfl); (· unfold maxLen; omega); (· omega); intro v1 w1 g1 hown1 hgr1 hg1)
      go_ret
      have hb1 := (hbel.alloc hsz (.cells #[.string ⟨((bs.drop f).take (s.size - f)).toArray⟩] 9)).grown hgr1 (by simp; omega) (fun q hq => by injection hq with hq; omega)
      rw [strs_snoc] at hown1
      exact ⟨v1, rfl, g1, by rw [HS.out]; simpa using hown1, by simp at hg1; omega, hb1⟩
end Go.Proofs.YtcojgmgoiopboaaGreatDoor
/- A text cut at the first of some byte, and at all of them: plain laws; no statement is proved here. -/
namespace Go.Proofs.YtcojgmgoiopboaaGreatDoor
open Go.ChangeShapes Go.WideShapes Go.ChangeAt Go.RowKit
set_option linter.unusedVariables false

theorem index_split (c : UInt8) : ∀ l : List UInt8, (∃ i : Nat, Lib.index l [c] = i ∧ i < l.length ∧ splitL c l = l.take i :: splitL c (l.drop (i + 1))) ∨ (Lib.index l [c] = -1 ∧ splitL c l = [l])
  | [] => .inr ⟨by simp [Lib.index], rfl⟩
  | b :: l => by
    by_cases hb : b = c
    · subst hb
      left
      exact ⟨0, by simp [Lib.index], by simp, by simp [splitL]⟩
    · have hp : ([c].isPrefixOf (b :: l)) = false := by simp [List.isPrefixOf]; intro h; exact hb h.symm
      rcases index_split c l with ⟨i, h1, h2, h3⟩ | ⟨h1, h2⟩
      · left
        refine ⟨i + 1, ?_, by simp; omega, ?_⟩
        · rw [Lib.index, hp, h1]
          simp
        · rw [splitL, if_neg hb, h3]; simp
      · right
        refine ⟨?_, ?_⟩
        · rw [Lib.index, hp, h1]; simp
        · rw [splitL, if_neg hb, h2]
theorem cut_split (c : UInt8) (l : List UInt8) : (∃ p q, Lib.cut l [c] = (p, q, true) ∧ splitL c l = p :: splitL c q) ∨ (Lib.cut l [c] = (l, [], false) ∧ splitL c l = [l]) := by
  rcases index_split c l with ⟨i, h1, h2, h3⟩ | ⟨h1, h2⟩
  · left
    refine ⟨l.take i, l.drop (i + 1), ?_, h3⟩
    unfold Lib.cut
    rw [h1, if_pos (by omega)]
    rfl
  · right
    refine ⟨?_, h2⟩
    unfold Lib.cut
    rw [h1, if_neg (by decide)]
theorem splitL_one {c : UInt8} : ∀ {l : List UInt8}, c ∉ l → splitL c l = [l]
  | [], _ => rfl
  | x :: l, h => by
    rw [splitL, if_neg (fun e => h (by rw [e]; exact List.mem_cons_self)), splitL_one (fun e => h (List.mem_cons_of_mem _ e))]
theorem splitL_mem {c : UInt8} : ∀ {l : List UInt8}, c ∈ l → 2 ≤ (splitL c l).length
  | [], h => by cases h
  | x :: l, h => by
    rw [splitL]
    split
    · have := List.length_pos_iff.2 (splitL_ne c l)
      simp; omega
    · rename_i hx
      have hm : c ∈ l := by
        rcases List.mem_cons.1 h with e | e
        · exact absurd e.symm hx
        · exact e
      have ih := splitL_mem hm
      cases hs : splitL c l with
      | nil => rw [hs] at ih; simp at ih
      | cons a t => rw [hs] at ih; simpa using ih
theorem numL_nil : numL [] = none := rfl
theorem numL_space {l : List UInt8} (h : (32 : UInt8) ∈ l) : numL l = none := by
  cases hm : numL l with
  | none => rfl
  | some b =>
    obtain ⟨d, hd⟩ := numL_digits hm 32 h
    exact absurd (hd.symm.trans (show hexD 32 = none by decide)) (by simp)
theorem numC_none {l : List UInt8} (h : numL l = none) : numC l = 5 := by unfold numC; rw [h]; rfl
theorem numC_cases (l : List UInt8) : numC l = 0 ∨ numC l = 5 := by
  unfold numC; cases numL l <;> simp
/-- The two halves of a text, and what the reference's words have to do with them. -/
theorem wave_words (l : List UInt8) : (splitL 32 l = [(Lib.cut l [32]).1, (Lib.cut l [32]).2.1]) ∨ ((splitL 32 l).length ≠ 2 ∧ numC (Lib.cut l [32]).2.1 = 5) := by
  rcases cut_split 32 l with ⟨p, q, h1, h2⟩ | ⟨h1, h2⟩
  · rw [h1]
    by_cases hq : (32 : UInt8) ∈ q
    · right
      have := splitL_mem hq
      exact ⟨by rw [h2]; simp; omega, numC_none (numL_space hq)⟩
    · left
      rw [h2, splitL_one hq]
  · right
    rw [h1, h2]
    exact ⟨by simp, numC_none numL_nil⟩
end Go.Proofs.YtcojgmgoiopboaaGreatDoor
/- Whole numbers written with decimal digits: plain laws; no statement is proved here. -/
namespace Go.Proofs.YtcojgmgoiopboaaGreatDoor
open Go.ChangeShapes Go.WideShapes Go.ChangeAt Go.RowKit
set_option linter.unusedVariables false

/-- The value of decimal digits behind a. -/
def decV : Nat → List UInt8 → Option Nat
  | a, [] => some a
  | a, c :: l => if 48 ≤ c.toNat ∧ c.toNat ≤ 57 then decV (a * 10 + (c.toNat - 48)) l else none
/-- The number of one to nine digits with a text, as the reference reads it. -/
def decN (l : List UInt8) : Option Nat := if 1 ≤ l.length ∧ l.length ≤ 9 ∧ ¬ (l.head? = some 48 ∧ 1 < l.length) then decV 0 l else none

theorem decV_app : ∀ (l m : List UInt8) (a : Nat), decV a (l ++ m) = (decV a l).bind fun b => decV b m
  | [], m, a => rfl
  | c :: l, m, a => by
    show (if _ then _ else _) = ((if _ then _ else _ : Option Nat)).bind _
    split
    · exact decV_app l m _
    · rfl
theorem decV_le : ∀ (l : List UInt8) (a b : Nat), decV a l = some b → a * 10 ^ l.length ≤ b ∧ b < (a + 1) * 10 ^ l.length
  | [], a, b, h => by injection h with h; subst h; simp
  | c :: l, a, b, h => by
    have h : (if 48 ≤ c.toNat ∧ c.toNat ≤ 57 then decV (a * 10 + (c.toNat - 48)) l else none) = some b := h
    split at h
    · rename_i hc
      obtain ⟨h1, h2⟩ := decV_le l _ _ h
      have hp : 0 < 10 ^ l.length := Nat.pow_pos (by decide)
      have e : (c :: l).length = l.length + 1 := rfl
      rw [e, Nat.pow_succ]
      have e1 : a * (10 ^ l.length * 10) = (a * 10) * 10 ^ l.length := by rw [Nat.mul_comm (10 ^ l.length) 10, Nat.mul_assoc]
      have e2 : (a + 1) * (10 ^ l.length * 10) = (a * 10 + 10) * 10 ^ l.length := by rw [Nat.mul_comm (10 ^ l.length) 10, ← Nat.mul_assoc, Nat.add_mul]
      rw [e1, e2]
      refine ⟨Nat.le_trans (Nat.mul_le_mul_right _ (by omega)) h1, Nat.lt_of_lt_of_le h2 (Nat.mul_le_mul_right _ (by omega))⟩
    · cases h
theorem toNat_digit {n : Nat} (h : n < 10) : (UInt8.ofNat (48 + n)).toNat = 48 + n := by rw [UInt8.toNat_ofNat']; omega
theorem digit_toNat {c : UInt8} (h : 48 ≤ c.toNat ∧ c.toNat ≤ 57) : c = UInt8.ofNat (48 + (c.toNat - 48)) := by
  apply UInt8.toNat_inj.1
  rw [toNat_digit (by omega)]; omega
theorem decV_one (a d : Nat) (h : d < 10) : decV a [UInt8.ofNat (48 + d)] = some (a * 10 + d) := by
  unfold decV
  rw [if_pos (by rw [toNat_digit h]; omega), toNat_digit h]
  show some _ = _
  congr 1; omega
theorem decV_decDigits : ∀ (k u : Nat), u ≤ k → decV 0 (Lib.decDigits u) = some u
  | k, u, h => by
    by_cases hu : u < 10
    · rw [Lib.decDigits, dif_pos hu, decV_one 0 u hu]; simp
    · rw [Lib.decDigits, dif_neg hu, decV_app]
      cases k with
      | zero => omega
      | succ k =>
        rw [decV_decDigits k (u / 10) (by omega)]
        show decV (u / 10) [UInt8.ofNat (48 + u % 10)] = _
        rw [decV_one _ _ (Nat.mod_lt _ (by decide))]
        congr 1; omega
theorem decDigits_pos (u : Nat) : 1 ≤ (Lib.decDigits u).length := by
  rw [Lib.decDigits]; split <;> simp
theorem decDigits_head : ∀ (k u : Nat), u ≤ k → (Lib.decDigits u).head? = some 48 → u = 0
  | k, u, h, hh => by
    by_cases hu : u < 10
    · rw [Lib.decDigits, dif_pos hu] at hh
      have hh : UInt8.ofNat (48 + u) = 48 := by simpa using hh
      have := congrArg UInt8.toNat hh
      rw [toNat_digit hu] at this
      have h48 : (48 : UInt8).toNat = 48 := rfl
      omega
    · rw [Lib.decDigits, dif_neg hu] at hh
      cases k with
      | zero => omega
      | succ k =>
        have hp := decDigits_pos (u / 10)
        have h2 : (Lib.decDigits (u / 10)).head? = some 48 := by
          cases hd : Lib.decDigits (u / 10) with
          | nil => rw [hd] at hp; simp at hp
          | cons x t => rw [hd] at hh; simpa using hh
        have := decDigits_head k (u / 10) (by omega) h2
        omega
theorem decDigits_len_le : ∀ (k u : Nat), u < 10 ^ (k + 1) → (Lib.decDigits u).length ≤ k + 1
  | 0, u, h => by
    have h : u < 10 := by simpa using h
    rw [Lib.decDigits, dif_pos h]; simp
  | k + 1, u, h => by
    by_cases hu : u < 10
    · rw [Lib.decDigits, dif_pos hu]; simp
    · rw [Lib.decDigits, dif_neg hu]
      have := decDigits_len_le k (u / 10) (by
        apply Nat.div_lt_of_lt_mul; rw [Nat.pow_succ, Nat.mul_comm] at h; exact h)
      simp; omega
theorem decN_digits {u : Nat} (h : u < 1000000000) : decN (Lib.decDigits u) = some u := by
  unfold decN
  rw [if_pos, decV_decDigits u u (Nat.le_refl _)]
  refine ⟨decDigits_pos u, decDigits_len_le 8 u (by simpa using h), fun ⟨h1, h2⟩ => ?_⟩
  have := decDigits_head u u (Nat.le_refl _) h1
  subst this
  rw [Lib.decDigits, dif_pos (by decide)] at h2
  simp at h2
/-- Digits without a zero ahead are their number's numeral. -/
theorem digits_of_decV : ∀ (n : Nat) (l : List UInt8) (b : Nat), l.length ≤ n → decV 0 l = some b → 1 ≤ l.length → ¬ (l.head? = some 48 ∧ 1 < l.length) → Lib.decDigits b = l
  | n, l, b, hn, h, h1, h2 => by
    rcases List.eq_nil_or_concat l with rfl | ⟨m, c, rfl⟩
    · simp at h1
    · have hm : m.concat c = m ++ [c] := by simp
      rw [hm] at h h1 h2 hn ⊢
      rw [decV_app] at h
      cases hv : decV 0 m with
      | none => rw [hv] at h; cases h
      | some a =>
        rw [hv] at h
        have h : (if 48 ≤ c.toNat ∧ c.toNat ≤ 57 then some (a * 10 + (c.toNat - 48)) else none) = some b := h
        split at h
        · rename_i hc
          injection h with h
          have ec := digit_toNat hc
          by_cases hm0 : m = []
          · subst hm0
            injection hv with hv
            rw [Lib.decDigits, dif_pos (by omega), ← h, ← hv]
            rw [ec]
            have : UInt8.ofNat (48 + (c.toNat - 48)) = c := ec.symm
            simp [this]
          · have hml : 1 ≤ m.length := List.length_pos_iff.2 hm0
            have hml2 : m.length ≤ n - 1 := by simp at hn; omega
            have hh : ¬ (m.head? = some 48 ∧ 1 < m.length) := fun ⟨q1, q2⟩ => h2 ⟨by
              cases m with
              | nil => simp at hm0
              | cons x t => simpa using q1, by simp; omega⟩
            have hhead : m.head? ≠ some 48 := fun q => h2 ⟨by
              cases m with
              | nil => simp at hm0
              | cons x t => simpa using q, by simp; omega⟩
            cases n with
            | zero => simp at hn
            | succ n =>
              have ih := digits_of_decV n m a (by simp at hn; omega) hv hml hh
              have ha : a ≠ 0 := fun e => by
                subst e
                have e0 : Lib.decDigits 0 = [48] := by rw [Lib.decDigits, dif_pos (by decide)]; rfl
                rw [e0] at ih
                rw [← ih] at hhead
                simp at hhead
              rw [Lib.decDigits, dif_neg (by omega), ← h, show (a * 10 + (c.toNat - 48)) / 10 = a by omega, show (a * 10 + (c.toNat - 48)) % 10 = c.toNat - 48 by omega, ih, ← ec]
        · cases h
theorem decN_some {l : List UInt8} {b : Nat} (h : decN l = some b) : Lib.decDigits b = l ∧ b < 1000000000 := by
  unfold decN at h
  split at h
  · rename_i hc
    obtain ⟨h1, h2, h3⟩ := hc
    refine ⟨digits_of_decV l.length l b (Nat.le_refl _) h h1 h3, ?_⟩
    have h4 := (decV_le l 0 b h).2
    have h5 : 10 ^ l.length ≤ 10 ^ 9 := Nat.pow_le_pow_right (by decide) h2
    have h6 : 10 ^ 9 = 1000000000 := by decide
    omega
  · cases h
/-- All bytes of a numeral are digits. -/
theorem decDigits_digits : ∀ (k u : Nat), u ≤ k → ∀ c ∈ Lib.decDigits u, 48 ≤ c.toNat ∧ c.toNat ≤ 57
  | k, u, h, c, hc => by
    by_cases hu : u < 10
    · rw [Lib.decDigits, dif_pos hu] at hc
      have hc : c = UInt8.ofNat (48 + u) := by simpa using hc
      rw [hc, toNat_digit hu]; omega
    · rw [Lib.decDigits, dif_neg hu] at hc
      cases k with
      | zero => omega
      | succ k =>
        rcases List.mem_append.1 hc with hc | hc
        · exact decDigits_digits k (u / 10) (by omega) c hc
        · have hc : c = UInt8.ofNat (48 + u % 10) := by simpa using hc
          rw [hc, toNat_digit (Nat.mod_lt _ (by decide))]
          have := Nat.mod_lt u (show 10 > 0 by decide)
          omega
end Go.Proofs.YtcojgmgoiopboaaGreatDoor
/- Texts of lines and words: plain laws; no statement is proved here. -/
namespace Go.Proofs.YtcojgmgoiopboaaGreatDoor
open Go.ChangeShapes Go.WideShapes Go.ChangeAt Go.RowKit
set_option linter.unusedVariables false

theorem splitL_app {c : UInt8} : ∀ {a : List UInt8} (b : List UInt8), c ∉ a → splitL c (a ++ c :: b) = a :: splitL c b
  | [], b, _ => by show splitL c (c :: b) = _; rw [splitL, if_pos rfl]
  | x :: a, b, h => by
    have hx : x ≠ c := fun e => h (by rw [e]; exact List.mem_cons_self)
    show splitL c (x :: (a ++ c :: b)) = _
    rw [splitL, if_neg hx, splitL_app b (fun e => h (List.mem_cons_of_mem _ e))]
/-- Words with a byte between. -/
def glue (c : UInt8) : List (List UInt8) → List UInt8
  | [] => []
  | [a] => a
  | a :: b :: l => a ++ c :: glue c (b :: l)
theorem glue_split (c : UInt8) : ∀ l : List UInt8, glue c (splitL c l) = l
  | [] => rfl
  | x :: l => by
    have ih := glue_split c l
    rw [splitL]
    split
    · rename_i hx
      cases hs : splitL c l with
      | nil => exact absurd hs (splitL_ne c l)
      | cons a t => rw [hs] at ih; show [] ++ c :: glue c (a :: t) = _; rw [ih, hx]; rfl
    · cases hs : splitL c l with
      | nil => exact absurd hs (splitL_ne c l)
      | cons a t =>
        rw [hs] at ih
        show glue c ((x :: a) :: t) = _
        cases t with
        | nil => show x :: a = _; rw [← ih]; rfl
        | cons b t => show (x :: a) ++ c :: glue c (b :: t) = _; rw [← ih]; rfl
theorem splitL_glue {c : UInt8} : ∀ {L : List (List UInt8)}, L ≠ [] → (∀ a ∈ L, c ∉ a) → splitL c (glue c L) = L
  | [], h, _ => absurd rfl h
  | [a], _, h => splitL_one (h a (by simp))
  | a :: b :: L, _, h => by
    show splitL c (a ++ c :: glue c (b :: L)) = _
    rw [splitL_app _ (h a (by simp)), splitL_glue (by simp) (fun x hx => h x (List.mem_cons_of_mem _ hx))]
/-- No word holds the byte. -/
theorem splitL_not {c : UInt8} : ∀ (l : List UInt8), ∀ a ∈ splitL c l, c ∉ a
  | [], a, h => by have h : a = [] := by simpa [splitL] using h
                   rw [h]; simp
  | x :: l, a, h => by
    have ih := splitL_not (c := c) l
    rw [splitL] at h
    split at h
    · rcases List.mem_cons.1 h with rfl | h
      · simp
      · exact ih a h
    · rename_i hx
      cases hs : splitL c l with
      | nil => exact absurd hs (splitL_ne c l)
      | cons b t =>
        rw [hs] at h ih
        rcases List.mem_cons.1 h with rfl | h
        · intro hm
          rcases List.mem_cons.1 hm with e | e
          · exact hx e.symm
          · exact ih b List.mem_cons_self e
        · exact ih a (List.mem_cons_of_mem _ h)
/-- Lines with a byte behind each. -/
def lined (c : UInt8) (L : List (List UInt8)) : List UInt8 := L.flatMap fun a => a ++ [c]
theorem lined_cons (c : UInt8) (a : List UInt8) (L : List (List UInt8)) : lined c (a :: L) = a ++ c :: lined c L := by simp [lined]
theorem lined_snoc (c : UInt8) (L : List (List UInt8)) (a : List UInt8) : lined c (L ++ [a]) = lined c L ++ a ++ [c] := by simp [lined]
theorem splitL_lined {c : UInt8} : ∀ {L : List (List UInt8)}, (∀ a ∈ L, c ∉ a) → splitL c (lined c L) = L ++ [[]]
  | [], _ => rfl
  | a :: L, h => by
    rw [lined_cons, splitL_app _ (h a (by simp)), splitL_lined (fun x hx => h x (List.mem_cons_of_mem _ hx))]; rfl
theorem glue_lined (c : UInt8) : ∀ L : List (List UInt8), glue c (L ++ [[]]) = lined c L
  | [] => rfl
  | [a] => by simp [glue, lined]
  | a :: b :: L => by
    have ih := glue_lined c (b :: L)
    show a ++ c :: glue c ((b :: L) ++ [[]]) = _
    rw [ih, lined_cons, lined_cons, lined_cons]
/-- A text whose last line is empty. -/
theorem lined_of {c : UInt8} {l : List UInt8} {L : List (List UInt8)} (h : splitL c l = L ++ [[]]) : lined c L = l := by
  rw [← glue_lined, ← h, glue_split]
theorem dig_ne {n : Nat} (h : n < 16) (c : UInt8) (hc : c.toNat < 48) : dig n ≠ c := by
  intro e
  have := congrArg UInt8.toNat e
  rw [toNat_dig h] at this
  split at this <;> omega
theorem hexK_not (c : UInt8) (hc : c.toNat < 48) : ∀ k u, u < 16 ^ k → c ∉ hexK k u
  | 0, u, _ => by simp [hexK]
  | k + 1, u, h => by
    have h1 : u / 16 ^ k < 16 := by apply Nat.div_lt_of_lt_mul; rw [Nat.pow_succ] at h; exact h
    unfold hexK
    intro hm
    rcases List.mem_cons.1 hm with e | e
    · exact dig_ne h1 c hc e.symm
    · exact hexK_not c hc k _ (Nat.mod_lt _ (Nat.pow_pos (by decide))) e
theorem txt_not (b : Nat) (hb : b < 4294967296) (c : UInt8) (hc : c.toNat < 48) : c ∉ txt b := hexK_not c hc 8 _ (by simpa using cn_lt hb)
theorem decDigits_not (u : Nat) (c : UInt8) (hc : c.toNat < 48) : c ∉ Lib.decDigits u := fun h => by
  have := decDigits_digits u u (Nat.le_refl _) c h; omega
end Go.Proofs.YtcojgmgoiopboaaGreatDoor
