/- A text cut at a byte, in the reference: the walk. -/
import Derived.Test.YtcojgmgoiopboaaGreatDoorApp
import Derived.Test.YtcojgmgoiopboaaGreatDoorFlt
namespace Go.Proofs.YtcojgmgoiopboaaGreatDoor
open Go.ChangeShapes Go.WideShapes Go.ChangeAt Go.RowKit
set_option linter.unusedVariables false
set_option linter.unusedSimpArgs false
attribute [local irreducible] Calls

/-- A text's words between a byte. -/
def splitL (c : UInt8) : List UInt8 → List (List UInt8)
  | [] => [[]]
  | x :: l => if x = c then [] :: splitL c l else match splitL c l with | h :: t => (x :: h) :: t | [] => [[x]]
def preL (p : List UInt8) : List (List UInt8) → List (List UInt8)
  | h :: t => (p ++ h) :: t
  | [] => [p]
theorem splitL_ne (c : UInt8) (l : List UInt8) : splitL c l ≠ [] := by
  cases l with
  | nil => simp [splitL]
  | cons x l =>
    unfold splitL
    split
    · simp
    · split <;> simp
theorem preL_nil {L : List (List UInt8)} (h : L ≠ []) : preL [] L = L := by cases L <;> simp_all [preL]
theorem splitL_hit (c : UInt8) (l : List UInt8) (p : List UInt8) : preL p (splitL c (c :: l)) = p :: splitL c l := by
  rw [splitL, if_pos rfl]; simp [preL]
theorem splitL_miss {c x : UInt8} (h : x ≠ c) (l : List UInt8) (p : List UInt8) : preL p (splitL c (x :: l)) = preL (p ++ [x]) (splitL c l) := by
  rw [splitL, if_neg h]
  cases hs : splitL c l with
  | nil => exact absurd hs (splitL_ne c l)
  | cons a t => simp [preL]
theorem splitL_length (c : UInt8) : ∀ l : List UInt8, (splitL c l).length ≤ l.length + 1
  | [] => by simp [splitL]
  | x :: l => by
    have ih := splitL_length c l
    rw [splitL]
    split
    · simp; omega
    · cases hs : splitL c l with
      | nil => simp
      | cons a t => rw [hs] at ih; simp at ih ⊢; omega
/-- The values of words. -/
def strs (L : List (List UInt8)) : List Value := L.map fun l => .string ⟨l.toArray⟩
theorem strs_length (L : List (List UInt8)) : (strs L).length = L.length := by simp [strs]
theorem strs_snoc (L : List (List UInt8)) (l : List UInt8) : strs L ++ [.string ⟨l.toArray⟩] = strs (L ++ [l]) := by simp [strs]
theorem strs_get {L : List (List UInt8)} {j : Nat} {l : List UInt8} (h : L[j]? = some l) : (strs L)[j]? = some (.string ⟨l.toArray⟩) := by simp [strs, h]
theorem elStr : ElemTy Tryz.prog 38 9 1 16 := elem_of (z := .string ⟨#[]⟩) Tryz.underlying38 (by kernel_rfl) rfl
theorem extract_eq (s : ByteArray) (f k : Nat) : s.extract f k = ⟨((s.data.toList.drop f).take (k - f)).toArray⟩ := by
  rcases s with ⟨d⟩
  apply congrArg ByteArray.mk (a₁ := (ByteArray.extract ⟨d⟩ f k).data)
  rcases d with ⟨l⟩
  simp [ByteArray.data_extract, List.extract_eq_take_drop]
set_option maxRecDepth 100000 in
set_option maxHeartbeats 4000000 in
theorem l01Split_any (s : ByteArray) (c : UInt8) (hs : s.size ≤ 1048576) (w : World) :
    Calls Tryz.prog 13 #[.string s, .int .u8 c.toNat] w fun e w' => ∃ v g, e = .returned v ∧ Own w' g 9 1 v (splitL c s.data.toList).length (strs (splitL c s.data.toList)) ∧ w.heap.size ≤ g ∧ Below w.heap.size w w' := by
  have hidx : ∀ (k : Nat) (h : k < s.size) w', (Instr.index 9 (.string s) (.int .i64 (k : Int))).run Tryz.prog w' = .ok (.int .u8 ((s.data.toList.getD k 0).toNat : Int)) w' := fun k h w' => by
    rw [run_index_string w' 9 _ .i64 _ Tryz.underlying9, dif_pos ⟨by omega, by omega⟩]
    have e2 : ((k : Int)).toNat = k := by omega
    simp only [e2]
    rw [List.getD_eq_getElem?_getD, List.getElem?_eq_getElem (show k < s.data.toList.length from h)]
    rfl
  have HX := Lib.hid hidx
  have hl : s.data.toList.length = s.size := rfl
  have HL := Lib.hid hl
  have HE := Lib.hid (extract_eq s)
  clear hidx hl
  generalize s.data.toList = bs at *
  go_enter Tryz.func13, Tryz.ntmps13
  go_upto_region 4 with fail
  have hO : Own (w.alloc (.cells #[] 9)) w.heap.size 9 1 (.slice (some ⟨w.heap.size, 0, none⟩) 0 0) 0 (strs []) := own_blk (Blk.new _ _ _) rfl (by decide) rfl
  have hbel := below1 w (.cells #[] 9)
  generalize w.alloc (.cells #[] 9) = W at *
  go_loopw [5, 6, 7] (fun vo vf vi wr => ∃ (L : List (List UInt8)) (f k g : Nat), vf = .int .i64 f ∧ vi = .int .i64 k ∧ f ≤ k ∧ k ≤ s.size ∧ L.length ≤ k ∧ Hid (splitL c bs = L ++ preL ((bs.drop f).take (k - f)) (splitL c (bs.drop k))) ∧ Own wr g 9 1 vo L.length (strs L) ∧ w.heap.size ≤ g ∧ Below w.heap.size w wr) (fun _ _ vi _ => s.size - (intOf vi).toNat)
  case atStart => exact ⟨[], 0, 0, w.heap.size, rfl, rfl, by omega, by omega, by simp, Lib.hid (by simp [preL_nil (splitL_ne c bs)]), hO, Nat.le_refl _, hbel⟩
  case round =>
    clear hO hbel
    obtain ⟨L, f, k, g, rfl, rfl, hf, hk, hLk, hsp, hO, hg, hbel⟩ := hrel
    have bk : (0 : Int) ≤ k := by omega
    have bf : (0 : Int) ≤ f := by omega
    have bfk : (f : Int) ≤ k := by omega
    have lO := hO.lt
    by_cases hlt : k < s.size
    · have bl : (k : Int) < s.size := by omega
      have hix := fun w' => HX.out k hlt w'
      have hlb : k < bs.length := by rw [HL.out]; exact hlt
      have hdrop : bs.drop k = bs[k] :: bs.drop (k + 1) := List.drop_eq_getElem_cons hlb
      have hget : bs.getD k 0 = bs[k] := by rw [List.getD_eq_getElem?_getD, List.getElem?_eq_getElem hlb]; rfl
      have htake : (bs.drop f).take (k - f) ++ [bs[k]] = (bs.drop f).take (k + 1 - f) := by
        have e : (bs.drop f)[k - f]? = some bs[k] := by rw [List.getElem?_drop, show f + (k - f) = k by omega, List.getElem?_eq_getElem hlb]
        rw [show k + 1 - f = (k - f) + 1 by omega, List.take_add_one, e]; rfl
      rw [hget] at hix
      have hsp2 := hsp.out
      rw [hdrop] at hsp2
      clear hdrop hget
      by_cases hc : bs[k] = c
      · rw [hc, splitL_hit] at hsp2
        have HS : Hid (splitL c bs = (L ++ [(bs.drop f).take (k - f)]) ++ preL ((bs.drop (k + 1)).take (k + 1 - (k + 1))) (splitL c (bs.drop (k + 1)))) := Lib.hid (by
          rw [Nat.sub_self, List.take_zero, preL_nil (splitL_ne _ _), hsp2]; simp)
        have hex := HE.out f k
        rw [hc] at hix
        clear hc hsp2 htake
        have hO' := hO
        have hsz := hbel.size
        go_upto_region 5 with (at_builtin; refine wpList_app elStr rfl rfl rfl rfl Nat.one_pos (hO'.alloc _) (Blk.new _ _ _) rfl ?_ ?_ ?_ ?_; (· intro u hu; simp at hu; subst hu; rfl); (· unfold maxLen; omega); (· omega); intro v1 w1 g1 hown1 hgr1 hg1)
        go_wp2_with fail
        go_roundw
        case rel =>
          have hb1 := (hbel.alloc hsz (.cells #[.string ⟨((bs.drop f).take (k - f)).toArray⟩] 9)).grown hgr1 (by simp; omega) (fun q hq => by injection hq with hq; omega)
          have hown1 := hown1
          rw [show ∀ u : Value, (#[u] : Array Value).toList = [u] from fun _ => rfl, strs_snoc] at hown1
          exact ⟨L ++ [(bs.drop f).take (k - f)], k + 1, k + 1, g1, by go_num, by go_num, Nat.le_refl _, by omega, by simp; omega, HS, by simpa using hown1, by simp at hg1; omega, hb1⟩
        case measure => simp [intOf]; omega
      · rw [splitL_miss hc, htake] at hsp2
        have HS := Lib.hid hsp2
        have hne : ¬ ((bs[k].toNat : Nat) : Int) = (c.toNat : Int) := fun h => hc (UInt8.toNat_inj.1 (by omega))
        generalize bs[k] = x at *
        clear hc hsp2 htake
        go_wp2_with fail
        go_roundw
        case rel => exact ⟨L, f, k + 1, g, rfl, by go_num, by omega, by omega, by omega, HS, hO, hg, hbel⟩
        case measure => simp [intOf]; omega
    · obtain rfl : k = s.size := by omega
      have hsp2 := hsp.out
      rw [List.drop_eq_nil_of_le (show bs.length ≤ s.size by rw [HL.out]; exact Nat.le_refl _)] at hsp2
      have HS : Hid (splitL c bs = L ++ [(bs.drop f).take (s.size - f)]) := Lib.hid (by rw [hsp2]; simp [splitL, preL])
      have hex := HE.out f s.size
      have hsz := hbel.size
      clear hsp2
      go_wp2_with (at_builtin; refine wpList_app elStr rfl rfl rfl rfl Nat.one_pos (hO.alloc _) (Blk.new _ _ _) rfl ?_ ?_ ?_ ?_; (· intro u hu; simp at hu; subst hu; rfl); (· unfold maxLen; omega); (· omega); intro v1 w1 g1 hown1 hgr1 hg1)
      go_ret
      have hb1 := (hbel.alloc hsz (.cells #[.string ⟨((bs.drop f).take (s.size - f)).toArray⟩] 9)).grown hgr1 (by simp; omega) (fun q hq => by injection hq with hq; omega)
      rw [strs_snoc] at hown1
      exact ⟨v1, rfl, g1, by rw [HS.out]; simpa using hown1, by simp at hg1; omega, hb1⟩
end Go.Proofs.YtcojgmgoiopboaaGreatDoor
