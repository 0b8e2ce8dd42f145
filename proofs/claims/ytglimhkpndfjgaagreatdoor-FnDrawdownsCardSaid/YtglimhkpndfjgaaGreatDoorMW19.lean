import Derived.Test.YtglimhkpndfjgaaGreatDoorMW12
import Derived.Test.YtglimhkpndfjgaaGreatDoorMW11
import Derived.Test.YtglimhkpndfjgaaGreatDoorMW18
import Derived.Test.YtglimhkpndfjgaaGreatDoorMW10
import Derived.Test.YtglimhkpndfjgaaGreatDoorMW16
import Derived.Test.YtglimhkpndfjgaaGreatDoorMW17
import Derived.Lib.AppendIntMem
import Derived.Test.YtglimhkpndfjgaaGreatDoorMW15
/- Draws of the sixth week: the words of an aquifer, of wells. -/
namespace Go.Proofs.YtglimhkpndfjgaaGreatDoor
open Go.ChangeShapes Go.WideShapes Go.ChangeAt Go.RowKit
set_option linter.unusedVariables false
set_option linter.unusedSimpArgs false
attribute [local irreducible] Calls
def aqT (x : Nat) : Nat := (floatBits .quo .f32 (floatOfInt .f32 (1 + (x : Int))) 1098907648).getD 0
def aqS (x : Nat) : Nat := (floatBits .quo .f32 (floatOfInt .f32 (1 + (x : Int))) 1149239296).getD 0
def aqOk (t s : Nat) : Bool := fge t 981467136 && fle t 1233125376 && fge s 897581056 && fle s 1065353216
theorem aqT_all : ∀ x : Nat, x < 800 → (floatBits .quo .f32 (floatOfInt .f32 (1 + (x : Int))) 1098907648).isSome = true ∧ (117 * 8388608 ≤ aqT x ∧ aqT x ≤ 147 * 8388608) ∧ fge (aqT x) 981467136 = true ∧ fle (aqT x) 1233125376 = true := by
  have h : (List.range 800).all (fun (x : Nat) => (floatBits .quo .f32 (floatOfInt .f32 (1 + (x : Int))) 1098907648).isSome && ((decide (117 * 8388608 ≤ aqT x) && decide (aqT x ≤ 147 * 8388608)) && (fge (aqT x) 981467136 && fle (aqT x) 1233125376))) = true := by kernel_rfl
  intro x hx
  have := List.all_eq_true.1 h x (List.mem_range.2 hx)
  simpa [and_assoc] using this
theorem aqS_all : ∀ x : Nat, x < 500 → (floatBits .quo .f32 (floatOfInt .f32 (1 + (x : Int))) 1149239296).isSome = true ∧ (107 * 8388608 ≤ aqS x ∧ aqS x ≤ 127 * 8388608) ∧ fge (aqS x) 897581056 = true ∧ fle (aqS x) 1065353216 = true := by
  have h : (List.range 500).all (fun (x : Nat) => (floatBits .quo .f32 (floatOfInt .f32 (1 + (x : Int))) 1149239296).isSome && ((decide (107 * 8388608 ≤ aqS x) && decide (aqS x ≤ 127 * 8388608)) && (fge (aqS x) 897581056 && fle (aqS x) 1065353216))) = true := by kernel_rfl
  intro x hx
  have := List.all_eq_true.1 h x (List.mem_range.2 hx)
  simpa [and_assoc] using this
theorem aqT_is {x : Nat} (h : x < 800) : floatBits .quo .f32 (floatOfInt .f32 (1 + (x : Int))) 1098907648 = some (aqT x) := by
  obtain ⟨r, hr⟩ := Option.isSome_iff_exists.1 (aqT_all x h).1
  unfold aqT; rw [hr]; rfl
theorem aqS_is {x : Nat} (h : x < 500) : floatBits .quo .f32 (floatOfInt .f32 (1 + (x : Int))) 1149239296 = some (aqS x) := by
  obtain ⟨r, hr⟩ := Option.isSome_iff_exists.1 (aqS_all x h).1
  unfold aqS; rw [hr]; rfl
/-- A drawn aquifer. -/
structure AqD (T S : Nat) : Prop where
  aq : Aq T S
  ok : aqOk T S = true
theorem aqD_of {x y : Nat} (hx : x < 800) (hy : y < 500) : AqD (aqT x) (aqS y) := by
  obtain ⟨_, h1, h2, h3⟩ := aqT_all x hx
  obtain ⟨_, h4, h5, h6⟩ := aqS_all y hy
  exact ⟨⟨h1, h4⟩, by unfold aqOk; rw [h2, h3, h5, h6]; rfl⟩
/-! ### Wells. -/
/-- A drawn well: its place is near, its rate plain. -/
def WlD (p : Wl) : Prop := (-4 ≤ p.px ∧ p.px ≤ 11) ∧ (-4 ≤ p.py ∧ p.py ≤ 11) ∧ ∃ x, x < 6401 ∧ p.rt = numOf x
theorem numOf_all : ∀ x : Nat, x < 6401 → plain (numOf x) = true ∧ numOf x % 2147483648 ≤ 147 * 8388608 ∧ numOf x < 4294967296 := by
  have h : (List.range 6401).all (fun (x : Nat) => plain (numOf x) && (decide (numOf x % 2147483648 ≤ 147 * 8388608) && decide (numOf x < 4294967296))) = true := by kernel_rfl
  intro x hx
  have := List.all_eq_true.1 h x (List.mem_range.2 hx)
  simpa [and_assoc] using this
theorem WlD.ok {p : Wl} (h : WlD p) : okWl p := by
  obtain ⟨h1, h2, x, hx, h3⟩ := h
  obtain ⟨a, _, c⟩ := numOf_all x hx
  exact ⟨by omega, by omega, by rw [h3]; exact a, by rw [h3]; exact c⟩
theorem WlD.mg {p : Wl} (h : WlD p) : Mg p.rt 147 := by
  obtain ⟨_, _, x, hx, h3⟩ := h
  rw [h3]; exact (numOf_all x hx).2.1
end Go.Proofs.YtglimhkpndfjgaaGreatDoor
/- ReadPermits, in the reference: the walk. -/
namespace Go.Proofs.YtglimhkpndfjgaaGreatDoor
open Go.ChangeShapes Go.WideShapes Go.ChangeAt Go.RowKit
set_option linter.unusedVariables false
set_option linter.unusedSimpArgs false
attribute [local irreducible] Calls

theorem splitL_len_le (c : UInt8) : ∀ (l : List UInt8), ∀ a ∈ splitL c l, a.length ≤ l.length
  | [], a, h => by have h : a = [] := by simpa [splitL] using h
                   rw [h]; simp
  | x :: l, a, h => by
    have ih := splitL_len_le c l
    rw [splitL] at h
    split at h
    · rcases List.mem_cons.1 h with rfl | h
      · simp
      · have := ih a h; simp; omega
    · cases hs : splitL c l with
      | nil => exact absurd hs (splitL_ne c l)
      | cons b t =>
        rw [hs] at h ih
        rcases List.mem_cons.1 h with rfl | h
        · have := ih b List.mem_cons_self; simp; omega
        · have := ih a (List.mem_cons_of_mem _ h); simp; omega
theorem splitL_get_le (c : UInt8) (l : List UInt8) (i : Nat) : ((splitL c l).getD i []).length ≤ l.length := by
  rw [List.getD_eq_getElem?_getD]
  by_cases h : i < (splitL c l).length
  · rw [List.getElem?_eq_getElem h]; exact splitL_len_le c l _ (List.getElem_mem h)
  · rw [List.getElem?_eq_none (by omega)]; simp
theorem size_of (L : List UInt8) : (⟨L.toArray⟩ : ByteArray).size = L.length := by simp [ByteArray.size]
theorem wrap8 (n : Int) (h : 0 ≤ n ∧ n ≤ 127) : IntKind.i8.wrap n = n := by
  simp [IntKind.wrap, IntKind.bits, IntKind.signed]
  omega
theorem wrap16 (n : Int) (h : 0 ≤ n ∧ n ≤ 32767) : IntKind.i16.wrap n = n := by
  simp [IntKind.wrap, IntKind.bits, IntKind.signed]
  omega
theorem plain_rd {l : List UInt8} {n : Nat} (h : ∀ i, i < n → okW (wordsAt l i)) : plainPt n (rdP l) = decide (n ≤ 6) ∧ ∀ i, i < n → (rdP l i).ok := by
  have hb : ∀ i, i < n → (0 ≤ (rdP l i).own ∧ (rdP l i).own ≤ 7) ∧ (0 ≤ (rdP l i).cel ∧ (rdP l i).cel ≤ 63) ∧ (0 ≤ (rdP l i).rat ∧ (rdP l i).rat ≤ 400) := fun i hi => (okW_row (l := (splitL 10 l).getD i []) (h i hi)).2
  refine ⟨?_, fun i hi => by have := hb i hi; unfold Pm.ok; omega⟩
  unfold plainPt
  rw [anyTo_false.2 fun i hi => by
    have := hb i hi
    unfold badAny badOwner badCell badRate
    simp; omega]
  simp
theorem strs_getD {L : List (List UInt8)} {i : Nat} (h : i < L.length) : (strs L)[i]? = some (.string ⟨(L.getD i []).toArray⟩) := by
  apply strs_get; rw [List.getD_eq_getElem?_getD, List.getElem?_eq_getElem h]; rfl
end Go.Proofs.YtglimhkpndfjgaaGreatDoor
/- ReadReadings, in the reference: the walk. -/
namespace Go.Proofs.YtglimhkpndfjgaaGreatDoor
open Go.ChangeShapes Go.WideShapes Go.ChangeAt Go.RowKit
set_option linter.unusedVariables false
set_option linter.unusedSimpArgs false
attribute [local irreducible] Calls

theorem wrap16s (n : Int) (h : -32768 ≤ n ∧ n ≤ 32767) : IntKind.i16.wrap n = n := by
  simp [IntKind.wrap, IntKind.bits, IntKind.signed]
  omega
theorem decN_bd (l : List UInt8) : (decN l).getD 0 < 1000000000 := by
  cases h : decN l with
  | none => simp
  | some u => simpa using (decN_some h).2
theorem okT_prev2 {P : Nat → Rg} : ∀ {k : Nat}, okT P k = true → prevT P k ≤ 100000
  | 0, _ => by show (0 : Int) ≤ 100000; omega
  | k + 1, h => (okT_in h k (by omega)).2
set_option maxRecDepth 100000 in
set_option maxHeartbeats 400000 in
theorem l04Ok_any (n : Nat) (P : Nat → Rg) (v : Value) (w : World) (hv : RSl w v n P) :
    Calls Tryz.prog 98 #[v] w fun e w' => e = .returned (.bool (decide (n ≤ 40) && okT P n)) ∧ w' = w := by
  obtain ⟨a, c, rfl, hc1, hc2, hcell⟩ := hv
  unfold maxLen at hc2
  have HC := Lib.hid hcell
  clear hcell
  by_cases h40 : n ≤ 40
  · have i40 : ¬ (40 : Int) < n := by omega
    have HD : Hid ((decide (n ≤ 40) && okT P n) = okT P n) := Lib.hid (by rw [decide_eq_true h40]; rfl)
    clear h40
    go_enter Tryz.func98, Tryz.ntmps98
    go_upto_region 5 with fail
    go_loopw [3, 4] (fun vp vi wr => ∃ k : Nat, k ≤ n ∧ vi = .int .i64 k ∧ vp = .int .i64 (prevT P k) ∧ Hid (okT P k = true) ∧ wr = w) (fun _ vi _ => n - (intOf vi).toNat)
    case atStart => exact ⟨0, by omega, rfl, rfl, Lib.hid rfl, rfl⟩
    case round =>
      obtain ⟨k, hk, rfl, rfl, hok, rfl⟩ := hrel
      have bk : (0 : Int) ≤ k := by omega
      by_cases hlt : k < n
      · have bl : (k : Int) < n := by omega
        obtain ⟨b, o, rfl, hb, hcell⟩ := HC.out.resolve_left (by omega)
        have e0 := (hcell k 0 hlt (by omega)).trans (P k).get0
        have e0 : wr.cell? ⟨b, o + k * 2, none⟩ = some (.int .i64 (P k).tim) := e0
        clear hcell
        have q1 := okT_prev hok.out
        have q2 := okT_prev2 hok.out
        have wp : IntKind.i64.wrap (prevT P k + 1) = prevT P k + 1 := IntWalk.i64_in _ (by omega)
        have hin := fun w' => l00In_any (P k).tim (prevT P k + 1) 100000 w'
        have hpn : prevT P (k + 1) = (P k).tim := rfl
        have hst : okT P (k + 1) = (okT P k && (decide (prevT P k < (P k).tim) && decide ((P k).tim ≤ 100000))) := rfl
        have hde : decide (prevT P k < (P k).tim) = decide (prevT P k + 1 ≤ (P k).tim) := decide_eq_decide.2 (by omega)
        rw [hok.out, Bool.true_and, hde] at hst
        have HPN := Lib.hid hpn
        clear hde hpn q1 q2
        cases hd : (decide (prevT P k + 1 ≤ (P k).tim) && decide ((P k).tim ≤ 100000)) <;> rw [hd] at hin hst
        · have HF : Hid (okT P n = false) := Lib.hid (okT_false hst (by omega))
          clear hst hd
          go_wp2_with (go_at_call 90; refine (hin _).mono ?_; rintro e w' ⟨rfl, hw⟩; rw [hw]; clear hw w')
          go_ret
          exact ⟨bool_eq (by rw [HD.out, HF.out]), rfl⟩
        · have HF : Hid (okT P (k + 1) = true) := Lib.hid hst
          clear hst hd
          go_wp2_with (go_at_call 90; refine (hin _).mono ?_; rintro e w' ⟨rfl, hw⟩; rw [hw]; clear hw w')
          go_roundw
          case rel => exact ⟨k + 1, by omega, by go_num, by rw [HPN.out], HF, by first | rfl | trivial⟩
          case measure => simp [intOf]; omega
      · obtain rfl : k = n := by omega
        have HF : Hid (okT P k = true) := hok
        go_wp2_with fail
        go_ret
        exact ⟨bool_eq (by rw [HD.out, HF.out]), rfl⟩
  · have i40 : (40 : Int) < n := by omega
    have HD : Hid ((decide (n ≤ 40) && okT P n) = false) := Lib.hid (by rw [decide_eq_false h40]; rfl)
    clear h40
    go_enter Tryz.func98, Tryz.ntmps98
    go_wp2_with fail
    go_ret
    exact ⟨bool_eq HD.out.symm, rfl⟩
end Go.Proofs.YtglimhkpndfjgaaGreatDoor
/- ReadWells, in the reference: the walk. -/
namespace Go.Proofs.YtglimhkpndfjgaaGreatDoor
open Go.ChangeShapes Go.WideShapes Go.ChangeAt Go.RowKit
set_option linter.unusedVariables false
set_option linter.unusedSimpArgs false
attribute [local irreducible] Calls

theorem l03Place_any (n : Int) (w : World) :
    Calls Tryz.prog 129 #[.int .i64 n] w fun e w' => e = .returned (.bool (in100 n)) ∧ w' = w := by
  unfold in100
  go_enter Tryz.func129, Tryz.ntmps129
  go_wp2_with (go_at_call 90; refine (l00In_any _ _ _ _).mono ?_; rintro e w' ⟨rfl, rfl⟩)
  go_ret
  exact ⟨rfl, rfl⟩
set_option maxRecDepth 100000 in
set_option maxHeartbeats 400000 in
theorem l03Plain_any (b : Nat) (w : World) :
    Calls Tryz.prog 157 #[.float .f32 b] w fun e w' => e = .returned (.bool (plain b)) ∧ w' = w := by
  have h1 := fge_eq b 3380609024
  have h2 := fle_eq b 1233125376
  unfold plain
  cases hd : fge b 3380609024 <;> rw [hd] at h1
  · go_enter Tryz.func157, Tryz.ntmps157
    go_wp2_with fail
    go_ret
    exact ⟨rfl, rfl⟩
  · go_enter Tryz.func157, Tryz.ntmps157
    go_wp2_with fail
    go_ret
    exact ⟨rfl, rfl⟩
set_option maxRecDepth 100000 in
set_option maxHeartbeats 400000 in
theorem l03Ok_any (x y : Int) (r : Nat) (hx : -100 ≤ x ∧ x ≤ 100) (hy : -100 ≤ y ∧ y ≤ 100) (w : World) :
    Calls Tryz.prog 128 #[.agg #[.int .i8 x, .int .i8 y, .float .f32 r]] w fun e w' => e = .returned (.bool (plain r)) ∧ Below w.heap.size w w' := by
  have p1 := fun w' => l03Place_any x w'
  have p2 := fun w' => l03Place_any y w'
  have p3 := fun w' => l03Plain_any r w'
  have i1 : in100 x = true := by unfold in100; simp; omega
  have i2 : in100 y = true := by unfold in100; simp; omega
  rw [i1] at p1
  rw [i2] at p2
  clear i1 i2
  generalize plain r = b at *
  go_enter Tryz.func128, Tryz.ntmps128
  go_wp2_with (first | (go_at_call 129; first | (refine (p1 _).mono ?_; rintro e w' ⟨rfl, hw⟩; rw [hw]; clear hw w' p1) | (refine (p2 _).mono ?_; rintro e w' ⟨rfl, hw⟩; rw [hw]; clear hw w' p2)) | (go_at_call 157; refine (p3 _).mono ?_; rintro e w' ⟨rfl, hw⟩; rw [hw]; clear hw w'))
  go_ret
  exact ⟨rfl, below1 _ _⟩
theorem wrap8s (n : Int) (h : -128 ≤ n ∧ n ≤ 127) : IntKind.i8.wrap n = n := by
  simp [IntKind.wrap, IntKind.bits, IntKind.signed]
  omega
end Go.Proofs.YtglimhkpndfjgaaGreatDoor
/- The text of permits, in the program and in the reference: the walks, continued. -/
namespace Go.Proofs.YtglimhkpndfjgaaGreatDoor
open Go.ChangeShapes Go.WideShapes Go.ChangeAt Go.RowKit
set_option linter.unusedVariables false
set_option linter.unusedSimpArgs false
attribute [local irreducible] Calls
theorem str_nil : (⟨#[]⟩ : ByteArray) = ⟨([] : List UInt8).toArray⟩ := rfl
theorem tab_below {w w' : World} (h : Lib.TabIs Tryz.prog w "internal/strconv.uint64pow10" .u64 Lib.pow10Tab) (hb : Below w.heap.size w w') : Lib.TabIs Tryz.prog w' "internal/strconv.uint64pow10" .u64 Lib.pow10Tab :=
  Lib.tabBelow_of_tabIs h w' hb
end Go.Proofs.YtglimhkpndfjgaaGreatDoor
/- ReadPermits, in the program: the walk. -/
namespace Go.Proofs.YtglimhkpndfjgaaGreatDoor
open Go.ChangeShapes Go.WideShapes Go.ChangeAt Go.RowKit
set_option linter.unusedVariables false
set_option linter.unusedSimpArgs false
attribute [local irreducible] Calls

/-- The words of row j lie in memory. -/
def RowAt (B : Nat) (W : World) (g j : Nat) (ws : List (List UInt8)) : Prop :=
  ∃ b cap, W.cell? ⟨g, j, none⟩ = some (.slice (some ⟨b, 0, none⟩) 3 cap) ∧ 3 ≤ cap ∧ b < W.heap.size ∧ W.cell? ⟨b, 0, none⟩ = some (.string ⟨(ws.getD 0 []).toArray⟩) ∧ W.cell? ⟨b, 1, none⟩ = some (.string ⟨(ws.getD 1 []).toArray⟩) ∧ W.cell? ⟨b, 2, none⟩ = some (.string ⟨(ws.getD 2 []).toArray⟩)
theorem rows_of {w0 W : World} {l : List UInt8} {v : Value} {ok : Bool} (h : LinesRet w0 l 3 6 W v ok) :
    ∃ a n cap, v = .slice a n cap ∧ n ≤ 6 ∧ n ≤ cap ∧ ((goodTo l 3 6 (linesL l).length ∧ ok = true ∧ n = (linesL l).length) ∨ (¬ goodTo l 3 6 (linesL l).length ∧ ok = false ∧ n = 0)) ∧ (n = 0 ∨ ∃ g, a = some ⟨g, 0, none⟩ ∧ g < W.heap.size ∧ ∀ j, j < n → RowAt w0.heap.size W g j (lineWs ((linesL l).getD j []))) := by
  rcases h with ⟨hg, hok, g, vs, hg1, hO, hr⟩ | ⟨hg, hok, rfl⟩
  · obtain ⟨cap, rfl, hc1, hc2⟩ := hO.form
    refine ⟨_, _, _, rfl, hg.1, hc1, .inl ⟨hg, hok, rfl⟩, .inr ⟨g, rfl, hO.lt, fun j hj => ?_⟩⟩
    obtain ⟨b, u, h1, h2, h3⟩ := hr j hj
    have h3n := hg.2 j hj
    rw [h3n] at h3
    obtain ⟨cap3, rfl, hc3, hc4⟩ := h3.form
    have hget := fun i (hi : i < 3) => (h3.cell i (by omega)).trans (strs_getD (L := lineWs ((linesL l).getD j [])) (i := i) (by omega))
    exact ⟨b, cap3, (hO.cell j (by omega)).trans h1, hc3, h3.lt, hget 0 (by omega), hget 1 (by omega), hget 2 (by omega)⟩
  · exact ⟨none, 0, 0, rfl, by omega, by omega, .inr ⟨hg, hok, rfl⟩, .inl rfl⟩
theorem lineWs_le (l : List UInt8) (j i : Nat) : ((lineWs ((linesL l).getD j [])).getD i []).length ≤ l.length := by
  have h1 := splitL_get_le 32 (Lib.trimSuffix ((linesL l).getD j []) [10]) i
  have h2 : (Lib.trimSuffix ((linesL l).getD j []) [10]).length ≤ ((linesL l).getD j []).length := by
    unfold Lib.trimSuffix; split
    · simp
    · exact Nat.le_refl _
  have h3 : ((linesL l).getD j []).length ≤ l.length := by
    rw [List.getD_eq_getElem?_getD]
    by_cases hj : j < (linesL l).length
    · rw [List.getElem?_eq_getElem hj]
      have h := (leftL_step hj).1
      have hlen := leftL_len l j
      rw [h] at hlen; simp at hlen
      show (linesL l)[j].length ≤ _
      omega
    · rw [List.getElem?_eq_none (by omega)]; simp
  exact Nat.le_trans h1 (Nat.le_trans h2 h3)
end Go.Proofs.YtglimhkpndfjgaaGreatDoor
/- ReadReadings, in the program: the walk. -/
namespace Go.Proofs.YtglimhkpndfjgaaGreatDoor
open Go.ChangeShapes Go.WideShapes Go.ChangeAt Go.RowKit
set_option linter.unusedVariables false
set_option linter.unusedSimpArgs false
attribute [local irreducible] Calls

theorem decimalZ_any (n : Int) (h : -32768 ≤ n ∧ n ≤ 100000) (w : World) (htab : Lib.TabIs Tryz.prog w "internal/strconv.uint64pow10" .u64 Lib.pow10Tab) :
    Calls Tryz.prog 123 #[.int .i64 n] w fun e w' => e = .returned (.string ⟨(Lib.itoa n).toArray⟩) ∧ Below w.heap.size w w' := by
  have hf := sh_strconv_FormatInt_10 n (by omega) (by omega) w htab
  generalize Lib.itoa n = D at *
  clear h
  go_enter Tryz.func123, Tryz.ntmps123
  go_wp2_with (go_at_call 155; refine hf.mono ?_; rintro e w1 ⟨rfl, k, os, rfl⟩)
  go_ret
  exact ⟨rfl, below_grow w k os⟩
theorem itoa_len {z : Int} (h : -32768 ≤ z ∧ z ≤ 100000) : (Lib.itoa z).length ≤ 7 := by
  by_cases hz : 0 ≤ z
  · rw [itoa_pos hz]; have := decDigits_len_le 5 z.toNat (by omega); omega
  · rw [itoa_neg (by omega)]; have := decDigits_len_le 5 (-z).toNat (by omega); simp; omega
theorem txtRg_len {P : Nat → Rg} : ∀ {k : Nat}, (∀ i, i < k → (1 ≤ (P i).tim ∧ (P i).tim ≤ 100000) ∧ (-32768 ≤ (P i).lev ∧ (P i).lev ≤ 32767)) → (txtRg P k).length ≤ 16 * k
  | 0, _ => by simp [txtRg]
  | k + 1, h => by
    have ih := txtRg_len (P := P) (k := k) (fun i hi => h i (by omega))
    have h0 := h k (by omega)
    have h1 := itoa_len (z := (P k).tim) (by omega)
    have h2 := itoa_len (z := (P k).lev) (by omega)
    unfold txtRg rowG glue glue; simp; omega
/-- The list of times. -/
def tls (P : Nat → Rg) : Nat → List Value
  | 0 => []
  | k + 1 => tls P k ++ [.int .i64 (P k).tim]
theorem tls_len (P : Nat → Rg) : ∀ k, (tls P k).length = k
  | 0 => rfl
  | k + 1 => by unfold tls; simp [tls_len P k]
theorem tls_get (P : Nat → Rg) : ∀ (n i : Nat), i < n → (tls P n)[i]? = some (.int .i64 (P i).tim)
  | n + 1, i, h => by
    unfold tls
    by_cases hi : i < n
    · rw [List.getElem?_append_left (by rw [tls_len]; exact hi)]; exact tls_get P n i hi
    · obtain rfl : i = n := by omega
      rw [List.getElem?_append_right (by rw [tls_len]; exact Nat.le_refl _), tls_len, Nat.sub_self]; rfl
theorem elT64 : ElemTy Tryz.prog 67 2 1 8 := elem_of (z := .int .i64 0) Tryz.underlying67 (by kernel_rfl) rfl
theorem isMomentT_any (n : Int) (w : World) :
    Calls Tryz.prog 127 #[.int .i64 n] w fun e w' => e = .returned (.bool (decide (1 ≤ n) && decide (n ≤ 100000))) ∧ w' = w := by
  go_enter Tryz.func127, Tryz.ntmps127
  go_wp2_with (go_at_call 120; refine (in_any _ _ _ _).mono ?_; rintro e w' ⟨rfl, rfl⟩)
  go_ret
  exact ⟨rfl, rfl⟩
set_option maxRecDepth 100000 in
set_option maxHeartbeats 4000000 in
theorem timesOk_any (n g : Nat) (hn : n ≤ 40) (P : Nat → Rg) (v : Value) (w : World) (hv : Own w g 2 1 v n (tls P n)) :
    Calls Tryz.prog 86 #[v] w fun e w' => e = .returned (.bool (okT P n)) ∧ w' = w := by
  obtain ⟨cap, rfl, hc1, hc2⟩ := hv.form
  unfold maxLen at hc2
  have HV := Lib.hid (fun i (h : i < n) => (hv.cell i (by omega)).trans (tls_get P n i h))
  clear hv
  have i40 : (n : Int) ≤ 40 := by omega
  go_enter Tryz.func86, Tryz.ntmps86
  go_upto_region 2 with fail
  go_loopw [7] (fun vi wr => ∃ k : Nat, k ≤ n ∧ vi = .int .i64 k ∧ Hid (okT P k = true) ∧ wr = w) (fun vi _ => n - (intOf vi).toNat)
  case atStart => exact ⟨0, by omega, rfl, Lib.hid rfl, rfl⟩
  case round =>
    obtain ⟨k, hk, rfl, hok, rfl⟩ := hrel
    have bk : (0 : Int) ≤ k := by omega
    by_cases hlt : k < n
    · have bl : (k : Int) < n := by omega
      have e0 := HV.out k hlt
      have hm := fun w' => isMomentT_any (P k).tim w'
      have hst : okT P (k + 1) = (okT P k && (decide (prevT P k < (P k).tim) && decide ((P k).tim ≤ 100000))) := rfl
      rw [hok.out, Bool.true_and] at hst
      have q0 := okT_prev hok.out
      have q1 := okT_prev2 hok.out
      by_cases hmo : 1 ≤ (P k).tim ∧ (P k).tim ≤ 100000
      · have hmd : (decide (1 ≤ (P k).tim) && decide ((P k).tim ≤ 100000)) = true := by simp; omega
        rw [hmd] at hm
        rw [decide_eq_true hmo.2, Bool.and_true] at hst
        cases k with
        | zero =>
          have hpr : prevT P 0 = 0 := rfl
          have HF : Hid (okT P (0 + 1) = true) := Lib.hid (by rw [hst, hpr]; simp; omega)
          clear hst hmd hmo hpr q0 q1
          go_wp2_with (go_at_call 127; refine (hm _).mono ?_; rintro e w' ⟨rfl, hw⟩; rw [hw]; clear hw w')
          go_roundw
          case rel => exact ⟨0 + 1, by omega, by go_num, HF, by first | rfl | trivial⟩
          case measure => simp [intOf]; omega
        | succ j =>
          have hpr : prevT P (j + 1) = (P j).tim := rfl
          have ep := HV.out j (by omega)
          rw [hpr] at hst
          have bj : (0 : Int) ≤ j := by omega
          have bj2 : (j : Int) < n := by omega
          have bj3 : (0 : Int) < (j : Int) + 1 := by omega
          have bj4 : (j : Int) + 1 < n := by omega
          by_cases hlt2 : (P j).tim < (P (j + 1)).tim
          · have HF : Hid (okT P (j + 1 + 1) = true) := Lib.hid (by rw [hst]; simpa using hlt2)
            have il : ¬ (P (j + 1)).tim ≤ (P j).tim := by omega
            clear hst hmd hmo hpr q0 q1
            go_wp2_with (go_at_call 127; refine (hm _).mono ?_; rintro e w' ⟨rfl, hw⟩; rw [hw]; clear hw w')
            go_roundw
            case rel => exact ⟨j + 1 + 1, by omega, by go_num, HF, by first | rfl | trivial⟩
            case measure => simp [intOf]; omega
          · have HF : Hid (okT P n = false) := Lib.hid (okT_false (k := j + 1 + 1) (by rw [hst]; simpa using hlt2) (by omega))
            have il : (P (j + 1)).tim ≤ (P j).tim := by omega
            clear hst hmd hmo hpr q0 q1 hlt2
            go_wp2_with (go_at_call 127; refine (hm _).mono ?_; rintro e w' ⟨rfl, hw⟩; rw [hw]; clear hw w')
            go_ret
            exact ⟨bool_eq HF.out.symm, rfl⟩
      · have hmd : (decide (1 ≤ (P k).tim) && decide ((P k).tim ≤ 100000)) = false := by simp; omega
        rw [hmd] at hm
        have HF : Hid (okT P n = false) := Lib.hid (okT_false (k := k + 1) (by rw [hst]; simp; omega) (by omega))
        clear hst hmd hmo q0 q1
        go_wp2_with (go_at_call 127; refine (hm _).mono ?_; rintro e w' ⟨rfl, hw⟩; rw [hw]; clear hw w')
        go_ret
        exact ⟨bool_eq HF.out.symm, rfl⟩
    · obtain rfl : k = n := by omega
      have HF : Hid (okT P k = true) := hok
      go_wp2_with fail
      go_ret
      exact ⟨bool_eq HF.out.symm, rfl⟩
set_option maxRecDepth 100000 in
set_option maxHeartbeats 4000000 in
theorem validReadings_any (n : Nat) (hn : n ≤ 40) (P : Nat → Rg) (v : Value) (w : World) (hv : RSl w v n P) :
    Calls Tryz.prog 48 #[v] w fun e w' => e = .returned (.bool (okT P n)) ∧ Below w.heap.size w w' := by
  obtain ⟨a, c, rfl, hc1, hc2, hcell⟩ := hv
  unfold maxLen at hc2
  have HC := Lib.hid hcell
  clear hcell
  go_enter Tryz.func48, Tryz.ntmps48
  go_upto_region 2 with fail
  have hO : Own (w.alloc (.cells #[] 2)) w.heap.size 2 1 (.slice (some ⟨w.heap.size, 0, none⟩) 0 0) 0 (tls P 0) := own_blk (Blk.new _ _ _) rfl (by decide) rfl
  have hbel := below1 w (.cells #[] 2)
  generalize w.alloc (.cells #[] 2) = W at *
  go_upto_region 3 with fail
  go_loopw [3, 9] (fun vt vi wr => ∃ k : Nat, k ≤ n ∧ vi = .int .i64 k ∧ Below w.heap.size w wr ∧ ∃ g, Own wr g 2 1 vt k (tls P k) ∧ w.heap.size ≤ g) (fun _ vi _ => n - (intOf vi).toNat)
  case atStart => exact ⟨0, by omega, rfl, hbel, _, hO, Nat.le_refl _⟩
  case round =>
    clear hO hbel
    obtain ⟨k, hk, rfl, hbel, g, hO, hg⟩ := hrel
    have bk : (0 : Int) ≤ k := by omega
    have hz := hbel.size
    by_cases hlt : k < n
    · have bl : (k : Int) < n := by omega
      obtain ⟨b, o, rfl, hb, hcell⟩ := HC.out.resolve_left (by omega)
      have e0 : wr.cell? ⟨b, o + k * 2, none⟩ = some (.int .i64 (P k).tim) := (hbel.cell (p := ⟨b, _, none⟩) hb).trans ((hcell k 0 hlt (by omega)).trans (P k).get0)
      have e1 : wr.cell? ⟨b, o + k * 2 + 1, none⟩ = some (.int .i16 (P k).lev) := (hbel.cell (p := ⟨b, _, none⟩) hb).trans ((hcell k 1 hlt (by omega)).trans (P k).get1)
      clear hcell
      go_upto_region 5 with fail
      have hX := Blk.new wr #[.int .i64 (P k).tim, .int .i16 (P k).lev] 63
      have hO := hO.alloc (.cells #[.int .i64 (P k).tim, .int .i16 (P k).lev] 63)
      have hbel := hbel.alloc hz (.cells #[.int .i64 (P k).tim, .int .i16 (P k).lev] 63)
      have hzz : wr.heap.size < (wr.alloc (.cells #[.int .i64 (P k).tim, .int .i16 (P k).lev] 63)).heap.size := by simp
      generalize wr.alloc (.cells #[.int .i64 (P k).tim, .int .i16 (P k).lev] 63) = W2 at *
      have x0 := hX.cell 0
      generalize wr.heap.size = q at *
      clear e0 e1
      go_wp2_with (at_builtin; refine wpList_app elT64 rfl rfl rfl rfl (by decide) (hO.alloc _) (Blk.new _ _ _) rfl ?_ ?_ ?_ ?_; (· intro u hu; simp at hu; subst hu; rfl); (· unfold maxLen; omega); (· omega); intro v1 w3 g1 hown hgr hg1)
      have hb3 := (hbel.alloc (by omega) (.cells #[.int .i64 (P k).tim] 2)).grown hgr (by simp; omega) (fun q hq => by injection hq with hq; omega)
      go_roundw
      case rel => exact ⟨k + 1, by omega, by go_num, hb3, g1, hown, by simp at hg1; omega⟩
      case measure => simp [intOf]; omega
    · obtain rfl : k = n := by omega
      have ht := timesOk_any k g hn P _ wr hO
      obtain ⟨cp, rfl, hcp1, hcp2⟩ := hO.form
      go_wp2_with (go_at_call 86; refine ht.mono ?_; rintro e w' ⟨rfl, hw⟩; rw [hw]; clear hw w')
      go_ret
      exact ⟨rfl, hbel⟩
set_option maxRecDepth 100000 in
set_option maxHeartbeats 4000000 in
theorem readingsText_any (n : Nat) (hn : n ≤ 40) (P : Nat → Rg) (hP : ∀ i, i < n → (1 ≤ (P i).tim ∧ (P i).tim ≤ 100000) ∧ (-32768 ≤ (P i).lev ∧ (P i).lev ≤ 32767)) (v : Value) (w : World) (hv : RSl w v n P) (htab : Lib.TabIs Tryz.prog w "internal/strconv.uint64pow10" .u64 Lib.pow10Tab) :
    Calls Tryz.prog 95 #[v] w fun e w' => e = .returned (.string ⟨(txtRg P n).toArray⟩) ∧ Below w.heap.size w w' := by
  obtain ⟨a, c, rfl, hc1, hc2, hcell⟩ := hv
  unfold maxLen at hc2
  have HC := Lib.hid hcell
  have HB := Lib.hid hP
  have HT := Lib.hid htab
  clear hcell hP htab
  go_enter Tryz.func95, Tryz.ntmps95
  go_upto_region 2 with fail
  have hbd := Lib.fresh_isBuilder 147 5 w
  have hbel := below1 w (.cells #[.pointer none, .slice none 0 0] 147)
  have hq : w.heap.size ≤ (w.alloc (.cells #[.pointer none, .slice none 0 0] 147)).heap.size := by simp
  have hz : w.heap.size ≤ w.heap.size := Nat.le_refl _
  generalize w.alloc (.cells #[.pointer none, .slice none 0 0] 147) = W0 at *
  generalize hq0 : w.heap.size = q0 at hbd hq
  go_upto_region 3 with fail
  go_loopw [9] (fun i wr => ∃ k : Nat, k ≤ n ∧ i = .int .i64 k ∧ Lib.IsBuilder 147 5 q0 q0 (Lib.byteCells (txtRg P k)) wr ∧ q0 ≤ wr.heap.size ∧ Below w.heap.size w wr) (fun i _ => n - (intOf i).toNat)
  case atStart => exact ⟨0, by omega, rfl, hbd, hq, hbel⟩
  case round =>
    clear hbd hbel hq
    obtain ⟨k, hk, rfl, hbu, hq, hbel⟩ := hrel
    have bk : (0 : Int) ≤ k := by omega
    by_cases hlt : k < n
    · have bl : (k : Int) < n := by omega
      obtain ⟨b, o, rfl, hb, hcell⟩ := HC.out.resolve_left (by omega)
      have e0 : wr.cell? ⟨b, o + k * 2, none⟩ = some (.int .i64 (P k).tim) := (hbel.cell (p := ⟨b, _, none⟩) hb).trans ((hcell k 0 hlt (by omega)).trans (P k).get0)
      have e1 : wr.cell? ⟨b, o + k * 2 + 1, none⟩ = some (.int .i16 (P k).lev) := (hbel.cell (p := ⟨b, _, none⟩) hb).trans ((hcell k 1 hlt (by omega)).trans (P k).get1)
      clear hcell
      have hrw := HB.out k hlt
      have htl := txtRg_len (P := P) (k := k) (fun i hi => HB.out i (by omega))
      have hT : txtRg P (k + 1) = txtRg P k ++ (((Lib.itoa (P k).tim ++ ([32] : List UInt8)) ++ Lib.itoa (P k).lev) ++ ([10] : List UInt8)) := by
        show txtRg P k ++ (rowG (P k) ++ [10]) = _
        simp [rowG, glue]
      obtain ⟨⟨o1, o2⟩, c1, c2⟩ := hrw
      go_upto_region 5 with fail
      have hX := Blk.new wr #[.int .i64 (P k).tim, .int .i16 (P k).lev] 63
      have hbu := isBuilder_below hbu ((Below.refl _ _).alloc (Nat.le_refl _) (.cells #[.int .i64 (P k).tim, .int .i16 (P k).lev] 63))
      have hbel := hbel.alloc hbel.size (.cells #[.int .i64 (P k).tim, .int .i16 (P k).lev] 63)
      have hqW : q0 ≤ (wr.alloc (.cells #[.int .i64 (P k).tim, .int .i16 (P k).lev] 63)).heap.size := by simp; omega
      generalize wr.alloc (.cells #[.int .i64 (P k).tim, .int .i16 (P k).lev] 63) = W at *
      have x0 := hX.cell 0
      have x1 := hX.cell 1
      have l_q := hX.lt
      generalize wr.heap.size = q at *
      have hd1 := fun w' (hb' : Below W.heap.size W w') => decimalZ_any (P k).tim (by omega) w' (tab_below (tab_below HT.out hbel) hb')
      have hd2 := fun w' (hb' : Below W.heap.size W w') => decimalZ_any (P k).lev (by omega) w' (tab_below (tab_below HT.out hbel) hb')
      have q1 := itoa_len (z := (P k).tim) (by omega)
      have q2 := itoa_len (z := (P k).lev) (by omega)
      clear hX e0 e1
      generalize Lib.itoa (P k).tim = D1 at *
      generalize Lib.itoa (P k).lev = D2 at *
      generalize txtRg P k = T at *
      have u2 := IntWalk.i64_in (P k).lev (by omega)
      refine wp_splitK 10 (C := fun w' => Below W.heap.size W w') (R := fun w w' => Below w.heap.size w w') (F := fun _ dd vv => match dd, vv with
        | 13, vv => vv = .pointer (some ⟨q, 0, none⟩)
        | 14, vv => vv = .int .i64 ((P k).tim)
        | 15, vv => vv = .string ⟨(D1).toArray⟩
        | 16, vv => vv = .string ⟨((D1 ++ ([32] : List UInt8))).toArray⟩
        | 17, vv => vv = .pointer (some ⟨q, 1, none⟩)
        | 18, vv => vv = .int .i16 ((P k).lev)
        | 19, vv => vv = .int .i64 ((P k).lev)
        | 20, vv => vv = .string ⟨(D2).toArray⟩
        | 21, vv => vv = .string ⟨(((D1 ++ ([32] : List UInt8)) ++ D2)).toArray⟩
        | 22, vv => vv = .string ⟨((((D1 ++ ([32] : List UInt8)) ++ D2) ++ ([10] : List UInt8))).toArray⟩
        | _, _ => True) (fun _ _ _ _ _ h => h) (by kernel_rfl) (by kernel_rfl) (by kernel_rfl) (Below.refl _ _).drew ?_ ?_
      · refine ⟨step_go rfl fun ev w1 hC kn => ?_, ?_⟩
        · have e1 : ev (.tmp 5) = .pointer (some ⟨q, 0, none⟩) := kn.out 5 rfl rfl rfl
          exact good_of (v := .pointer (some ⟨q, 0, none⟩)) rfl (by simp only [execOp, e1]; rfl) hC (Below.refl _ _) rfl
        refine ⟨step_go rfl fun ev w1 hC kn => ?_, ?_⟩
        · have e1 : ev (.tmp 13) = .pointer (some ⟨q, 0, none⟩) := kn.inn 13 rfl rfl
          have c1 := (hC.cell (p := ⟨q, 0, none⟩) l_q).trans x0
          exact good_of (v := .int .i64 ((P k).tim)) rfl (by simp [execOp, e1, go_sem, c1]) hC (Below.refl _ _) rfl
        refine ⟨step_go rfl fun ev w1 hC kn => ?_, ?_⟩
        · have e1 : ev (.tmp 14) = .int .i64 ((P k).tim) := kn.inn 14 rfl rfl
          refine good_call (f := 123) (args := #[.int .i64 ((P k).tim)]) rfl (by simp [execOp, e1, kn.fn, kn.con, go_sem]) ((hd1 w1 hC).mono fun e w2 ⟨he, hb⟩ => ⟨_, he, hC.trans (hb.mono hC.size), hb, rfl⟩)
        refine ⟨step_go rfl fun ev w1 hC kn => ?_, ?_⟩
        · have e1 : ev (.tmp 15) = .string ⟨(D1).toArray⟩ := kn.inn 15 rfl rfl
          exact good_of (v := .string ⟨((D1 ++ ([32] : List UInt8))).toArray⟩) rfl (by exact exec_addS (A := D1) (B := ([32] : List UInt8)) rfl e1 (kn.con _) (by simp; omega) _) hC (Below.refl _ _) rfl
        refine ⟨step_go rfl fun ev w1 hC kn => ?_, ?_⟩
        · have e1 : ev (.tmp 5) = .pointer (some ⟨q, 0, none⟩) := kn.out 5 rfl rfl rfl
          exact good_of (v := .pointer (some ⟨q, 1, none⟩)) rfl (by simp only [execOp, e1]; rfl) hC (Below.refl _ _) rfl
        refine ⟨step_go rfl fun ev w1 hC kn => ?_, ?_⟩
        · have e1 : ev (.tmp 17) = .pointer (some ⟨q, 1, none⟩) := kn.inn 17 rfl rfl
          have c1 := (hC.cell (p := ⟨q, 1, none⟩) l_q).trans x1
          exact good_of (v := .int .i16 ((P k).lev)) rfl (by simp [execOp, e1, go_sem, c1]) hC (Below.refl _ _) rfl
        refine ⟨step_go rfl fun ev w1 hC kn => ?_, ?_⟩
        · have e1 : ev (.tmp 18) = .int .i16 ((P k).lev) := kn.inn 18 rfl rfl
          exact good_of (v := .int .i64 ((P k).lev)) rfl (by simp [execOp, e1, go_sem, u2]) hC (Below.refl _ _) rfl
        refine ⟨step_go rfl fun ev w1 hC kn => ?_, ?_⟩
        · have e1 : ev (.tmp 19) = .int .i64 ((P k).lev) := kn.inn 19 rfl rfl
          refine good_call (f := 123) (args := #[.int .i64 ((P k).lev)]) rfl (by simp [execOp, e1, kn.fn, kn.con, go_sem]) ((hd2 w1 hC).mono fun e w2 ⟨he, hb⟩ => ⟨_, he, hC.trans (hb.mono hC.size), hb, rfl⟩)
        refine ⟨step_go rfl fun ev w1 hC kn => ?_, ?_⟩
        · have e1 : ev (.tmp 16) = .string ⟨((D1 ++ ([32] : List UInt8))).toArray⟩ := kn.inn 16 rfl rfl
          have e2 : ev (.tmp 20) = .string ⟨(D2).toArray⟩ := kn.inn 20 rfl rfl
          exact good_of (v := .string ⟨(((D1 ++ ([32] : List UInt8)) ++ D2)).toArray⟩) rfl (by exact exec_addS (A := (D1 ++ ([32] : List UInt8))) (B := D2) rfl e1 e2 (by simp; omega) _) hC (Below.refl _ _) rfl
        refine ⟨step_go rfl fun ev w1 hC kn => ?_, ?_⟩
        · have e1 : ev (.tmp 21) = .string ⟨(((D1 ++ ([32] : List UInt8)) ++ D2)).toArray⟩ := kn.inn 21 rfl rfl
          exact good_of (v := .string ⟨((((D1 ++ ([32] : List UInt8)) ++ D2) ++ ([10] : List UInt8))).toArray⟩) rfl (by exact exec_addS (A := ((D1 ++ ([32] : List UInt8)) ++ D2)) (B := ([10] : List UInt8)) rfl e1 (kn.con _) (by simp; omega) _) hC (Below.refl _ _) rfl
        exact trivial
      rintro xv w1 hxv hC
      have y22 : xv 22 = .string ⟨((((D1 ++ ([32] : List UInt8)) ++ D2) ++ ([10] : List UInt8))).toArray⟩ := hxv 22 (by decide)
      simp only [fill, dstsOf, List.filterMap_cons, List.filterMap_nil, List.foldl_cons, List.foldl_nil, List.set_cons_succ, List.set_cons_zero, List.take_succ_cons, List.take_zero, List.drop_succ_cons, List.drop_zero, y22]
      clear hxv y22
      have hbu := isBuilder_below hbu hC
      have hq2 : q0 ≤ w1.heap.size := Nat.le_trans hqW hC.size
      have hSl : (D1 ++ ([32] : List UInt8) ++ D2 ++ ([10] : List UInt8)).length ≤ 16 := by simp; omega
      generalize (D1 ++ ([32] : List UInt8) ++ D2 ++ ([10] : List UInt8)) = S at *
      have hw := writeString_any q0 q0 _ ⟨S.toArray⟩ w1 hbu (by rw [byteCells_len]; simp [ByteArray.size]; omega) hq2
      rw [strCells_eq, byteCells_app, ← hT] at hw
      have hbelC := hbel.trans (hC.mono hbel.size)
      go_wp2_with (go_at_call 122; refine hw.mono ?_; rintro e w2 ⟨rfl, hbu2, hb2⟩)
      go_roundw
      case rel => exact ⟨k + 1, by omega, by go_num, .inr hbu2, Nat.le_trans hq2 hb2.size, hbelC.trans (hb2.mono (by omega))⟩
      case measure => simp [intOf]; omega
    · obtain rfl : k = n := by omega
      have hst := sh_Builder_String_any q0 q0 (txtRg P k) wr hbu hq
      go_wp2_with (go_at_call 124; refine hst.mono ?_; rintro e w2 ⟨rfl, hb2⟩)
      go_ret
      exact ⟨rfl, hbel.trans (hb2.mono (by omega))⟩
end Go.Proofs.YtglimhkpndfjgaaGreatDoor
