import Derived.Test.YtglimhkpndfjgaaMT16
import Derived.Test.YtglimhkpndfjgaaMT06
import Derived.Test.YtglimhkpndfjgaaMT07
import Derived.Test.YtglimhkpndfjgaaMT14
import Derived.Test.YtglimhkpndfjgaaMT03
import Derived.Test.YtglimhkpndfjgaaMT02
import Derived.Test.YtglimhkpndfjgaaMT05
import Derived.StillTailTactics
import Derived.IntWalk
/- ReadReadings, in the program: the walk. -/
namespace Go.Proofs.Ytglimhkpndfjgaa
open Go.ChangeShapes Go.WideShapes Go.ChangeAt Go.RowKit
set_option linter.unusedVariables false
set_option linter.unusedSimpArgs false
attribute [local irreducible] Calls

theorem itoa_len {z : Int} (h : -32768 ≤ z ∧ z ≤ 100000) : (Lib.itoa z).length ≤ 7 := by
  by_cases hz : 0 ≤ z
  · rw [itoa_pos hz]; have := decDigits_len_le 5 z.toNat (by omega); omega
  · rw [itoa_neg (by omega)]; have := decDigits_len_le 5 (-z).toNat (by omega); simp; omega
theorem txtRg_len {P : Nat → Rg} : ∀ {k : Nat}, (∀ i, i < k → (1 ≤ (P i).tim ∧ (P i).tim ≤ 100000) ∧ (-32768 ≤ (P i).lev ∧ (P i).lev ≤ 32767)) → (txtRg P k).length ≤ 16 * k
  | 0, _ => by simp [txtRg]
  | k + 1, h => by
    have ih := txtRg_len (P := P) (k := k) (fun i hi => h i (by omega))
    have h0 := h k (by omega)
    have h1 := itoa_len (z := (P k).tim) (by omega)
    have h2 := itoa_len (z := (P k).lev) (by omega)
    unfold txtRg rowG glue glue; simp; omega
/-- The list of times. -/
def tls (P : Nat → Rg) : Nat → List Value
  | 0 => []
  | k + 1 => tls P k ++ [.int .i64 (P k).tim]
theorem tls_len (P : Nat → Rg) : ∀ k, (tls P k).length = k
  | 0 => rfl
  | k + 1 => by unfold tls; simp [tls_len P k]
theorem tls_get (P : Nat → Rg) : ∀ (n i : Nat), i < n → (tls P n)[i]? = some (.int .i64 (P i).tim)
  | n + 1, i, h => by
    unfold tls
    by_cases hi : i < n
    · rw [List.getElem?_append_left (by rw [tls_len]; exact hi)]; exact tls_get P n i hi
    · obtain rfl : i = n := by omega
      rw [List.getElem?_append_right (by rw [tls_len]; exact Nat.le_refl _), tls_len, Nat.sub_self]; rfl
theorem elT64 : ElemTy Try.prog 37 2 1 8 := elem_of (z := .int .i64 0) Try.underlying37 (by kernel_rfl) rfl
theorem isMomentT_any (n : Int) (w : World) :
    Calls Try.prog 83 #[.int .i64 n] w fun e w' => e = .returned (.bool (decide (1 ≤ n) && decide (n ≤ 100000))) ∧ w' = w := by
  go_enter Try.func83, Try.ntmps83
  go_wp2_with (go_at_call 39; refine (in_any _ _ _ _).mono ?_; rintro e w' ⟨rfl, rfl⟩)
  go_ret
  exact ⟨rfl, rfl⟩
set_option maxRecDepth 100000 in
set_option maxHeartbeats 4000000 in
theorem timesOk_any (n g : Nat) (hn : n ≤ 40) (P : Nat → Rg) (v : Value) (w : World) (hv : Own w g 2 1 v n (tls P n)) :
    Calls Try.prog 77 #[v] w fun e w' => e = .returned (.bool (okT P n)) ∧ w' = w := by
  obtain ⟨cap, rfl, hc1, hc2⟩ := hv.form
  unfold maxLen at hc2
  have HV := Lib.hid (fun i (h : i < n) => (hv.cell i (by omega)).trans (tls_get P n i h))
  clear hv
  have i40 : (n : Int) ≤ 40 := by omega
  go_enter Try.func77, Try.ntmps77
  go_upto_region 2 with fail
  go_loopw [7] (fun vi wr => ∃ k : Nat, k ≤ n ∧ vi = .int .i64 k ∧ Hid (okT P k = true) ∧ wr = w) (fun vi _ => n - (intOf vi).toNat)
  case atStart => exact ⟨0, by omega, rfl, Lib.hid rfl, rfl⟩
  case round =>
    obtain ⟨k, hk, rfl, hok, rfl⟩ := hrel
    have bk : (0 : Int) ≤ k := by omega
    by_cases hlt : k < n
    · have bl : (k : Int) < n := by omega
      have e0 := HV.out k hlt
      have hm := fun w' => isMomentT_any (P k).tim w'
      have hst : okT P (k + 1) = (okT P k && (decide (prevT P k < (P k).tim) && decide ((P k).tim ≤ 100000))) := rfl
      rw [hok.out, Bool.true_and] at hst
      have q0 := okT_prev hok.out
      have q1 := okT_prev2 hok.out
      by_cases hmo : 1 ≤ (P k).tim ∧ (P k).tim ≤ 100000
      · have hmd : (decide (1 ≤ (P k).tim) && decide ((P k).tim ≤ 100000)) = true := by simp; omega
        rw [hmd] at hm
        rw [decide_eq_true hmo.2, Bool.and_true] at hst
        cases k with
        | zero =>
          have hpr : prevT P 0 = 0 := rfl
          have HF : Hid (okT P (0 + 1) = true) := Lib.hid (by rw [hst, hpr]; simp; omega)
          clear hst hmd hmo hpr q0 q1
          go_wp2_with (go_at_call 83; refine (hm _).mono ?_; rintro e w' ⟨rfl, hw⟩; rw [hw]; clear hw w')
          go_roundw
          case rel => exact ⟨0 + 1, by omega, by go_num, HF, by first | rfl | trivial⟩
          case measure => simp [intOf]; omega
        | succ j =>
          have hpr : prevT P (j + 1) = (P j).tim := rfl
          have ep := HV.out j (by omega)
          rw [hpr] at hst
          have bj : (0 : Int) ≤ j := by omega
          have bj2 : (j : Int) < n := by omega
          have bj3 : (0 : Int) < (j : Int) + 1 := by omega
          have bj4 : (j : Int) + 1 < n := by omega
          by_cases hlt2 : (P j).tim < (P (j + 1)).tim
          · have HF : Hid (okT P (j + 1 + 1) = true) := Lib.hid (by rw [hst]; simpa using hlt2)
            have il : ¬ (P (j + 1)).tim ≤ (P j).tim := by omega
            clear hst hmd hmo hpr q0 q1
            go_wp2_with (go_at_call 83; refine (hm _).mono ?_; rintro e w' ⟨rfl, hw⟩; rw [hw]; clear hw w')
            go_roundw
            case rel => exact ⟨j + 1 + 1, by omega, by go_num, HF, by first | rfl | trivial⟩
            case measure => simp [intOf]; omega
          · have HF : Hid (okT P n = false) := Lib.hid (okT_false (k := j + 1 + 1) (by rw [hst]; simpa using hlt2) (by omega))
            have il : (P (j + 1)).tim ≤ (P j).tim := by omega
            clear hst hmd hmo hpr q0 q1 hlt2
            go_wp2_with (go_at_call 83; refine (hm _).mono ?_; rintro e w' ⟨rfl, hw⟩; rw [hw]; clear hw w')
            go_ret
            exact ⟨bool_eq HF.out.symm, rfl⟩
      · have hmd : (decide (1 ≤ (P k).tim) && decide ((P k).tim ≤ 100000)) = false := by simp; omega
        rw [hmd] at hm
        have HF : Hid (okT P n = false) := Lib.hid (okT_false (k := k + 1) (by rw [hst]; simp; omega) (by omega))
        clear hst hmd hmo q0 q1
        go_wp2_with (go_at_call 83; refine (hm _).mono ?_; rintro e w' ⟨rfl, hw⟩; rw [hw]; clear hw w')
        go_ret
        exact ⟨bool_eq HF.out.symm, rfl⟩
    · obtain rfl : k = n := by omega
      have HF : Hid (okT P k = true) := hok
      go_wp2_with fail
      go_ret
      exact ⟨bool_eq HF.out.symm, rfl⟩
set_option maxRecDepth 100000 in
set_option maxHeartbeats 4000000 in
theorem validReadings_any (n : Nat) (hn : n ≤ 40) (P : Nat → Rg) (v : Value) (w : World) (hv : RSl w v n P) :
    Calls Try.prog 62 #[v] w fun e w' => e = .returned (.bool (okT P n)) ∧ Below w.heap.size w w' := by
  obtain ⟨a, c, rfl, hc1, hc2, hcell⟩ := hv
  unfold maxLen at hc2
  have HC := Lib.hid hcell
  clear hcell
  go_enter Try.func62, Try.ntmps62
  go_upto_region 2 with fail
  have hO : Own (w.alloc (.cells #[] 2)) w.heap.size 2 1 (.slice (some ⟨w.heap.size, 0, none⟩) 0 0) 0 (tls P 0) := own_blk (Blk.new _ _ _) rfl (by decide) rfl
  have hbel := below1 w (.cells #[] 2)
  generalize w.alloc (.cells #[] 2) = W at *
  go_upto_region 3 with fail
  go_loopw [3, 9] (fun vt vi wr => ∃ k : Nat, k ≤ n ∧ vi = .int .i64 k ∧ Below w.heap.size w wr ∧ ∃ g, Own wr g 2 1 vt k (tls P k) ∧ w.heap.size ≤ g) (fun _ vi _ => n - (intOf vi).toNat)
  case atStart => exact ⟨0, by omega, rfl, hbel, _, hO, Nat.le_refl _⟩
  case round =>
    clear hO hbel
    obtain ⟨k, hk, rfl, hbel, g, hO, hg⟩ := hrel
    have bk : (0 : Int) ≤ k := by omega
    have hz := hbel.size
    by_cases hlt : k < n
    · have bl : (k : Int) < n := by omega
      obtain ⟨b, o, rfl, hb, hcell⟩ := HC.out.resolve_left (by omega)
      have e0 : wr.cell? ⟨b, o + k * 2, none⟩ = some (.int .i64 (P k).tim) := (hbel.cell (p := ⟨b, _, none⟩) hb).trans ((hcell k 0 hlt (by omega)).trans (P k).get0)
      have e1 : wr.cell? ⟨b, o + k * 2 + 1, none⟩ = some (.int .i16 (P k).lev) := (hbel.cell (p := ⟨b, _, none⟩) hb).trans ((hcell k 1 hlt (by omega)).trans (P k).get1)
      clear hcell
      go_upto_region 5 with fail
      have hX := Blk.new wr #[.int .i64 (P k).tim, .int .i16 (P k).lev] 67
      have hO := hO.alloc (.cells #[.int .i64 (P k).tim, .int .i16 (P k).lev] 67)
      have hbel := hbel.alloc hz (.cells #[.int .i64 (P k).tim, .int .i16 (P k).lev] 67)
      have hzz : wr.heap.size < (wr.alloc (.cells #[.int .i64 (P k).tim, .int .i16 (P k).lev] 67)).heap.size := by simp
      generalize wr.alloc (.cells #[.int .i64 (P k).tim, .int .i16 (P k).lev] 67) = W2 at *
      have x0 := hX.cell 0
      generalize wr.heap.size = q at *
      clear e0 e1
      go_wp2_with (at_builtin; refine wpList_app elT64 rfl rfl rfl rfl (by decide) (hO.alloc _) (Blk.new _ _ _) rfl ?_ ?_ ?_ ?_; (· intro u hu; simp at hu; subst hu; rfl); (· unfold maxLen; omega); (· omega); intro v1 w3 g1 hown hgr hg1)
      have hb3 := (hbel.alloc (by omega) (.cells #[.int .i64 (P k).tim] 2)).grown hgr (by simp; omega) (fun q hq => by injection hq with hq; omega)
      go_roundw
      case rel => exact ⟨k + 1, by omega, by go_num, hb3, g1, hown, by simp at hg1; omega⟩
      case measure => simp [intOf]; omega
    · obtain rfl : k = n := by omega
      have ht := timesOk_any k g hn P _ wr hO
      obtain ⟨cp, rfl, hcp1, hcp2⟩ := hO.form
      go_wp2_with (go_at_call 77; refine ht.mono ?_; rintro e w' ⟨rfl, hw⟩; rw [hw]; clear hw w')
      go_ret
      exact ⟨rfl, hbel⟩
end Go.Proofs.Ytglimhkpndfjgaa
/- ReadWells, in the program: the walks. -/
namespace Go.Proofs.Ytglimhkpndfjgaa
open Go.ChangeShapes Go.WideShapes Go.ChangeAt Go.RowKit
set_option linter.unusedVariables false
set_option linter.unusedSimpArgs false
attribute [local irreducible] Calls

theorem isPlaceW_any (n : Int) (w : World) :
    Calls Try.prog 76 #[.int .i64 n] w fun e w' => e = .returned (.bool (in100 n)) ∧ w' = w := by
  unfold in100
  go_enter Try.func76, Try.ntmps76
  go_wp2_with (go_at_call 39; refine (in_any _ _ _ _).mono ?_; rintro e w' ⟨rfl, rfl⟩)
  go_ret
  exact ⟨rfl, rfl⟩
set_option maxRecDepth 100000 in
set_option maxHeartbeats 400000 in
theorem validWell_any (x y : Int) (r : Nat) (hx : -100 ≤ x ∧ x ≤ 100) (hy : -100 ≤ y ∧ y ≤ 100) (w : World) :
    Calls Try.prog 75 #[.agg #[.int .i8 x, .int .i8 y, .float .f32 r]] w fun e w' => e = .returned (.bool (plain r)) ∧ Below w.heap.size w w' := by
  have p1 := fun w' => isPlaceW_any x w'
  have p2 := fun w' => isPlaceW_any y w'
  have p3 := fun w' => isPlain_any r w'
  have i1 : in100 x = true := by unfold in100; simp; omega
  have i2 : in100 y = true := by unfold in100; simp; omega
  rw [i1] at p1
  rw [i2] at p2
  clear i1 i2
  generalize plain r = b at *
  go_enter Try.func75, Try.ntmps75
  go_wp2_with (first | (go_at_call 76; first | (refine (p1 _).mono ?_; rintro e w' ⟨rfl, hw⟩; rw [hw]; clear hw w' p1) | (refine (p2 _).mono ?_; rintro e w' ⟨rfl, hw⟩; rw [hw]; clear hw w' p2)) | (go_at_call 82; refine (p3 _).mono ?_; rintro e w' ⟨rfl, hw⟩; rw [hw]; clear hw w'))
  go_ret
  exact ⟨rfl, below1 _ _⟩
theorem txtWl_len {P : Nat → Wl} : ∀ {k : Nat}, (∀ i, i < k → (-100 ≤ (P i).px ∧ (P i).px ≤ 100) ∧ (-100 ≤ (P i).py ∧ (P i).py ≤ 100) ∧ (P i).rt < 4294967296) → (txtWl P k).length ≤ 32 * k
  | 0, _ => by simp [txtWl]
  | k + 1, h => by
    have ih := txtWl_len (P := P) (k := k) (fun i hi => h i (by omega))
    have h0 := h k (by omega)
    have h1 := itoa_len (z := (P k).px) (by omega)
    have h2 := itoa_len (z := (P k).py) (by omega)
    have h3 := txt_length (P k).rt
    unfold txtWl rowV glue glue glue; simp; omega
end Go.Proofs.Ytglimhkpndfjgaa
/- Settled heads: the walks through the program's function and the reference's. -/
namespace Go.Proofs.Ytglimhkpndfjgaa
open Go.ChangeShapes Go.WideShapes Go.ChangeAt Go.RowKit
set_option linter.unusedVariables false
set_option linter.unusedSimpArgs false
attribute [local irreducible] Calls

theorem bes_no {g : Gr} {c s : Nat} (hsm : g.small) (h : nbr g c s = false) : bes g c s = -1 := by
  have := bes_lt hsm c s; unfold nbr at h; simp at h; omega

end Go.Proofs.Ytglimhkpndfjgaa
/- The greatest change of heads between two grounds: the walks through the program's functions and the reference's. -/
namespace Go.Proofs.Ytglimhkpndfjgaa
open Go.ChangeShapes Go.WideShapes Go.ChangeAt Go.RowKit
set_option linter.unusedVariables false
set_option linter.unusedSimpArgs false
attribute [local irreducible] Calls

/-- The greatest of some numbers, the first one if several are as great. -/
def mxStep (v : Nat → Nat) (m k : Nat) : Nat := if fgt (v k) m then v k else m
def mx (v : Nat → Nat) : List Nat → Nat
  | [] => 0
  | c :: r => r.foldl (mxStep v) (v c)
theorem mx_snoc (v : Nat → Nat) (l : List Nat) (k : Nat) (h : l ≠ []) : mx v (l ++ [k]) = mxStep v (mx v l) k := by
  cases l with
  | nil => exact absurd rfl h
  | cons c r => simp [mx, List.foldl_append]
theorem mx_one (v : Nat → Nat) (k : Nat) : mx v [k] = v k := rfl
/-- The sizes of what cells have more. -/
def dsz (g g' : Gr) (k : Nat) : Nat := fab (dif g g' k)
def chg (g g' : Gr) : Nat := mx (dsz g g') (cellsTo g 64)

theorem cellF32 : CellTy Try.prog 24 := ⟨.float .f32, Try.underlying24, rfl, by kernel_rfl⟩
/-- Cell 0 is a cell of a valid ground. -/
theorem isC_zero {g : Gr} (h : validG g = true) : isC g 0 = true := by
  obtain ⟨h1, h2, _⟩ := validG_parts h
  unfold isC; simp; omega
theorem cells_ne {g : Gr} (h : validG g = true) (k : Nat) (hk : 0 < k) : cellsTo g k ≠ [] := by
  intro h0
  have : 0 ∈ cellsTo g k := cellsTo_mem.2 ⟨hk, isC_zero h⟩
  rw [h0] at this; cases this
theorem plain_heads {g : Gr} (h : validG g = true) (k : Nat) (hk : k < 64) (hc : isC g k = true) : plain (g.hea k) = true := (fieldIs_at (validG_parts h).2.2.2.2.1 k hk).1 hc

end Go.Proofs.Ytglimhkpndfjgaa
/- Sweeps over a ground: the walks through the program's functions and the reference's. -/
namespace Go.Proofs.Ytglimhkpndfjgaa
open Go.ChangeShapes Go.WideShapes Go.ChangeAt Go.RowKit
set_option linter.unusedVariables false
set_option linter.unusedSimpArgs false
attribute [local irreducible] Calls

def tolR (g G : Gr) : Gr := if validG G then G else zeroG
def tolM (g G : Gr) : Nat := if validG G then chg g G else 0
def tolC (g G : Gr) : Int := if validG G then 0 else 4

end Go.Proofs.Ytglimhkpndfjgaa
/- A sweep over a ground: the walks through the program's sweep and the reference's. -/
namespace Go.Proofs.Ytglimhkpndfjgaa
open Go.ChangeShapes Go.WideShapes Go.ChangeAt Go.RowKit
set_option linter.unusedVariables false
set_option linter.unusedSimpArgs false
attribute [local irreducible] Calls

def swp (G : Gr) (k : Nat) : Gr := { G with hea := upd G.hea k (sett G k) }
def sweepL (g : Gr) (l : List Nat) : Gr := l.foldl swp g
def sweepG (g : Gr) : Gr := sweepL g (cellsTo g 64)
theorem sweepL_snoc (g : Gr) (l : List Nat) (k : Nat) : sweepL g (l ++ [k]) = swp (sweepL g l) k := by unfold sweepL; rw [List.foldl_append]; rfl
theorem swp_al {g g' : Gr} (hs : g.small) (h : GrEq g g') {k b : Nat} (hk : k < 64) (hb : cn b = cn (sett g k)) : GrEq { g with hea := upd g.hea k b } (swp g' k) := by
  unfold swp
  exact h.upd (by rw [hb, sett_al hs h k hk])
theorem dsz_al {g G G' : Gr} (h : GrEq G G') (k : Nat) (hk : k < 64) : dsz g G k = dsz g G' k := by
  unfold dsz dif; rw [fop_eq (h.hea k hk) rfl]
theorem mxFold_congr {v v' : Nat → Nat} : ∀ (l : List Nat) (m : Nat), (∀ k, k ∈ l → v k = v' k) → l.foldl (mxStep v) m = l.foldl (mxStep v') m
  | [], _, _ => rfl
  | a :: l, m, h => by
    rw [List.foldl_cons, List.foldl_cons, show mxStep v m a = mxStep v' m a by unfold mxStep; rw [h a (List.mem_cons_self ..)]]
    exact mxFold_congr l _ fun k hk => h k (List.mem_cons_of_mem _ hk)
theorem mx_congr {v v' : Nat → Nat} {l : List Nat} (h : ∀ k, k ∈ l → v k = v' k) : mx v l = mx v' l := by
  cases l with
  | nil => rfl
  | cons c r => show r.foldl (mxStep v) (v c) = r.foldl (mxStep v') (v' c); rw [h c (List.mem_cons_self ..)]; exact mxFold_congr r _ fun k hk => h k (List.mem_cons_of_mem _ hk)
theorem chg_al {g G G' : Gr} (h : GrEq G G') : chg g G = chg g G' := mx_congr fun k hk => dsz_al h k (cellsTo_mem.1 hk).1
theorem tol_al {g G G' : Gr} (h : GrEq G G') : (tolR g G).cells = (tolR g G').cells ∧ tolM g G = tolM g G' ∧ tolC g G = tolC g G' := by
  unfold tolR tolM tolC
  rw [validG_al h, chg_al h]
  cases hv : validG G'
  · exact ⟨rfl, rfl, rfl⟩
  · exact ⟨h.cells hv, rfl, rfl⟩
theorem tolR_ok {g G : Gr} (h : G.ok) : (tolR g G).ok := by
  unfold tolR; split
  · exact h
  · exact zeroG_ok
theorem swp_same (G : Gr) (k : Nat) : (swp G k).wide = G.wide ∧ (swp G k).high = G.high ∧ (swp G k).fix = G.fix := ⟨rfl, rfl, rfl⟩
theorem sweepL_same (g : Gr) : ∀ (l : List Nat), (sweepL g l).wide = g.wide ∧ (sweepL g l).high = g.high ∧ (sweepL g l).fix = g.fix := fun l => by
  unfold sweepL
  induction l generalizing g with
  | nil => exact ⟨rfl, rfl, rfl⟩
  | cons a l ih => rw [List.foldl_cons]; exact ih (swp g a)
theorem sweepG_ok {g : Gr} (h : g.ok) : (sweepG g).ok := by
  obtain ⟨h1, h2, h3⟩ := sweepL_same g (cellsTo g 64)
  exact ⟨by unfold sweepG; rw [h1]; exact h.wide, by unfold sweepG; rw [h2]; exact h.high, by unfold sweepG; rw [h3]; exact h.fix⟩
theorem cellsTo_next (g : Gr) (k : Nat) : cellsTo g (k + 1) = if isC g k then cellsTo g k ++ [k] else cellsTo g k := by
  unfold cellsTo; rw [List.range_succ, List.filter_append]
  cases h : isC g k <;> simp [h]

end Go.Proofs.Ytglimhkpndfjgaa
/- Sweeps until the heads are still: the walks through the program's settle and the reference's. -/
namespace Go.Proofs.Ytglimhkpndfjgaa
open Go.ChangeShapes Go.WideShapes Go.ChangeAt Go.RowKit
set_option linter.unusedVariables false
set_option linter.unusedSimpArgs false
attribute [local irreducible] Calls

/-- What comes of a ground that is swept until it is still, l sweeps being left. -/
def settT (within : Nat) : Nat → Int → Gr → Gr × Int × Int
  | 0, _, _ => (zeroG, 0, 7)
  | l + 1, n, G => if validG (sweepG G) then (if fle (chg G (sweepG G)) within then (sweepG G, n + 1, 0) else settT within l (n + 1) (sweepG G)) else (zeroG, 0, 4)
theorem settT_bad {within : Nat} {G : Gr} (h : validG (sweepG G) = false) (l : Nat) (n : Int) : settT within (l + 1) n G = (zeroG, 0, 4) := by simp [settT, h]
theorem settT_done {within : Nat} {G : Gr} (h : validG (sweepG G) = true) (h2 : fle (chg G (sweepG G)) within = true) (l : Nat) (n : Int) : settT within (l + 1) n G = (sweepG G, n + 1, 0) := by simp [settT, h, h2]
theorem settT_on {within : Nat} {G : Gr} (h : validG (sweepG G) = true) (h2 : fle (chg G (sweepG G)) within = false) (l : Nat) (n : Int) : settT within (l + 1) n G = settT within l (n + 1) (sweepG G) := by simp [settT, h, h2]

end Go.Proofs.Ytglimhkpndfjgaa
/- Watches in memory, and the walks over lists of watches that several laws need. -/
namespace Go.Proofs.Ytglimhkpndfjgaa
open Go.ChangeShapes Go.WideShapes Go.ChangeAt Go.RowKit
set_option linter.unusedVariables false
set_option linter.unusedSimpArgs false
attribute [local irreducible] Calls

/-- A watch's numbers. -/
structure Wt where
  cel : Int
  lim : Nat
/-- Each number fits its kind. -/
def Wt.ok (p : Wt) : Prop := -128 ≤ p.cel ∧ p.cel ≤ 127
@[irreducible] def Wt.cells (p : Wt) : Array Value := #[.int .i8 p.cel, .float .f32 p.lim]
theorem Wt.cells_eq (p : Wt) : p.cells = #[.int .i8 p.cel, .float .f32 p.lim] := by unfold Wt.cells; rfl
theorem Wt.cells_size (p : Wt) : p.cells.size = 2 := by rw [p.cells_eq]; rfl
theorem Wt.get0 (p : Wt) : p.cells[0]? = some (.int .i8 p.cel) := by rw [p.cells_eq]; rfl
theorem Wt.get1 (p : Wt) : p.cells[1]? = some (.float .f32 p.lim) := by rw [p.cells_eq]; rfl
theorem Wt.one (p : Wt) : ∀ v ∈ p.cells.toList, v.oneCell' = true := by
  intro v hv; rw [p.cells_eq] at hv; simp at hv; rcases hv with rfl | rfl <;> rfl

/-- n watches, one behind the other. -/
@[irreducible] def wls (n : Nat) (P : Nat → Wt) : List Value := (List.range n).flatMap fun i => (P i).cells.toList
theorem wls_zero (P : Nat → Wt) : wls 0 P = [] := by simp [wls]
theorem wls_succ (n : Nat) (P : Nat → Wt) : wls (n + 1) P = wls n P ++ (P n).cells.toList := by simp [wls, List.range_succ, List.flatMap_append]
theorem wls_length (n : Nat) (P : Nat → Wt) : (wls n P).length = n * 2 := by
  induction n with
  | zero => simp [wls_zero]
  | succ n ih => rw [wls_succ, List.length_append, ih]; simp [Wt.cells_size]; omega
theorem wls_congr {P P' : Nat → Wt} : ∀ {n : Nat}, (∀ i, i < n → P i = P' i) → wls n P = wls n P'
  | 0, _ => by rw [wls_zero, wls_zero]
  | n + 1, h => by rw [wls_succ, wls_succ, wls_congr (fun i hi => h i (by omega)), h n (by omega)]
theorem wls_get (n : Nat) (P : Nat → Wt) (i c : Nat) (h : i < n) (hc : c < 2) : (wls n P)[i * 2 + c]? = (P i).cells[c]? := by
  induction n with
  | zero => omega
  | succ n ih =>
    rw [wls_succ, List.getElem?_append, wls_length]
    by_cases hi : i < n
    · rw [if_pos (by omega), ih hi]
    · obtain rfl : i = n := by omega
      rw [if_neg (by omega), show i * 2 + c - i * 2 = c by omega]; simp
theorem wls_one (n : Nat) (P : Nat → Wt) : ∀ v ∈ wls n P, v.oneCell' = true := by
  intro v hv; unfold wls at hv; simp only [List.mem_flatMap] at hv; obtain ⟨i, _, hi⟩ := hv; exact (P i).one v hi
theorem wls_drop (n : Nat) (P : Nat → Wt) (k : Nat) (h : k < n) : ((wls n P).drop (k * 2)).take 2 = (P k).cells.toList := by
  apply List.ext_getElem?
  intro c
  rw [List.getElem?_take]
  by_cases hc : c < 2
  · rw [if_pos hc, List.getElem?_drop, wls_get n P k c h hc]; simp
  · rw [if_neg hc, List.getElem?_eq_none]; simp [Wt.cells_size]; omega

/-- The slice v holds n watches, P. -/
def WSl (w : World) (v : Value) (n : Nat) (P : Nat → Wt) : Prop :=
  ∃ a cap, v = .slice a n cap ∧ n ≤ cap ∧ cap ≤ maxLen ∧ (n = 0 ∨ ∃ b o, a = some ⟨b, o, none⟩ ∧ b < w.heap.size ∧ ∀ i c, i < n → c < 2 → w.cell? ⟨b, o + i * 2 + c, none⟩ = (P i).cells[c]?)
theorem WSl.below {w w' : World} {v : Value} {n : Nat} {P : Nat → Wt} (h : WSl w v n P) (hb : Below w.heap.size w w') : WSl w' v n P := by
  obtain ⟨a, cap, rfl, h1, h2, h3⟩ := h
  refine ⟨a, cap, rfl, h1, h2, ?_⟩
  rcases h3 with h3 | ⟨b, o, rfl, hlt, hc⟩
  · exact .inl h3
  · exact .inr ⟨b, o, rfl, Nat.lt_of_lt_of_le hlt hb.size, fun i c hi h3 => (hb.cell (p := ⟨b, _, none⟩) hlt).trans (hc i c hi h3)⟩
theorem Own.wsl {w : World} {g : Nat} {e : TypeId} {v : Value} {n : Nat} {P : Nat → Wt} (h : Own w g e 2 v n (wls n P)) : WSl w v n P := by
  obtain ⟨cap, rfl, h1, h2⟩ := h.form
  exact ⟨_, cap, rfl, h1, h2, .inr ⟨g, 0, rfl, h.lt, fun i c hi hc => by rw [Nat.zero_add, h.cell _ (by omega), wls_get n P i c hi hc]⟩⟩

/-- n watchs' room. -/
@[irreducible] def zwt (n : Nat) : Array Value := madeCells (Wt.cells ⟨0, 0⟩) (n * 2)
theorem zwt_size (n : Nat) : (zwt n).size = n * 2 := by unfold zwt; rw [size_madeCells]
/-- A watch behind the walk of one store. -/
theorem zwt_mixed_size (n : Nat) (P : Nat → Wt) (k : Nat) (hk : k ≤ n) : (mixed (wls n P).toArray (zwt n) (k * 2)).size = n * 2 := by
  rw [mixed_size _ _ (by simp [wls_length, zwt_size]) _ (by simp [wls_length]; omega)]; simp [wls_length]

end Go.Proofs.Ytglimhkpndfjgaa
/- Offices in memory: a ground and its watches. -/
namespace Go.Proofs.Ytglimhkpndfjgaa
open Go.ChangeShapes Go.WideShapes Go.ChangeAt Go.RowKit
set_option linter.unusedVariables false
set_option linter.unusedSimpArgs false
attribute [local irreducible] Calls

/-- An office's cells: its ground's, and the slice of its watches. -/
@[irreducible] def ofc (g : Gr) (v : Value) : Array Value := g.cells.push v
theorem ofc_size (g : Gr) (v : Value) : (ofc g v).size = 196 := by unfold ofc; rw [Array.size_push, g.size]
theorem ofc_get (g : Gr) (v : Value) (i : Nat) (h : i < 195) : (ofc g v)[i]? = some (g.at i) := by
  unfold ofc; rw [Array.getElem?_push, g.size, if_neg (by omega), g.get i h]
theorem ofc_last (g : Gr) (v : Value) : (ofc g v)[195]? = some v := by
  unfold ofc; rw [Array.getElem?_push, g.size, if_pos rfl]
theorem ofc_of {cs : Array Value} {g : Gr} {v : Value} (hs : cs.size = 196) (h : ∀ i, i < 195 → cs[i]? = some (g.at i)) (h' : cs[195]? = some v) : cs = ofc g v := by
  apply Array.ext_getElem?
  intro i
  by_cases hi : i < 195
  · rw [h i hi, ofc_get g v i hi]
  · by_cases hi2 : i = 195
    · subst hi2; rw [h', ofc_last]
    · rw [Array.getElem?_eq_none (by omega), Array.getElem?_eq_none (by rw [ofc_size]; omega)]
theorem ofc_one (g : Gr) (v : Value) (hv : v.oneCell' = true) : ∀ u ∈ (ofc g v).toList, u.oneCell' = true := by
  intro u hu
  unfold ofc at hu
  simp only [Array.toList_push, List.mem_append, List.mem_singleton] at hu
  rcases hu with hu | rfl
  · exact g.one u hu
  · exact hv
theorem ofc_ext (g : Gr) (v : Value) : (ofc g v).extract 0 195 = g.cells := by
  apply Gr.cells_of
  · simp [ofc_size]
  · intro i hi
    rw [Array.getElem?_extract, if_pos (by rw [ofc_size]; omega), Nat.zero_add, ofc_get g v i hi]
theorem ofc_splice (z g : Gr) (v : Value) : splice (ofc z v) 0 g.cells = ofc g v := by
  have hle : 0 + g.cells.size ≤ (ofc z v).size := by rw [ofc_size, g.size]; omega
  refine ofc_of (by rw [splice_size _ _ _ hle, ofc_size]) (fun i hi => ?_) ?_
  · rw [splice_get _ _ _ hle, g.size, if_neg (by omega), if_pos (by omega), Nat.sub_zero, g.get i hi]
  · rw [splice_get _ _ _ hle, g.size, if_neg (by omega), if_neg (by omega), ofc_last]
theorem ofc_set (g : Gr) (v u : Value) : (ofc g v).setIfInBounds 195 u = ofc g u := by
  refine ofc_of (by simp [ofc_size]) (fun i hi => ?_) ?_
  · rw [Array.getElem?_setIfInBounds, if_neg (by omega), ofc_get g v i hi]
  · rw [Array.getElem?_setIfInBounds, if_pos rfl, if_pos (by rw [ofc_size]; omega)]
theorem Blk.ogat {w : World} {b : Nat} {g : Gr} {v : Value} {T : TypeId} (h : Blk w b (ofc g v) T) : GAt w b g := ⟨h.lt, fun i hi => (h.cell i).trans (ofc_get g v i hi)⟩
end Go.Proofs.Ytglimhkpndfjgaa
/- ValidOffice, in the program and in the reference. -/
namespace Go.Proofs.Ytglimhkpndfjgaa
open Go.ChangeShapes Go.WideShapes Go.ChangeAt Go.RowKit
set_option linter.unusedVariables false
set_option linter.unusedSimpArgs false
attribute [local irreducible] Calls

/-- Is the number k a cell? -/
def isCI (g : Gr) (k : Int) : Bool := (decide (0 ≤ k) && decide (k ≤ 63)) && isC g k.toNat
def badW (g : Gr) (p : Wt) : Bool := !isCI g p.cel || !plain p.lim
def validO (g : Gr) (n : Nat) (P : Nat → Wt) : Bool := validG g && (decide (n ≤ 6) && !anyTo (badW g) P n)

end Go.Proofs.Ytglimhkpndfjgaa
/- ValidPermits, in the program and in the reference. -/
namespace Go.Proofs.Ytglimhkpndfjgaa
open Go.ChangeShapes Go.WideShapes Go.ChangeAt Go.RowKit
set_option linter.unusedVariables false
set_option linter.unusedSimpArgs false
attribute [local irreducible] Calls

/-- A permit that is none by its own numbers; that is none on this ground. -/
def badP (p : Pm) : Bool := badOwner p || (badRate p || !(decide (0 ≤ p.cel) && decide (p.cel ≤ 63)))
def badPG (g : Gr) (p : Pm) : Bool := badOwner p || (badRate p || !isCI g p.cel)
def validP (g : Gr) (n : Nat) (P : Nat → Wt) (m : Nat) (Q : Nat → Pm) : Bool := validO g n P && (decide (m ≤ 6) && !anyTo (badPG g) Q m)
theorem owner_bad (p : Pm) : (decide (0 ≤ p.own) && decide (p.own ≤ 7)) = !badOwner p := by unfold badOwner; simp
theorem rate_bad (p : Pm) : (decide (0 ≤ p.rat) && decide (p.rat ≤ 400)) = !badRate p := by unfold badRate; simp

/-- May these be permits, whatever the ground? -/
def plainPs (m : Nat) (Q : Nat → Pm) : Bool := decide (m ≤ 6) && !anyTo badP Q m

theorem validP_eq (g : Gr) (n : Nat) (P : Nat → Wt) (m : Nat) (Q : Nat → Pm) : validP g n P m Q = (validO g n P && (plainPs m Q && !anyTo (fun p => !isCI g p.cel) Q m)) := by
  unfold validP plainPs
  rw [Bool.and_assoc (decide (m ≤ 6))]
  congr 2
  apply Bool.eq_iff_iff.2
  simp only [Bool.not_eq_true', Bool.and_eq_true, anyTo_false]
  constructor
  · intro h
    refine ⟨fun i hi => ?_, fun i hi => ?_⟩
    · have h1 := h i hi
      unfold badPG at h1
      unfold badP
      simp only [Bool.or_eq_false_iff, Bool.not_eq_false'] at h1 ⊢
      refine ⟨h1.1, h1.2.1, ?_⟩
      have := h1.2.2
      unfold isCI at this
      exact (Bool.and_eq_true_iff.1 this).1
    · have h1 := h i hi
      unfold badPG at h1
      simp only [Bool.or_eq_false_iff] at h1
      exact h1.2.2
  · rintro ⟨h, h'⟩ i hi
    have h1 := h i hi
    have h2 := h' i hi
    unfold badP at h1
    unfold badPG
    simp only [Bool.or_eq_false_iff] at h1 ⊢
    exact ⟨h1.1, h1.2.1, h2⟩

end Go.Proofs.Ytglimhkpndfjgaa
/- The ground with permits: the walks through the program's function and the reference's. -/
namespace Go.Proofs.Ytglimhkpndfjgaa
open Go.ChangeShapes Go.WideShapes Go.ChangeAt Go.RowKit
set_option linter.unusedVariables false
set_option linter.unusedSimpArgs false
attribute [local irreducible] Calls

theorem Gr.setG (g : Gr) (k b : Nat) (hk : k < 64) : g.cells.setIfInBounds (66 + k) (.float .f32 b) = ({ g with gai := upd g.gai k b } : Gr).cells := by
  refine Gr.cells_of _ (by simp [g.size]) fun i hi => ?_
  rw [Array.getElem?_setIfInBounds]
  by_cases h : 66 + k = i
  · rw [if_pos h, if_pos (by rw [g.size]; omega)]
    subst h
    unfold Gr.at upd
    simp only [show ¬ (66 + k = 0) by omega, show ¬ (66 + k = 1) by omega, show ¬ (66 + k < 66) by omega, show 66 + k < 130 by omega, if_true, if_false, show 66 + k - 66 = k by omega]
  · rw [if_neg h, g.get i hi]
    congr 1
    unfold Gr.at upd
    by_cases i0 : i = 0
    · simp only [i0, if_true]
    · by_cases i1 : i = 1
      · simp only [i1]; rfl
      · by_cases i2 : i < 66
        · simp only [i0, i1, i2, if_true, if_false]
        · by_cases i3 : i < 130
          · simp only [i0, i1, i2, i3, if_true, if_false, show ¬ (i - 66 = k) by omega]
          · simp only [i0, i1, i2, i3, if_false]
def rate4 (r : Int) : Nat := fop .quo (floatOfInt .f32 r) 1082130432
/-- The gain of a cell with a permit. -/
def lessX (G : Gr) (c : Nat) (r : Int) : Nat := fop .sub (G.gai c) (rate4 r)
def lessG (G : Gr) (p : Pm) : Gr := { G with gai := upd G.gai p.cel.toNat (lessX G p.cel.toNat p.rat) }
theorem isN_fieldG {G : Gr} {f : Nat → Nat} {c x : Nat} (h : fieldIs plain G f = true) (hc : isC G c = true) (hk : c < 64) : fieldIs plain G (upd f c x) = plain x := by
  cases hp : plain x
  · cases hf : fieldIs plain G (upd f c x)
    · rfl
    · have := (fieldIs_at hf c hk).1 hc
      unfold upd at this
      rw [if_pos rfl, hp] at this
      cases this
  · unfold fieldIs
    rw [anyTo_false.2]
    · rfl
    intro i hi
    have hh := fieldIs_at h i hi
    unfold badAt upd
    by_cases hic : i = c
    · subst hic; simp [hc, hp]
    · simp only [hic, if_false]
      cases hci : isC G i
      · simp [hh.2 hci]
      · simp [hh.1 hci]
theorem validG_less {G : Gr} {c x : Nat} (h : validG G = true) (hc : isC G c = true) (hk : c < 64) : validG { G with gai := upd G.gai c x } = plain x := by
  obtain ⟨h1, h2, h3, h4, h5, h6⟩ := validG_parts h
  have e3 : fieldIs amount { G with gai := upd G.gai c x } G.con = true := h3
  have e4 : fieldIs plain { G with gai := upd G.gai c x } (upd G.gai c x) = plain x := isN_fieldG h4 hc hk
  have e5 : fieldIs plain { G with gai := upd G.gai c x } G.hea = true := h5
  have e6 : fixOk { G with gai := upd G.gai c x } = true := h6
  unfold validG
  rw [e3, e4, e5, e6]
  simp only [h1.1, h1.2, h2.1, h2.2, decide_true, Bool.and_self, Bool.true_and, Bool.and_true]
/-- What comes of a ground with permits, l permits being left. -/
def withT (Q : Nat → Pm) : Nat → Nat → Gr → Gr × Int
  | 0, _, G => ((settT 981467136 1000 0 G).1, (settT 981467136 1000 0 G).2.2)
  | l + 1, i, G => if validG (lessG G (Q i)) then withT Q l (i + 1) (lessG G (Q i)) else (zeroG, 4)
theorem withT_bad {Q : Nat → Pm} {l i : Nat} {G : Gr} (h : validG (lessG G (Q i)) = false) : withT Q (l + 1) i G = (zeroG, 4) := by simp [withT, h]
theorem withT_on {Q : Nat → Pm} {l i : Nat} {G : Gr} (h : validG (lessG G (Q i)) = true) : withT Q (l + 1) i G = withT Q l (i + 1) (lessG G (Q i)) := by simp [withT, h]
/-- The cells of permits are cells of the ground. -/
def cellsIn (g : Gr) (m : Nat) (Q : Nat → Pm) : Prop := ∀ i, i < m → isCI g (Q i).cel = true
theorem isCI_parts {g : Gr} {k : Int} (h : isCI g k = true) : ∃ c : Nat, k = c ∧ c < 64 ∧ isC g c = true := by
  unfold isCI at h
  simp only [Bool.and_eq_true, decide_eq_true_eq] at h
  exact ⟨k.toNat, by omega, by omega, h.2⟩

end Go.Proofs.Ytglimhkpndfjgaa
/- GroundWith, in the program and in the reference. -/
namespace Go.Proofs.Ytglimhkpndfjgaa
open Go.ChangeShapes Go.WideShapes Go.ChangeAt Go.RowKit
set_option linter.unusedVariables false
set_option linter.unusedSimpArgs false
attribute [local irreducible] Calls

theorem validP_use {g : Gr} {n m : Nat} {P : Nat → Wt} {Q : Nat → Pm} (h : validP g n P m Q = true) : validG g = true ∧ validO g n P = true ∧ cellsIn g m Q ∧ m ≤ 6 ∧ ∀ i, i < m → badPG g (Q i) = false := by
  unfold validP at h
  simp only [Bool.and_eq_true, decide_eq_true_eq, Bool.not_eq_true'] at h
  have h0 : validO g n P = true := h.1
  have hv : validG g = true := by unfold validO at h0; exact (Bool.and_eq_true_iff.1 h0).1
  have hb := anyTo_false.1 h.2.2
  refine ⟨hv, h0, fun i hi => ?_, h.2.1, hb⟩
  have := hb i hi
  unfold badPG at this
  simp only [Bool.or_eq_false_iff, Bool.not_eq_false'] at this
  exact this.2.2
def gwT (g : Gr) (n : Nat) (P : Nat → Wt) (m : Nat) (Q : Nat → Pm) : Gr × Int := if validP g n P m Q then withT Q m 0 g else (zeroG, 1)

end Go.Proofs.Ytglimhkpndfjgaa
/- The first watch that is below its level, and whether permits are kept: the walks. -/
namespace Go.Proofs.Ytglimhkpndfjgaa
open Go.ChangeShapes Go.WideShapes Go.ChangeAt Go.RowKit
set_option linter.unusedVariables false
set_option linter.unusedSimpArgs false
attribute [local irreducible] Calls

/-- The first index of which q is true, -1 if there is none. -/
def firstI {α : Type} (q : α → Bool) (P : Nat → α) : Nat → Int
  | 0 => -1
  | n + 1 => if 0 ≤ firstI q P n then firstI q P n else if q (P n) then n else -1
theorem firstI_to {α : Type} (q : α → Bool) (P : Nat → α) : ∀ n, firstTo q P n (firstI q P n)
  | 0 => .inl ⟨rfl, fun i hi => by omega⟩
  | n + 1 => by
    have ih := firstI_to q P n
    unfold firstI
    rcases ih with ⟨h1, h2⟩ | ⟨k, h1, h2, h3, h4⟩
    · rw [h1, if_neg (by omega)]
      by_cases hq : q (P n) = true
      · rw [if_pos hq]; exact .inr ⟨n, rfl, by omega, hq, h2⟩
      · rw [if_neg hq]
        exact .inl ⟨rfl, fun i hi => by
          by_cases h : i < n
          · exact h2 i h
          · obtain rfl : i = n := by omega
            simpa using hq⟩
    · rw [h1, if_pos (by omega)]; exact .inr ⟨k, rfl, by omega, h3, h4⟩
theorem firstTo_uniq {α : Type} {q : α → Bool} {P : Nat → α} {n : Nat} {r r' : Int} (h : firstTo q P n r) (h' : firstTo q P n r') : r = r' := by
  rcases h with ⟨h1, h2⟩ | ⟨k, h1, h2, h3, h4⟩ <;> rcases h' with ⟨g1, g2⟩ | ⟨j, g1, g2, g3, g4⟩
  · omega
  · rw [h2 j g2] at g3; cases g3
  · rw [g2 k h2] at h3; cases h3
  · by_cases hkj : k < j
    · rw [g4 k hkj] at h3; cases h3
    · by_cases hjk : j < k
      · rw [h4 j hjk] at g3; cases g3
      · omega
theorem firstTo_eq {α : Type} {q : α → Bool} {P : Nat → α} {n : Nat} {r : Int} (h : firstTo q P n r) : r = firstI q P n := firstTo_uniq h (firstI_to q P n)
theorem firstI_lt {α : Type} (q : α → Bool) (P : Nat → α) (n : Nat) : -1 ≤ firstI q P n ∧ firstI q P n < n := by
  rcases firstI_to q P n with ⟨h1, h2⟩ | ⟨k, h1, h2, h3, h4⟩ <;> omega
/-- Is the head of this watch less than its level? -/
def lowW (G : Gr) (p : Wt) : Bool := flt (G.hea p.cel.toNat) p.lim
/-- The watches lie in cells. -/
def watchIn (n : Nat) (P : Nat → Wt) : Prop := ∀ i, i < n → ∃ c : Nat, (P i).cel = c ∧ c < 64

end Go.Proofs.Ytglimhkpndfjgaa
/- Whether permits are kept; AreKept: the walks. -/
namespace Go.Proofs.Ytglimhkpndfjgaa
open Go.ChangeShapes Go.WideShapes Go.ChangeAt Go.RowKit
set_option linter.unusedVariables false
set_option linter.unusedSimpArgs false
attribute [local irreducible] Calls

theorem validO_watch {g : Gr} {n : Nat} {P : Nat → Wt} (h : validO g n P = true) : watchIn n P := fun i hi => by
  unfold validO at h
  simp only [Bool.and_eq_true, decide_eq_true_eq, Bool.not_eq_true'] at h
  have := anyTo_false.1 h.2.2 i hi
  unfold badW at this
  simp only [Bool.or_eq_false_iff, Bool.not_eq_false'] at this
  obtain ⟨c, h1, h2, _⟩ := isCI_parts this.1
  exact ⟨c, h1, h2⟩
def keptB (g : Gr) (n : Nat) (P : Nat → Wt) (m : Nat) (Q : Nat → Pm) : Bool := decide ((withT Q m 0 g).2 = 0) && decide (firstI (lowW (withT Q m 0 g).1) P n < 0)
def akT (g : Gr) (n : Nat) (P : Nat → Wt) (m : Nat) (Q : Nat → Pm) : Bool × Int := if validP g n P m Q then (keptB g n P m Q, 0) else (false, 1)

end Go.Proofs.Ytglimhkpndfjgaa
