import Derived.Test.YtmmfnklnmdhkiaaGreatMU15
import Derived.Test.YtmmfnklnmdhkiaaGreatMU22
import Derived.Test.YtmmfnklnmdhkiaaGreatMU20
import Derived.Test.YtmmfnklnmdhkiaaGreatMU16
import Derived.Test.YtmmfnklnmdhkiaaGreatMU04
import Derived.Test.YtmmfnklnmdhkiaaGreatMU03
import Derived.Test.YtmmfnklnmdhkiaaGreatMU05
import Derived.Test.YtmmfnklnmdhkiaaGreatMU06
import Derived.StillTailTactics
import Derived.IntWalk
/- The greatest change of heads between two grounds: the walks through the program's functions and the reference's. -/
namespace Go.Proofs.YtmmfnklnmdhkiaaGreat
open Go.ChangeShapes Go.WideShapes Go.ChangeAt Go.RowKit
set_option linter.unusedVariables false
set_option linter.unusedSimpArgs false
attribute [local irreducible] Calls

/-- The greatest of some numbers, the first one if several are as great. -/
def mxStep (v : Nat → Nat) (m k : Nat) : Nat := if fgt (v k) m then v k else m
def mx (v : Nat → Nat) : List Nat → Nat
  | [] => 0
  | c :: r => r.foldl (mxStep v) (v c)
theorem mx_snoc (v : Nat → Nat) (l : List Nat) (k : Nat) (h : l ≠ []) : mx v (l ++ [k]) = mxStep v (mx v l) k := by
  cases l with
  | nil => exact absurd rfl h
  | cons c r => simp [mx, List.foldl_append]
theorem mx_one (v : Nat → Nat) (k : Nat) : mx v [k] = v k := rfl
/-- The sizes of what cells have more. -/
def dsz (g g' : Gr) (k : Nat) : Nat := fab (dif g g' k)
def chg (g g' : Gr) : Nat := mx (dsz g g') (cellsTo g 64)

theorem cellF32 : CellTy Tryz.prog 25 := ⟨.float .f32, Tryz.underlying25, rfl, by kernel_rfl⟩
set_option maxRecDepth 100000 in
set_option maxHeartbeats 400000 in
theorem greatest_any (L : List Nat) (ff : Nat → Nat) (q r c : Nat) (T : TypeId) (w : World) (hL : L.length ≤ 64) (h64 : ∀ k, k ∈ L → k < 64) (hn : ∀ k, k ∈ L → isN .f32 (ff k) = false) (hQ : Blk w q (fls 64 ff).toArray T) (hown : Own w r 3 1 (.slice (some ⟨r, 0, none⟩) L.length c) L.length (ils L)) (hne : L ≠ []) :
    Calls Tryz.prog 49 #[.slice (some ⟨r, 0, none⟩) L.length c, .pointer (some ⟨q, 0, none⟩)] w fun e w' => ∃ k : Nat, e = .returned (.int .i64 k) ∧ k ∈ L ∧ Hid (fab (ff k) = mx (fun i => fab (ff i)) L) ∧ Below w.heap.size w w' := by
  have HN := Lib.hid (And.intro h64 hn)
  clear h64 hn
  obtain ⟨_, hcap, hc1, hc2⟩ := hown.form
  unfold maxLen at hc2
  clear hcap
  go_enter Tryz.func49, Tryz.ntmps49
  go_wp2_with fail
  go_loopw [5, 10] (fun bs i wr => ∃ (j : Nat) (x : Int), j ≤ L.length ∧ i = .int .i64 j ∧ bs = .int .i64 x ∧ Hid ((j = 0 ∧ x = -1) ∨ (0 < j ∧ ∃ k : Nat, x = k ∧ k ∈ L ∧ fab (ff k) = mx (fun i => fab (ff i)) (L.take j))) ∧ Blk wr q (fls 64 ff).toArray T ∧ Own wr r 3 1 (.slice (some ⟨r, 0, none⟩) L.length c) L.length (ils L) ∧ Below w.heap.size w wr) (fun _ i _ => L.length - (intOf i).toNat)
  case atStart => exact ⟨0, -1, by omega, rfl, rfl, Lib.hid (.inl ⟨rfl, rfl⟩), hQ, hown, Below.refl _ _⟩
  case round =>
    clear hQ hown
    obtain ⟨j, x, hj, rfl, rfl, hx, hQ, hown, hbel⟩ := hrel
    have lq := hQ.lt
    have bj : (0 : Int) ≤ j := by omega
    by_cases hlt : j < L.length
    · have bl : (j : Int) < L.length := by omega
      obtain ⟨k, hk⟩ : ∃ k, L[j]? = some k := ⟨_, List.getElem?_eq_getElem hlt⟩
      have c0 : wr.cell? ⟨r, j, none⟩ = some (.int .i64 k) := (hown.cell _ (by omega)).trans (ils_get _ _ _ hk)
      have hkL := List.mem_of_getElem? hk
      have hk64 := HN.out.1 k hkL
      have HT : Hid (L.take (j + 1) = L.take j ++ [k]) := Lib.hid (by rw [List.take_add_one, hk]; rfl)
      have HKL := Lib.hid hkL
      have hs1 := fun w' => size_any (ff k) (HN.out.2 k hkL) w'
      have c1 : wr.cell? ⟨q, k, none⟩ = some (.float .f32 (ff k)) := (hQ.cell _).trans (by rw [List.getElem?_toArray, fls_get 64 _ k hk64])
      have k0 : (0 : Int) ≤ k := by omega
      have k1 : (k : Int) < 64 := by omega
      clear hk hkL
      rcases hx.out with ⟨rfl, rfl⟩ | ⟨hj0, kb, rfl, hkb, hmx⟩
      · go_wp2_with fail
        go_quiet (fail)
        go_wp2_with fail
        go_roundw
        case rel => exact ⟨1, _, by omega, rfl, rfl, Lib.hid (.inr ⟨by omega, k, rfl, HKL.out, by rw [HT.out]; rfl⟩), hQ.drewN _, hown.drewN _, below_drewN hbel _⟩
        case measure => simp [intOf]; omega
      · have kb64 := HN.out.1 kb hkb
        have hs2 := fun w' => size_any (ff kb) (HN.out.2 kb hkb) w'
        have c2 : wr.cell? ⟨q, kb, none⟩ = some (.float .f32 (ff kb)) := (hQ.cell _).trans (by rw [List.getElem?_toArray, fls_get 64 _ kb kb64])
        have b0 : (0 : Int) ≤ kb := by omega
        have b1 : (kb : Int) < 64 := by omega
        have hd : decide ((kb : Int) < 0) = false := by simp
        have HB := Lib.hid (And.intro hkb hmx)
        have HNE : Hid (L.take j ≠ []) := Lib.hid (by intro h; have := congrArg List.length h; rw [List.length_take, List.length_nil] at this; omega)
        clear hkb hmx hx
        generalize hy1 : fab (ff k) = y1 at *
        generalize hy2 : fab (ff kb) = y2 at *
        have HY := Lib.hid (And.intro hy1 hy2)
        clear hy1 hy2
        go_wp2_with fail
        refine wp_region_below (by kernel_rfl) (by kernel_rfl) ?_
        refine quiet_move rfl rfl rfl rfl ?_
        simp only [List.set_cons_succ, List.set_cons_zero]
        refine quiet_run (v := .bool false) rfl rfl (fun w' => (show _ = Result.ok (Next.value (.bool (decide ((kb : Int) < 0)))) w' from rfl).trans (by rw [hd])) ?_
        simp only [List.set_cons_succ, List.set_cons_zero]
        refine quiet_move rfl rfl rfl rfl ?_
        simp only [List.set_cons_succ, List.set_cons_zero]
        refine quiet_move rfl rfl rfl rfl ?_
        simp only [List.set_cons_succ, List.set_cons_zero]
        refine quiet_move rfl rfl rfl rfl ?_
        simp only [List.set_cons_succ, List.set_cons_zero]
        refine quiet_run (v := .pointer (some ⟨q, 0, none⟩)) rfl rfl (fun w' => by rfl) ?_
        simp only [List.set_cons_succ, List.set_cons_zero]
        refine quiet_run (v := .pointer (some ⟨q, k, none⟩)) rfl rfl (fun w' => by simp [execOp, Act.eval, go_sem, k1]) ?_
        simp only [List.set_cons_succ, List.set_cons_zero]
        refine quiet_cell rfl rfl rfl rfl cellF32 (fun w' hw' => (hw'.cell (p := ⟨q, k, none⟩) lq).trans c1) ?_
        simp only [List.set_cons_succ, List.set_cons_zero]
        refine quiet_call rfl rfl rfl Tryz.func87 (by kernel_rfl) (by kernel_rfl) rfl (fun w' hw' => (hs1 w').mono fun e w'' h => ⟨h.1, by rw [h.2]; exact hw'⟩) ?_
        simp only [List.set_cons_succ, List.set_cons_zero]
        refine quiet_move rfl rfl rfl rfl ?_
        simp only [List.set_cons_succ, List.set_cons_zero]
        refine quiet_move rfl rfl rfl rfl ?_
        simp only [List.set_cons_succ, List.set_cons_zero]
        refine quiet_run (v := .pointer (some ⟨q, 0, none⟩)) rfl rfl (fun w' => by rfl) ?_
        simp only [List.set_cons_succ, List.set_cons_zero]
        refine quiet_run (v := .pointer (some ⟨q, kb, none⟩)) rfl rfl (fun w' => by simp [execOp, Act.eval, go_sem, b1]) ?_
        simp only [List.set_cons_succ, List.set_cons_zero]
        refine quiet_cell rfl rfl rfl rfl cellF32 (fun w' hw' => (hw'.cell (p := ⟨q, kb, none⟩) lq).trans c2) ?_
        simp only [List.set_cons_succ, List.set_cons_zero]
        refine quiet_call rfl rfl rfl Tryz.func87 (by kernel_rfl) (by kernel_rfl) rfl (fun w' hw' => (hs2 w').mono fun e w'' h => ⟨h.1, by rw [h.2]; exact hw'⟩) ?_
        simp only [List.set_cons_succ, List.set_cons_zero]
        refine quiet_run (v := .bool (fgt y1 y2)) rfl rfl (fun w' => by simp [execOp, Act.eval, go_sem, fgt_eq]) ?_
        simp only [List.set_cons_succ, List.set_cons_zero]
        refine quiet_run (v := .bool (fgt y1 y2)) rfl rfl (fun w' => by rfl) ?_
        simp only [List.set_cons_succ, List.set_cons_zero]
        refine wpQuiet_nil ?_
        intro w1 hw1
        have lw := hown.lt
        have hown := hown.below hw1 lw
        have hQ := hQ.below hw1 lq
        have hbel := hbel.trans (hw1.mono hbel.size)
        cases hv : fgt y1 y2
        · have HV := Lib.hid hv
          clear hv
          go_wp2_with fail
          go_roundw
          case rel => exact ⟨j + 1, _, by omega, by go_num, rfl, Lib.hid (.inr ⟨by omega, kb, rfl, HB.out.1, by rw [HT.out, mx_snoc _ _ _ HNE.out, HY.out.2, ← HB.out.2]; simp only [mxStep]; rw [HY.out.1, HV.out]; rfl⟩), hQ, hown, hbel⟩
          case measure => simp [intOf]; omega
        · have HV := Lib.hid hv
          clear hv
          go_wp2_with fail
          go_roundw
          case rel => exact ⟨j + 1, _, by omega, by go_num, rfl, Lib.hid (.inr ⟨by omega, k, rfl, HKL.out, by rw [HT.out, mx_snoc _ _ _ HNE.out, HY.out.1, ← HB.out.2]; simp only [mxStep]; rw [HY.out.1, HV.out]; rfl⟩), hQ, hown, hbel⟩
          case measure => simp [intOf]; omega
    · obtain rfl : j = L.length := by omega
      have h0 : L.length ≠ 0 := fun h => hne (List.eq_nil_of_length_eq_zero h)
      rcases hx.out with ⟨h1, _⟩ | ⟨_, kb, rfl, hkb, hmx⟩
      · exact absurd h1 h0
      · rw [List.take_length] at hmx
        have HB := Lib.hid (And.intro hkb hmx)
        clear hkb hmx hx h0
        go_wp2_with fail
        go_ret
        exact ⟨kb, rfl, HB.out.1, Lib.hid HB.out.2, hbel⟩

/-- Cell 0 is a cell of a valid ground. -/
theorem isC_zero {g : Gr} (h : validG g = true) : isC g 0 = true := by
  obtain ⟨h1, h2, _⟩ := validG_parts h
  unfold isC; simp; omega
theorem cells_ne {g : Gr} (h : validG g = true) (k : Nat) (hk : 0 < k) : cellsTo g k ≠ [] := by
  intro h0
  have : 0 ∈ cellsTo g k := cellsTo_mem.2 ⟨hk, isC_zero h⟩
  rw [h0] at this; cases this
theorem plain_heads {g : Gr} (h : validG g = true) (k : Nat) (hk : k < 64) (hc : isC g k = true) : plain (g.hea k) = true := (fieldIs_at (validG_parts h).2.2.2.2.1 k hk).1 hc

end Go.Proofs.YtmmfnklnmdhkiaaGreat
/- Sweeps over a ground: the walks through the program's functions and the reference's. -/
namespace Go.Proofs.YtmmfnklnmdhkiaaGreat
open Go.ChangeShapes Go.WideShapes Go.ChangeAt Go.RowKit
set_option linter.unusedVariables false
set_option linter.unusedSimpArgs false
attribute [local irreducible] Calls

def tolR (g G : Gr) : Gr := if validG G then G else zeroG
def tolM (g G : Gr) : Nat := if validG G then chg g G else 0
def tolC (g G : Gr) : Int := if validG G then 0 else 4

end Go.Proofs.YtmmfnklnmdhkiaaGreat
/- A sweep over a ground: the walks through the program's sweep and the reference's. -/
namespace Go.Proofs.YtmmfnklnmdhkiaaGreat
open Go.ChangeShapes Go.WideShapes Go.ChangeAt Go.RowKit
set_option linter.unusedVariables false
set_option linter.unusedSimpArgs false
attribute [local irreducible] Calls

def swp (G : Gr) (k : Nat) : Gr := { G with hea := upd G.hea k (sett G k) }
def sweepL (g : Gr) (l : List Nat) : Gr := l.foldl swp g
def sweepG (g : Gr) : Gr := sweepL g (cellsTo g 64)
theorem sweepL_snoc (g : Gr) (l : List Nat) (k : Nat) : sweepL g (l ++ [k]) = swp (sweepL g l) k := by unfold sweepL; rw [List.foldl_append]; rfl
theorem swp_al {g g' : Gr} (hs : g.small) (h : GrEq g g') {k b : Nat} (hk : k < 64) (hb : cn b = cn (sett g k)) : GrEq { g with hea := upd g.hea k b } (swp g' k) := by
  unfold swp
  exact h.upd (by rw [hb, sett_al hs h k hk])
theorem dsz_al {g G G' : Gr} (h : GrEq G G') (k : Nat) (hk : k < 64) : dsz g G k = dsz g G' k := by
  unfold dsz dif; rw [fop_eq (h.hea k hk) rfl]
theorem mxFold_congr {v v' : Nat → Nat} : ∀ (l : List Nat) (m : Nat), (∀ k, k ∈ l → v k = v' k) → l.foldl (mxStep v) m = l.foldl (mxStep v') m
  | [], _, _ => rfl
  | a :: l, m, h => by
    rw [List.foldl_cons, List.foldl_cons, show mxStep v m a = mxStep v' m a by unfold mxStep; rw [h a (List.mem_cons_self ..)]]
    exact mxFold_congr l _ fun k hk => h k (List.mem_cons_of_mem _ hk)
theorem mx_congr {v v' : Nat → Nat} {l : List Nat} (h : ∀ k, k ∈ l → v k = v' k) : mx v l = mx v' l := by
  cases l with
  | nil => rfl
  | cons c r => show r.foldl (mxStep v) (v c) = r.foldl (mxStep v') (v' c); rw [h c (List.mem_cons_self ..)]; exact mxFold_congr r _ fun k hk => h k (List.mem_cons_of_mem _ hk)
theorem chg_al {g G G' : Gr} (h : GrEq G G') : chg g G = chg g G' := mx_congr fun k hk => dsz_al h k (cellsTo_mem.1 hk).1
theorem tol_al {g G G' : Gr} (h : GrEq G G') : (tolR g G).cells = (tolR g G').cells ∧ tolM g G = tolM g G' ∧ tolC g G = tolC g G' := by
  unfold tolR tolM tolC
  rw [validG_al h, chg_al h]
  cases hv : validG G'
  · exact ⟨rfl, rfl, rfl⟩
  · exact ⟨h.cells hv, rfl, rfl⟩
theorem tolR_ok {g G : Gr} (h : G.ok) : (tolR g G).ok := by
  unfold tolR; split
  · exact h
  · exact zeroG_ok
theorem swp_same (G : Gr) (k : Nat) : (swp G k).wide = G.wide ∧ (swp G k).high = G.high ∧ (swp G k).fix = G.fix := ⟨rfl, rfl, rfl⟩
theorem sweepL_same (g : Gr) : ∀ (l : List Nat), (sweepL g l).wide = g.wide ∧ (sweepL g l).high = g.high ∧ (sweepL g l).fix = g.fix := fun l => by
  unfold sweepL
  induction l generalizing g with
  | nil => exact ⟨rfl, rfl, rfl⟩
  | cons a l ih => rw [List.foldl_cons]; exact ih (swp g a)
theorem sweepG_ok {g : Gr} (h : g.ok) : (sweepG g).ok := by
  obtain ⟨h1, h2, h3⟩ := sweepL_same g (cellsTo g 64)
  exact ⟨by unfold sweepG; rw [h1]; exact h.wide, by unfold sweepG; rw [h2]; exact h.high, by unfold sweepG; rw [h3]; exact h.fix⟩
theorem cellsTo_next (g : Gr) (k : Nat) : cellsTo g (k + 1) = if isC g k then cellsTo g k ++ [k] else cellsTo g k := by
  unfold cellsTo; rw [List.range_succ, List.filter_append]
  cases h : isC g k <;> simp [h]

end Go.Proofs.YtmmfnklnmdhkiaaGreat
/- Sweeps until the heads are still: the walks through the program's settle and the reference's. -/
namespace Go.Proofs.YtmmfnklnmdhkiaaGreat
open Go.ChangeShapes Go.WideShapes Go.ChangeAt Go.RowKit
set_option linter.unusedVariables false
set_option linter.unusedSimpArgs false
attribute [local irreducible] Calls

/-- What comes of a ground that is swept until it is still, l sweeps being left. -/
def settT (within : Nat) : Nat → Int → Gr → Gr × Int × Int
  | 0, _, _ => (zeroG, 0, 7)
  | l + 1, n, G => if validG (sweepG G) then (if fle (chg G (sweepG G)) within then (sweepG G, n + 1, 0) else settT within l (n + 1) (sweepG G)) else (zeroG, 0, 4)
theorem settT_bad {within : Nat} {G : Gr} (h : validG (sweepG G) = false) (l : Nat) (n : Int) : settT within (l + 1) n G = (zeroG, 0, 4) := by simp [settT, h]
theorem settT_done {within : Nat} {G : Gr} (h : validG (sweepG G) = true) (h2 : fle (chg G (sweepG G)) within = true) (l : Nat) (n : Int) : settT within (l + 1) n G = (sweepG G, n + 1, 0) := by simp [settT, h, h2]
theorem settT_on {within : Nat} {G : Gr} (h : validG (sweepG G) = true) (h2 : fle (chg G (sweepG G)) within = false) (l : Nat) (n : Int) : settT within (l + 1) n G = settT within l (n + 1) (sweepG G) := by simp [settT, h, h2]

end Go.Proofs.YtmmfnklnmdhkiaaGreat
/- Watches in memory, and the walks over lists of watches that several laws need. -/
namespace Go.Proofs.YtmmfnklnmdhkiaaGreat
open Go.ChangeShapes Go.WideShapes Go.ChangeAt Go.RowKit
set_option linter.unusedVariables false
set_option linter.unusedSimpArgs false
attribute [local irreducible] Calls

/-- A watch's numbers. -/
structure Wt where
  cel : Int
  lim : Nat
/-- Each number fits its kind. -/
def Wt.ok (p : Wt) : Prop := -128 ≤ p.cel ∧ p.cel ≤ 127
@[irreducible] def Wt.cells (p : Wt) : Array Value := #[.int .i8 p.cel, .float .f32 p.lim]
theorem Wt.cells_eq (p : Wt) : p.cells = #[.int .i8 p.cel, .float .f32 p.lim] := by unfold Wt.cells; rfl
theorem Wt.cells_size (p : Wt) : p.cells.size = 2 := by rw [p.cells_eq]; rfl
theorem Wt.get0 (p : Wt) : p.cells[0]? = some (.int .i8 p.cel) := by rw [p.cells_eq]; rfl
theorem Wt.get1 (p : Wt) : p.cells[1]? = some (.float .f32 p.lim) := by rw [p.cells_eq]; rfl
theorem Wt.one (p : Wt) : ∀ v ∈ p.cells.toList, v.oneCell' = true := by
  intro v hv; rw [p.cells_eq] at hv; simp at hv; rcases hv with rfl | rfl <;> rfl

/-- n watches, one behind the other. -/
@[irreducible] def wls (n : Nat) (P : Nat → Wt) : List Value := (List.range n).flatMap fun i => (P i).cells.toList
theorem wls_zero (P : Nat → Wt) : wls 0 P = [] := by simp [wls]
theorem wls_succ (n : Nat) (P : Nat → Wt) : wls (n + 1) P = wls n P ++ (P n).cells.toList := by simp [wls, List.range_succ, List.flatMap_append]
theorem wls_length (n : Nat) (P : Nat → Wt) : (wls n P).length = n * 2 := by
  induction n with
  | zero => simp [wls_zero]
  | succ n ih => rw [wls_succ, List.length_append, ih]; simp [Wt.cells_size]; omega
theorem wls_congr {P P' : Nat → Wt} : ∀ {n : Nat}, (∀ i, i < n → P i = P' i) → wls n P = wls n P'
  | 0, _ => by rw [wls_zero, wls_zero]
  | n + 1, h => by rw [wls_succ, wls_succ, wls_congr (fun i hi => h i (by omega)), h n (by omega)]
theorem wls_get (n : Nat) (P : Nat → Wt) (i c : Nat) (h : i < n) (hc : c < 2) : (wls n P)[i * 2 + c]? = (P i).cells[c]? := by
  induction n with
  | zero => omega
  | succ n ih =>
    rw [wls_succ, List.getElem?_append, wls_length]
    by_cases hi : i < n
    · rw [if_pos (by omega), ih hi]
    · obtain rfl : i = n := by omega
      rw [if_neg (by omega), show i * 2 + c - i * 2 = c by omega]; simp
theorem wls_one (n : Nat) (P : Nat → Wt) : ∀ v ∈ wls n P, v.oneCell' = true := by
  intro v hv; unfold wls at hv; simp only [List.mem_flatMap] at hv; obtain ⟨i, _, hi⟩ := hv; exact (P i).one v hi
theorem wls_drop (n : Nat) (P : Nat → Wt) (k : Nat) (h : k < n) : ((wls n P).drop (k * 2)).take 2 = (P k).cells.toList := by
  apply List.ext_getElem?
  intro c
  rw [List.getElem?_take]
  by_cases hc : c < 2
  · rw [if_pos hc, List.getElem?_drop, wls_get n P k c h hc]; simp
  · rw [if_neg hc, List.getElem?_eq_none]; simp [Wt.cells_size]; omega

/-- The slice v holds n watches, P. -/
def WSl (w : World) (v : Value) (n : Nat) (P : Nat → Wt) : Prop :=
  ∃ a cap, v = .slice a n cap ∧ n ≤ cap ∧ cap ≤ maxLen ∧ (n = 0 ∨ ∃ b o, a = some ⟨b, o, none⟩ ∧ b < w.heap.size ∧ ∀ i c, i < n → c < 2 → w.cell? ⟨b, o + i * 2 + c, none⟩ = (P i).cells[c]?)
theorem WSl.below {w w' : World} {v : Value} {n : Nat} {P : Nat → Wt} (h : WSl w v n P) (hb : Below w.heap.size w w') : WSl w' v n P := by
  obtain ⟨a, cap, rfl, h1, h2, h3⟩ := h
  refine ⟨a, cap, rfl, h1, h2, ?_⟩
  rcases h3 with h3 | ⟨b, o, rfl, hlt, hc⟩
  · exact .inl h3
  · exact .inr ⟨b, o, rfl, Nat.lt_of_lt_of_le hlt hb.size, fun i c hi h3 => (hb.cell (p := ⟨b, _, none⟩) hlt).trans (hc i c hi h3)⟩
theorem Own.wsl {w : World} {g : Nat} {e : TypeId} {v : Value} {n : Nat} {P : Nat → Wt} (h : Own w g e 2 v n (wls n P)) : WSl w v n P := by
  obtain ⟨cap, rfl, h1, h2⟩ := h.form
  exact ⟨_, cap, rfl, h1, h2, .inr ⟨g, 0, rfl, h.lt, fun i c hi hc => by rw [Nat.zero_add, h.cell _ (by omega), wls_get n P i c hi hc]⟩⟩

/-- n watchs' room. -/
@[irreducible] def zwt (n : Nat) : Array Value := madeCells (Wt.cells ⟨0, 0⟩) (n * 2)
theorem zwt_size (n : Nat) : (zwt n).size = n * 2 := by unfold zwt; rw [size_madeCells]
/-- A watch behind the walk of one store. -/
theorem zwt_mixed_size (n : Nat) (P : Nat → Wt) (k : Nat) (hk : k ≤ n) : (mixed (wls n P).toArray (zwt n) (k * 2)).size = n * 2 := by
  rw [mixed_size _ _ (by simp [wls_length, zwt_size]) _ (by simp [wls_length]; omega)]; simp [wls_length]

end Go.Proofs.YtmmfnklnmdhkiaaGreat
/- Offices in memory: a ground and its watches. -/
namespace Go.Proofs.YtmmfnklnmdhkiaaGreat
open Go.ChangeShapes Go.WideShapes Go.ChangeAt Go.RowKit
set_option linter.unusedVariables false
set_option linter.unusedSimpArgs false
attribute [local irreducible] Calls

/-- An office's cells: its ground's, and the slice of its watches. -/
@[irreducible] def ofc (g : Gr) (v : Value) : Array Value := g.cells.push v
theorem ofc_size (g : Gr) (v : Value) : (ofc g v).size = 196 := by unfold ofc; rw [Array.size_push, g.size]
theorem ofc_get (g : Gr) (v : Value) (i : Nat) (h : i < 195) : (ofc g v)[i]? = some (g.at i) := by
  unfold ofc; rw [Array.getElem?_push, g.size, if_neg (by omega), g.get i h]
theorem ofc_last (g : Gr) (v : Value) : (ofc g v)[195]? = some v := by
  unfold ofc; rw [Array.getElem?_push, g.size, if_pos rfl]
theorem ofc_of {cs : Array Value} {g : Gr} {v : Value} (hs : cs.size = 196) (h : ∀ i, i < 195 → cs[i]? = some (g.at i)) (h' : cs[195]? = some v) : cs = ofc g v := by
  apply Array.ext_getElem?
  intro i
  by_cases hi : i < 195
  · rw [h i hi, ofc_get g v i hi]
  · by_cases hi2 : i = 195
    · subst hi2; rw [h', ofc_last]
    · rw [Array.getElem?_eq_none (by omega), Array.getElem?_eq_none (by rw [ofc_size]; omega)]
theorem ofc_one (g : Gr) (v : Value) (hv : v.oneCell' = true) : ∀ u ∈ (ofc g v).toList, u.oneCell' = true := by
  intro u hu
  unfold ofc at hu
  simp only [Array.toList_push, List.mem_append, List.mem_singleton] at hu
  rcases hu with hu | rfl
  · exact g.one u hu
  · exact hv
theorem ofc_ext (g : Gr) (v : Value) : (ofc g v).extract 0 195 = g.cells := by
  apply Gr.cells_of
  · simp [ofc_size]
  · intro i hi
    rw [Array.getElem?_extract, if_pos (by rw [ofc_size]; omega), Nat.zero_add, ofc_get g v i hi]
theorem ofc_splice (z g : Gr) (v : Value) : splice (ofc z v) 0 g.cells = ofc g v := by
  have hle : 0 + g.cells.size ≤ (ofc z v).size := by rw [ofc_size, g.size]; omega
  refine ofc_of (by rw [splice_size _ _ _ hle, ofc_size]) (fun i hi => ?_) ?_
  · rw [splice_get _ _ _ hle, g.size, if_neg (by omega), if_pos (by omega), Nat.sub_zero, g.get i hi]
  · rw [splice_get _ _ _ hle, g.size, if_neg (by omega), if_neg (by omega), ofc_last]
theorem ofc_set (g : Gr) (v u : Value) : (ofc g v).setIfInBounds 195 u = ofc g u := by
  refine ofc_of (by simp [ofc_size]) (fun i hi => ?_) ?_
  · rw [Array.getElem?_setIfInBounds, if_neg (by omega), ofc_get g v i hi]
  · rw [Array.getElem?_setIfInBounds, if_pos rfl, if_pos (by rw [ofc_size]; omega)]
theorem Blk.ogat {w : World} {b : Nat} {g : Gr} {v : Value} {T : TypeId} (h : Blk w b (ofc g v) T) : GAt w b g := ⟨h.lt, fun i hi => (h.cell i).trans (ofc_get g v i hi)⟩
end Go.Proofs.YtmmfnklnmdhkiaaGreat
/- ValidOffice, in the program and in the reference. -/
namespace Go.Proofs.YtmmfnklnmdhkiaaGreat
open Go.ChangeShapes Go.WideShapes Go.ChangeAt Go.RowKit
set_option linter.unusedVariables false
set_option linter.unusedSimpArgs false
attribute [local irreducible] Calls

/-- Is the number k a cell? -/
def isCI (g : Gr) (k : Int) : Bool := (decide (0 ≤ k) && decide (k ≤ 63)) && isC g k.toNat
def badW (g : Gr) (p : Wt) : Bool := !isCI g p.cel || !plain p.lim
def validO (g : Gr) (n : Nat) (P : Nat → Wt) : Bool := validG g && (decide (n ≤ 6) && !anyTo (badW g) P n)

set_option maxRecDepth 100000 in
set_option maxHeartbeats 400000 in
theorem l01Is_int (g : Gr) (b : Nat) (k : Int) (hg : g.ok) (hk : -9223372036854775808 ≤ k ∧ k ≤ 9223372036854775807) (w : World) (hb : GAt w b g) :
    Calls Tryz.prog 67 #[.pointer (some ⟨b, 0, none⟩), .int .i64 k] w fun e w' => e = .returned (.bool (isCI g k)) ∧ w' = w := by
  by_cases hin : 0 ≤ k ∧ k ≤ 63
  · obtain ⟨j, rfl⟩ : ∃ j : Nat, k = j := ⟨k.toNat, by omega⟩
    have := l01Is_any g b j hg (by omega) w hb
    rw [show isCI g (j : Int) = isC g j from by unfold isCI; simp; omega]
    exact this
  · have hd : (decide (0 ≤ k) && decide (k ≤ 63)) = false := by simp; omega
    have hi := l00In_any k 0 63 w
    rw [hd] at hi
    unfold isCI
    rw [hd]
    go_enter Tryz.func67, Tryz.ntmps67
    go_wp2_with (go_at_call 66; refine hi.mono ?_; rintro e w' ⟨rfl, hw⟩; rw [hw]; clear hw w')
    go_ret
    exact ⟨rfl, rfl⟩

end Go.Proofs.YtmmfnklnmdhkiaaGreat
/- ValidPermits, in the program and in the reference. -/
namespace Go.Proofs.YtmmfnklnmdhkiaaGreat
open Go.ChangeShapes Go.WideShapes Go.ChangeAt Go.RowKit
set_option linter.unusedVariables false
set_option linter.unusedSimpArgs false
attribute [local irreducible] Calls

/-- A permit that is none by its own numbers; that is none on this ground. -/
def badP (p : Pm) : Bool := badOwner p || (badRate p || !(decide (0 ≤ p.cel) && decide (p.cel ≤ 63)))
def badPG (g : Gr) (p : Pm) : Bool := badOwner p || (badRate p || !isCI g p.cel)
def validP (g : Gr) (n : Nat) (P : Nat → Wt) (m : Nat) (Q : Nat → Pm) : Bool := validO g n P && (decide (m ≤ 6) && !anyTo (badPG g) Q m)
theorem owner_bad (p : Pm) : (decide (0 ≤ p.own) && decide (p.own ≤ 7)) = !badOwner p := by unfold badOwner; simp
theorem rate_bad (p : Pm) : (decide (0 ≤ p.rat) && decide (p.rat ≤ 400)) = !badRate p := by unfold badRate; simp

/-- May these be permits, whatever the ground? -/
def plainPs (m : Nat) (Q : Nat → Pm) : Bool := decide (m ≤ 6) && !anyTo badP Q m

theorem validP_eq (g : Gr) (n : Nat) (P : Nat → Wt) (m : Nat) (Q : Nat → Pm) : validP g n P m Q = (validO g n P && (plainPs m Q && !anyTo (fun p => !isCI g p.cel) Q m)) := by
  unfold validP plainPs
  rw [Bool.and_assoc (decide (m ≤ 6))]
  congr 2
  apply Bool.eq_iff_iff.2
  simp only [Bool.not_eq_true', Bool.and_eq_true, anyTo_false]
  constructor
  · intro h
    refine ⟨fun i hi => ?_, fun i hi => ?_⟩
    · have h1 := h i hi
      unfold badPG at h1
      unfold badP
      simp only [Bool.or_eq_false_iff, Bool.not_eq_false'] at h1 ⊢
      refine ⟨h1.1, h1.2.1, ?_⟩
      have := h1.2.2
      unfold isCI at this
      exact (Bool.and_eq_true_iff.1 this).1
    · have h1 := h i hi
      unfold badPG at h1
      simp only [Bool.or_eq_false_iff] at h1
      exact h1.2.2
  · rintro ⟨h, h'⟩ i hi
    have h1 := h i hi
    have h2 := h' i hi
    unfold badP at h1
    unfold badPG
    simp only [Bool.or_eq_false_iff] at h1 ⊢
    exact ⟨h1.1, h1.2.1, h2⟩

end Go.Proofs.YtmmfnklnmdhkiaaGreat
