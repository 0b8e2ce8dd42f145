import Derived.Test.YtglimhkpndfjgaaMT21
import Derived.Test.YtglimhkpndfjgaaMT16
import Derived.Test.YtglimhkpndfjgaaMT10
/- Fits: the aquifers that are tried, the best one, the rounds of a fit, the best of several. Plain laws; no statement is proved here. -/
namespace Go.Proofs.Ytglimhkpndfjgaa
open Ieee
set_option linter.unusedVariables false
set_option linter.unusedSimpArgs false

/-- The misfit. -/
def mfX (s : Si) (R : Nat → Rg) (n : Nat) (T S : Nat) : Nat := fsumTo (fun i => fab (dfX T S s (R i))) n
theorem mfX_in {T S : Nat} {s : Si} {R : Nat → Rg} {n : Nat} (h : Aq T S) (hs : SiD s) (hR : ∀ i, i < n → RgD (R i)) (hn : n ≤ 8) : mfX s R n T S < 2139095040 ∧ ∀ i, i < n → fab (dfX T S s (R i)) ≤ mfX s R n T S :=
  fsum_posN (j := 220) (by omega) n (by omega) fun i hi => dfX_mg h hs (hR i hi)
/-! ### The aquifers that are tried. -/
def trT (T i : Nat) : Nat := if i = 0 then fop .mul T 1067450368 else if i = 1 then fop .mul T 1061997773 else T
def trS (S i : Nat) : Nat := if i = 2 then fop .mul S 1067450368 else if i = 3 then fop .mul S 1061997773 else S
theorem tr_nrm {T S : Nat} (h : Aq T S) (i : Nat) : Nrm (trT T i) 116 150 ∧ Nrm (trS S i) 106 130 := by
  have r : Nrm 1067450368 127 128 := ⟨by decide, by decide⟩
  have f : Nrm 1061997773 126 127 := ⟨by decide, by decide⟩
  constructor
  · unfold trT
    split
    · exact (h.t.mul r (by omega) (by omega) (by omega) (by omega) (by omega) (by omega)).mono (by omega) (by omega)
    · split
      · exact (h.t.mul f (by omega) (by omega) (by omega) (by omega) (by omega) (by omega)).mono (by omega) (by omega)
      · exact h.t.mono (by omega) (by omega)
  · unfold trS
    split
    · exact (h.s.mul r (by omega) (by omega) (by omega) (by omega) (by omega) (by omega)).mono (by omega) (by omega)
    · split
      · exact (h.s.mul f (by omega) (by omega) (by omega) (by omega) (by omega) (by omega)).mono (by omega) (by omega)
      · exact h.s.mono (by omega) (by omega)
theorem tr_ops {T S : Nat} (h : Aq T S) : Opr .mul T 1067450368 (trT T 0) ∧ Opr .mul T 1061997773 (trT T 1) ∧ Opr .mul S 1067450368 (trS S 2) ∧ Opr .mul S 1061997773 (trS S 3) := by
  refine ⟨?_, ?_, ?_, ?_⟩
  · exact Opr.of (j := 150) ((tr_nrm h 0).1.mg (by omega)) (by omega)
  · exact Opr.of (j := 150) ((tr_nrm h 1).1.mg (by omega)) (by omega)
  · exact Opr.of (j := 130) ((tr_nrm h 2).2.mg (by omega)) (by omega)
  · exact Opr.of (j := 130) ((tr_nrm h 3).2.mg (by omega)) (by omega)
theorem aq_of_ok {T S : Nat} (hT : Nrm T 116 150) (hS : Nrm S 106 130) (h : aqOk T S = true) : AqD T S := by
  refine ⟨?_, h⟩
  unfold aqOk at h
  simp only [Bool.and_eq_true] at h
  obtain ⟨⟨⟨h1, h2⟩, h3⟩, h4⟩ := h
  have t := hT.hi (by omega)
  have s := hS.hi (by omega)
  rw [fge_fin t (by omega)] at h1
  rw [fle_fin t (by omega)] at h2
  rw [fge_fin s (by omega)] at h3
  rw [fle_fin s (by omega)] at h4
  simp only [decide_eq_true_eq] at h1 h2 h3 h4
  exact ⟨⟨by omega, by omega⟩, ⟨by omega, by omega⟩⟩
theorem tr_aq {T S i : Nat} (h : Aq T S) (hok : aqOk (trT T i) (trS S i) = true) : AqD (trT T i) (trS S i) := aq_of_ok (tr_nrm h i).1 (tr_nrm h i).2 hok
/-- The best of the first k that are tried and are right: the first one with the least misfit. -/
def btTo (M : Nat → Nat → Nat) (T S : Nat) : Nat → Option (Nat × Nat × Nat)
  | 0 => none
  | k + 1 => if aqOk (trT T k) (trS S k) = true then
      match btTo M T S k with
      | none => some (trT T k, trS S k, M (trT T k) (trS S k))
      | some b => if M (trT T k) (trS S k) < b.2.2 then some (trT T k, trS S k, M (trT T k) (trS S k)) else some b
    else btTo M T S k
/-- Those of the first k that are right. -/
def vlTo (T S : Nat) : Nat → List (Nat × Nat)
  | 0 => []
  | k + 1 => if aqOk (trT T k) (trS S k) = true then vlTo T S k ++ [(trT T k, trS S k)] else vlTo T S k
/-- The first place of the least one among the first k. -/
def lsTo (F : Nat → Nat) : Nat → Nat
  | 0 => 0
  | k + 1 => if k = 0 then 0 else if F k < F (lsTo F k) then k else lsTo F k
theorem lsTo_lt (F : Nat → Nat) : ∀ k, 0 < k → lsTo F k < k
  | 0, h => by omega
  | k + 1, _ => by
    unfold lsTo
    split
    · omega
    · split
      · omega
      · have := lsTo_lt F k (by omega); omega
theorem lsTo_congr {F G : Nat → Nat} : ∀ {k}, (∀ i, i < k → F i = G i) → lsTo F k = lsTo G k
  | 0, _ => rfl
  | k + 1, h => by
    have ih := lsTo_congr (F := F) (G := G) (k := k) (fun i hi => h i (by omega))
    unfold lsTo
    split
    · rfl
    · rename_i hk
      have hl := lsTo_lt G k (by omega)
      rw [ih, h k (by omega), h (lsTo G k) (by omega)]
theorem lsTo_step (F : Nat → Nat) (k : Nat) (hk : 0 < k) : lsTo F (k + 1) = if F k < F (lsTo F k) then k else lsTo F k := by
  show (if k = 0 then 0 else if F k < F (lsTo F k) then k else lsTo F k) = _
  rw [if_neg (by omega)]
theorem lsTo_min (F : Nat → Nat) : ∀ k, ∀ i, i < k → F (lsTo F k) ≤ F i
  | 0, _, h => by omega
  | k + 1, i, h => by
    unfold lsTo
    split
    · have : i = 0 := by omega
      rw [this]; exact Nat.le_refl _
    · split
      · by_cases e : i = k
        · rw [e]; exact Nat.le_refl _
        · have := lsTo_min F k i (by omega); omega
      · by_cases e : i = k
        · rw [e]; omega
        · exact lsTo_min F k i (by omega)
theorem lsTo_first (F : Nat → Nat) : ∀ k, ∀ i, i < lsTo F k → F (lsTo F k) < F i
  | 0, i, h => by unfold lsTo at h; omega
  | k + 1, i, h => by
    unfold lsTo at h ⊢
    split at h
    · omega
    · rename_i hk
      rw [if_neg hk]
      split at h
      · rename_i h2
        rw [if_pos h2]
        have := lsTo_min F k i h; omega
      · rename_i h2
        rw [if_neg h2]
        exact lsTo_first F k i h
/-- The least of the first k. -/
def mnTo (F : Nat → Nat) : Nat → Nat
  | 0 => 0
  | k + 1 => if k = 0 then F 0 else if F k < mnTo F k then F k else mnTo F k
theorem mnTo_is (F : Nat → Nat) : ∀ k, 0 < k → mnTo F k = F (lsTo F k)
  | 0, h => by omega
  | k + 1, _ => by
    unfold mnTo lsTo
    by_cases hk : k = 0
    · subst hk; rfl
    · rw [if_neg hk, if_neg hk, mnTo_is F k (by omega)]
      split <;> rfl
theorem mnTo_step (F : Nat → Nat) (k : Nat) (hk : 0 < k) : mnTo F (k + 1) = if F k < mnTo F k then F k else mnTo F k := by
  show (if k = 0 then F 0 else if F k < mnTo F k then F k else mnTo F k) = _
  rw [if_neg (by omega)]
/-- The greatest of the first k. -/
def mxTo (F : Nat → Nat) : Nat → Nat
  | 0 => 0
  | k + 1 => if k = 0 then F 0 else if mxTo F k < F k then F k else mxTo F k
theorem mxTo_step (F : Nat → Nat) (k : Nat) (hk : 0 < k) : mxTo F (k + 1) = if mxTo F k < F k then F k else mxTo F k := by
  show (if k = 0 then F 0 else if mxTo F k < F k then F k else mxTo F k) = _
  rw [if_neg (by omega)]
theorem mxTo_ge (F : Nat → Nat) : ∀ k, ∀ i, i < k → F i ≤ mxTo F k
  | 0, _, h => by omega
  | k + 1, i, h => by
    unfold mxTo
    split
    · have : i = 0 := by omega
      rw [this]; exact Nat.le_refl _
    · split
      · by_cases e : i = k
        · rw [e]; exact Nat.le_refl _
        · have := mxTo_ge F k i (by omega); omega
      · by_cases e : i = k
        · rw [e]; omega
        · exact mxTo_ge F k i (by omega)
theorem mxTo_in (F : Nat → Nat) : ∀ k, 0 < k → ∃ i, i < k ∧ mxTo F k = F i
  | 0, h => by omega
  | k + 1, _ => by
    unfold mxTo
    split
    · exact ⟨0, by omega, rfl⟩
    · split
      · exact ⟨k, by omega, rfl⟩
      · obtain ⟨i, h1, h2⟩ := mxTo_in F k (by omega)
        exact ⟨i, by omega, h2⟩
/-! ### The best one, found in both ways. -/
def vT (l : List (Nat × Nat)) (i : Nat) : Nat := (l.getD i (0, 0)).1
def vS (l : List (Nat × Nat)) (i : Nat) : Nat := (l.getD i (0, 0)).2
def vM (M : Nat → Nat → Nat) (l : List (Nat × Nat)) (i : Nat) : Nat := M (vT l i) (vS l i)
theorem getD_app {α : Type} {l : List α} {a d : α} {i : Nat} (h : i < l.length) : (l ++ [a]).getD i d = l.getD i d := by
  simp [List.getD, List.getElem?_append, h]
theorem getD_last {α : Type} {l : List α} {a d : α} : (l ++ [a]).getD l.length d = a := by simp [List.getD]
theorem vM_app {M : Nat → Nat → Nat} {l : List (Nat × Nat)} {a : Nat × Nat} {i : Nat} (h : i < l.length) : vM M (l ++ [a]) i = vM M l i := by
  unfold vM vT vS; rw [getD_app h]
theorem vM_last {M : Nat → Nat → Nat} {l : List (Nat × Nat)} {a : Nat × Nat} : vM M (l ++ [a]) l.length = M a.1 a.2 := by
  unfold vM vT vS; rw [getD_last]
/-- What the best one is, by the list of those that are right. -/
def bsL (M : Nat → Nat → Nat) (l : List (Nat × Nat)) : Option (Nat × Nat × Nat) :=
  if l.length = 0 then none else some (vT l (lsTo (vM M l) l.length), vS l (lsTo (vM M l) l.length), vM M l (lsTo (vM M l) l.length))
theorem bsL_app (M : Nat → Nat → Nat) (l : List (Nat × Nat)) (a : Nat × Nat) : bsL M (l ++ [a]) = match bsL M l with
      | none => some (a.1, a.2, M a.1 a.2)
      | some b => if M a.1 a.2 < b.2.2 then some (a.1, a.2, M a.1 a.2) else some b := by
  unfold bsL
  rw [List.length_append, List.length_singleton, if_neg (by omega)]
  by_cases h0 : l.length = 0
  · rw [if_pos h0]
    have : l = [] := List.length_eq_zero_iff.1 h0
    subst this; rfl
  · rw [if_neg h0]
    have hl := lsTo_lt (vM M l) l.length (by omega)
    have hc : lsTo (vM M (l ++ [a])) l.length = lsTo (vM M l) l.length := lsTo_congr fun i hi => vM_app hi
    rw [lsTo_step _ _ (by omega), hc, vM_last, vM_app hl]
    by_cases hm : M a.1 a.2 < vM M l (lsTo (vM M l) l.length)
    · simp only [if_pos hm]
      rw [vM_last]
      unfold vT vS; rw [getD_last]
    · simp only [if_neg hm]
      rw [vM_app hl]
      unfold vT vS; rw [getD_app hl]
theorem bt_is (M : Nat → Nat → Nat) (T S : Nat) : ∀ k, btTo M T S k = bsL M (vlTo T S k)
  | 0 => rfl
  | k + 1 => by
    unfold btTo vlTo
    by_cases h : aqOk (trT T k) (trS S k) = true
    · rw [if_pos h, if_pos h, bsL_app, bt_is M T S k]
    · rw [if_neg h, if_neg h, bt_is M T S k]
theorem vlTo_aq {T S : Nat} (h : Aq T S) : ∀ k, ∀ p ∈ vlTo T S k, AqD p.1 p.2
  | 0, p, hp => by cases hp
  | k + 1, p, hp => by
    unfold vlTo at hp
    split at hp
    · rename_i hok
      rcases List.mem_append.1 hp with h1 | h1
      · exact vlTo_aq h k p h1
      · have : p = (trT T k, trS S k) := by simpa using h1
        rw [this]; exact tr_aq h hok
    · exact vlTo_aq h k p hp
theorem vlTo_len (T S : Nat) : ∀ k, (vlTo T S k).length ≤ k
  | 0 => Nat.le_refl _
  | k + 1 => by
    have := vlTo_len T S k
    unfold vlTo
    split
    · simp; omega
    · omega
theorem vl_get {T S : Nat} (h : Aq T S) {k i : Nat} (hi : i < (vlTo T S k).length) : AqD (vT (vlTo T S k) i) (vS (vlTo T S k) i) := by
  have : (vlTo T S k).getD i (0, 0) ∈ vlTo T S k := by
    simp only [List.getD, List.getElem?_eq_getElem hi, Option.getD_some]
    exact List.getElem_mem hi
  exact vlTo_aq h k _ this
theorem bt_aq {M : Nat → Nat → Nat} {T S : Nat} (h : Aq T S) {k : Nat} {b : Nat × Nat × Nat} (hb : btTo M T S k = some b) : AqD b.1 b.2.1 ∧ b.2.2 = M b.1 b.2.1 := by
  rw [bt_is] at hb
  unfold bsL at hb
  split at hb
  · cases hb
  · rename_i h0
    have hl := lsTo_lt (vM M (vlTo T S k)) (vlTo T S k).length (by omega)
    injection hb with hb
    rw [← hb]
    exact ⟨vl_get h hl, rfl⟩
/-! ### The rounds. -/
def fsT (M : Nat → Nat → Nat) (T S m : Nat) : Option (Nat × Nat × Nat) :=
  match btTo M T S 4 with
  | none => none
  | some b => if b.2.2 < m then some b else none
/-- A fit's numbers: the aquifer, its misfit, the rounds made. -/
structure Ft where
  T : Nat
  S : Nat
  m : Nat
  c : Nat
def ftR (M : Nat → Nat → Nat) : Nat → Ft → Ft
  | 0, s => s
  | k + 1, s => match fsT M s.T s.S s.m with
    | none => s
    | some b => ftR M k ⟨b.1, b.2.1, b.2.2, s.c + 1⟩
theorem ft_inv (M : Nat → Nat → Nat) : ∀ (k : Nat) (s : Ft), AqD s.T s.S → s.m = M s.T s.S → AqD (ftR M k s).T (ftR M k s).S ∧ (ftR M k s).m = M (ftR M k s).T (ftR M k s).S ∧ s.c ≤ (ftR M k s).c ∧ (ftR M k s).c ≤ s.c + k ∧ ((ftR M k s).c = s.c → (ftR M k s).m = s.m) ∧ (s.c < (ftR M k s).c → (ftR M k s).m < s.m)
  | 0, s, h1, h2 => ⟨h1, h2, Nat.le_refl _, Nat.le_refl _, fun _ => rfl, fun h => by unfold ftR at h; omega⟩
  | k + 1, s, h1, h2 => by
    unfold ftR
    cases hb : fsT M s.T s.S s.m with
    | none => exact ⟨h1, h2, Nat.le_refl _, by simp, fun _ => rfl, fun h => by simp at h⟩
    | some b =>
      have hb2 : btTo M s.T s.S 4 = some b ∧ b.2.2 < s.m := by
        unfold fsT at hb
        split at hb
        · cases hb
        · rename_i c hc
          split at hb
          · rename_i hlt
            injection hb with hb
            subst hb; exact ⟨hc, hlt⟩
          · cases hb
      obtain ⟨a1, a2⟩ := bt_aq h1.aq hb2.1
      obtain ⟨i1, i2, i3, i4, i5, i6⟩ := ft_inv M k ⟨b.1, b.2.1, b.2.2, s.c + 1⟩ a1 a2
      simp only at i3 i4 i5 i6 ⊢
      refine ⟨i1, i2, by omega, by omega, fun h => by omega, fun _ => ?_⟩
      by_cases h : (ftR M k ⟨b.1, b.2.1, b.2.2, s.c + 1⟩).c = s.c + 1
      · rw [i5 h]; exact hb2.2
      · have := i6 (by omega)
        have := hb2.2
        omega
end Go.Proofs.Ytglimhkpndfjgaa
/- Draws of the sixth week: an aquifer, wells. -/
namespace Go.Proofs.Ytglimhkpndfjgaa
open Go.ChangeShapes Go.WideShapes Go.ChangeAt Go.RowKit
set_option linter.unusedVariables false
set_option linter.unusedSimpArgs false
attribute [local irreducible] Calls
theorem zeroAq : ZeroTy Try.prog 26 #[.float .f32 0, .float .f32 0] := by unfold ZeroTy; kernel_rfl
theorem rowAqD : RowTy Try.prog 26 2 := ⟨_, Try.underlying26, rfl, by kernel_rfl⟩
theorem bytes_alloc {w : World} {v : Value} {n : Nat} (hv : Bytes w w.heap.size v n) (o : Obj) : Bytes (w.alloc o) (w.alloc o).heap.size v n := by
  obtain ⟨a, c, h1, h2, h3⟩ := hv.move (w' := w.alloc o) (fun r hr => heap_alloc_old w _ hr)
  refine ⟨a, c, h1, h2, fun j hj => ?_⟩
  obtain ⟨r, o', x, g1, g2, g3⟩ := h3 j hj
  exact ⟨r, o', x, g1, by simp; omega, g3⟩
set_option maxRecDepth 100000 in
set_option maxHeartbeats 400000 in
theorem p6Aquifer_any (v : Value) (n : Nat) (w : World) (hv : Bytes w w.heap.size v n) :
    Calls Try.prog 5 #[v] w fun e w' => ∃ T S : Nat, AqD T S ∧ e = .returned (.agg #[.float .f32 T, .float .f32 S]) ∧ Below w.heap.size w w' := by
  go_enter Try.func5, Try.ntmps5
  go_upto_region 1 with (refine wpList_alloc_as rfl rfl zeroAq ?_)
  have hb0 : Blk (w.alloc (.cells #[.float .f32 0, .float .f32 0] 26)) w.heap.size #[.float .f32 0, .float .f32 0] 26 := Blk.new _ _ _
  have hbel := below1 w (.cells #[.float .f32 0, .float .f32 0] 26)
  have hv1 := bytes_alloc hv (.cells #[.float .f32 0, .float .f32 0] 26)
  change Code.wp _ _ _ _ (w.alloc (.cells #[.float .f32 0, .float .f32 0] 26))
  generalize w.alloc (.cells #[.float .f32 0, .float .f32 0] 26) = W at *
  have lW := hb0.lt
  have hs := src_new hv1
  have hfr := l00From_any v n W hv1
  have hbs : Below w.heap.size w (W.alloc (.cells #[v, .int .i64 0, .int .u64 0] 90)) := hbel.alloc (by omega) _
  have hb0 := hb0.alloc (.cells #[v, .int .i64 0, .int .u64 0] 90)
  generalize W.alloc (.cells #[v, .int .i64 0, .int .u64 0] 90) = W1 at *
  generalize hq : W.heap.size = q at *
  have hp := pick_any q 0 800 (by omega) (by omega) (by omega) W1 hs
  clear hs hv1 hv
  go_upto_region 3 with (first | (go_at_call 26; refine hfr.mono ?_; rintro e w1 ⟨rfl, hw⟩; subst hw) | (go_at_call 27; refine hp.mono ?_; rintro e w2 ⟨x, ⟨x0, x1⟩, rfl, hs2, hg2⟩))
  obtain ⟨m, rfl⟩ : ∃ m : Nat, x = m := ⟨x.toNat, by omega⟩
  have hf := aqT_is (x := m) (by omega)
  rw [fcnt_some hf]
  rw [fres_some hf]
  have hp2 := pick_any q (0 + 2) 500 (by omega) (by omega) (by omega) w2 hs2
  clear hs2 hp
  have hb2 := hb0.grown hg2 (fun e => by injection e; omega)
  have hbs2 := hbs.grown hg2 (by have := hbs.size; omega) (fun k e => by injection e; omega)
  have h1 : ∀ l : Nat, ∀ u ∈ (#[.float .f32 (aqT m), .float .f32 (aqS l)] : Array Value).toList, u.oneCell' = true := fun l u hu => by simp at hu; rcases hu with rfl | rfl <;> rfl
  go_wp2_with (first | (go_at_call 27; refine hp2.mono ?_; rintro e w3 ⟨y, ⟨y0, y1⟩, rfl, hs3, hg3⟩; obtain ⟨l, rfl⟩ : ∃ m : Nat, y = m := ⟨y.toNat, by omega⟩; obtain ⟨c2, r2⟩ := Opr.told (aqS_is (x := l) (by omega)); have hb3 := hb2.grown hg3 (fun e => by injection e; omega)) | (refine wpList_store_blk rfl rfl rfl rfl rowAqD hb3 rfl rfl (h1 l) ?_))
  exact bodyPost_row rfl rfl rowAqD (hb3.setRow _) rfl rfl ⟨_, _, aqD_of (x := m) (y := l) (by omega) (by omega), rfl, below_setRow (hbs2.grown hg3 (by have := hbs2.size; omega) (fun k e => by injection e; omega)) (Nat.le_refl _) _⟩
/-- What P6Wells gives. -/
def GaveW (w : World) (e : Ending) (w' : World) : Prop := ∃ (x : Value) (r m : Nat) (Q : Nat → Wl), m ≤ 4 ∧ e = .returned x ∧ w.heap.size ≤ r ∧ (∀ i, i < m → WlD (Q i)) ∧ Own w' r 30 3 x m (lws m Q) ∧ Below w.heap.size w w'
theorem szF32W : (Try.prog.info? 24).map (·.size) = some 1 := by kernel_rfl
end Go.Proofs.Ytglimhkpndfjgaa
/- Draws of the sixth week: a site, times. -/
namespace Go.Proofs.Ytglimhkpndfjgaa
open Go.ChangeShapes Go.WideShapes Go.ChangeAt Go.RowKit
set_option linter.unusedVariables false
set_option linter.unusedSimpArgs false
attribute [local irreducible] Calls
@[irreducible] def Si.cells (s : Si) : Array Value := #[.int .i8 s.px, .int .i8 s.py, .float .f32 s.rt, .int .i8 s.x, .int .i8 s.y]
theorem Si.cells_eq (s : Si) : s.cells = #[.int .i8 s.px, .int .i8 s.py, .float .f32 s.rt, .int .i8 s.x, .int .i8 s.y] := by unfold Si.cells; rfl
theorem zeroSi : ZeroTy Try.prog 32 #[.int .i8 0, .int .i8 0, .float .f32 0, .int .i8 0, .int .i8 0] := by unfold ZeroTy; kernel_rfl
theorem rowSi : RowTy Try.prog 32 5 := ⟨_, Try.underlying32, rfl, by kernel_rfl⟩
theorem szI8S : (Try.prog.info? 28).map (·.size) = some 1 := by kernel_rfl
set_option maxRecDepth 100000 in
set_option maxHeartbeats 400000 in
theorem p6Site_any (v : Value) (n : Nat) (w : World) (hv : Bytes w w.heap.size v n) :
    Calls Try.prog 6 #[v] w fun e w' => ∃ s : Si, SiD s ∧ e = .returned (.agg s.cells) ∧ Below w.heap.size w w' := by
  go_enter Try.func6, Try.ntmps6
  go_upto_region 1 with (refine wpList_alloc_as rfl rfl zeroSi ?_)
  have hb0 : Blk (w.alloc (.cells #[.int .i8 0, .int .i8 0, .float .f32 0, .int .i8 0, .int .i8 0] 32)) w.heap.size #[.int .i8 0, .int .i8 0, .float .f32 0, .int .i8 0, .int .i8 0] 32 := Blk.new _ _ _
  have hbel := below1 w (.cells #[.int .i8 0, .int .i8 0, .float .f32 0, .int .i8 0, .int .i8 0] 32)
  have hv1 := bytes_alloc hv (.cells #[.int .i8 0, .int .i8 0, .float .f32 0, .int .i8 0, .int .i8 0] 32)
  change Code.wp _ _ _ _ (w.alloc (.cells #[.int .i8 0, .int .i8 0, .float .f32 0, .int .i8 0, .int .i8 0] 32))
  generalize w.alloc (.cells #[.int .i8 0, .int .i8 0, .float .f32 0, .int .i8 0, .int .i8 0] 32) = W at *
  have lW := hb0.lt
  have hs := src_new hv1
  have hfr := l00From_any v n W hv1
  have hbs : Below w.heap.size w (W.alloc (.cells #[v, .int .i64 0, .int .u64 0] 90)) := hbel.alloc (by omega) _
  have hb0 := hb0.alloc (.cells #[v, .int .i64 0, .int .u64 0] 90)
  generalize W.alloc (.cells #[v, .int .i64 0, .int .u64 0] 90) = W1 at *
  generalize hq : W.heap.size = q at *
  have hp := fun (n : Int) (j : Nat) (h1 : 1 ≤ n) (h2 : n ≤ 1099511627776) (hj : j < 900000) (w' : World) (hs : Src w' q j) => pick_any q j n (by omega) h1 h2 w' hs
  clear hv1 hv
  go_upto_region 2 with (go_at_call 26; refine hfr.mono ?_; rintro e w1 ⟨rfl, hw⟩; subst hw)
  have s0 := hbs.size
  go_upto_region 3 with (first | (go_at_call 27; refine (hp 6 0 (by decide) (by decide) (by omega) _ hs).mono ?_; rintro e w2 ⟨x, ⟨x0, x1⟩, rfl, hs2, hg2⟩; clear hs) | (go_at_call 27; refine (hp 6 2 (by decide) (by decide) (by omega) _ hs2).mono ?_; rintro e w3 ⟨y, ⟨y0, y1⟩, rfl, hs3, hg3⟩; clear hs2) | (go_at_call 27; refine (hp 900 4 (by decide) (by decide) (by omega) _ hs3).mono ?_; rintro e w4 ⟨z, ⟨z0, z1⟩, rfl, hs4, hg4⟩; clear hs3; obtain ⟨l, rfl⟩ : ∃ m : Nat, z = m := ⟨z.toNat, by omega⟩; obtain ⟨c2, r2⟩ := Opr.told (siR_is (x := l) (by omega))) | (refine wpList_alloc_as rfl rfl zeroSi ?_) | (refine wpList_store_last rfl rfl rfl rfl rfl (by kernel_rfl) rfl rfl ?_))
  rw [show w4.drewN 0 = w4 from rfl]
  have e4 := hg4.size
  have e3 := hg3.size
  have e2 := hg2.size
  have l4 := hs4.lt
  have hB := Blk.new w4 #[.int .i8 x, .int .i8 y, .float .f32 (siR l), .int .i8 0, .int .i8 0] 32
  have hs5 : Src (w4.alloc (.cells #[.int .i8 x, .int .i8 y, .float .f32 (siR l), .int .i8 0, .int .i8 0] 32)) q 6 := hs4.move fun r hr => heap_alloc_old w4 _ (by omega)
  have hb4 := (((hb0.grown hg2 (fun e => by injection e; omega)).grown hg3 (fun e => by injection e; omega)).grown hg4 (fun e => by injection e; omega)).alloc (.cells #[.int .i8 x, .int .i8 y, .float .f32 (siR l), .int .i8 0, .int .i8 0] 32)
  have hbs4 := (((hbs.grown hg2 (by omega) (fun k e => by injection e; omega)).grown hg3 (by omega) (fun k e => by injection e; omega)).grown hg4 (by omega) (fun k e => by injection e; omega)).alloc (by omega) (.cells #[.int .i8 x, .int .i8 y, .float .f32 (siR l), .int .i8 0, .int .i8 0] 32)
  generalize w4.alloc (.cells #[.int .i8 x, .int .i8 y, .float .f32 (siR l), .int .i8 0, .int .i8 0] 32) = W5 at *
  obtain ⟨r, hr⟩ : ∃ r, w4.heap.size = r := ⟨_, rfl⟩
  rw [hr] at hB ⊢
  have lq : q < r := by omega
  have lw : w.heap.size < r := by omega
  clear hb0 hbs hg2 hg3 hg4 hs4 hr
  go_upto_region 4 with (first | (go_at_call 27; refine (hp 10 6 (by decide) (by decide) (by omega) _ hs5).mono ?_; rintro e w6 ⟨a, ⟨a0, a1⟩, rfl, hs6, hg6⟩; have hB6 := hB.grown hg6 (fun e => by injection e; omega)) | (refine wpList_store_abs (v := .int .i8 a) rfl rfl rfl rfl szI8S rfl rfl hB6 (by simp) ?_; intro W6 hB7 hgB))
  have hB8 : Blk W6 r #[.int .i8 x, .int .i8 y, .float .f32 (siR l), .int .i8 a, .int .i8 0] 32 := hB7
  have e6 := hg6.size
  have eB := hgB.size
  have hs7 : Src W6 q 8 := hs6.move fun r' hr' => hgB.block r' (by have := hs5.lt; omega) (fun e => by injection e; omega)
  have hb7 := (hb4.grown hg6 (fun e => by injection e; omega)).grown hgB (fun e => by injection e; omega)
  have hbs7 := (hbs4.grown hg6 (by have := hbs4.size; omega) (fun k e => by injection e; omega)).grown hgB (by have := hbs4.size; omega) (fun k e => by injection e; omega)
  clear hB hB7 hb4 hbs4 hg6 hgB hs5 hs6
  go_upto_region 5 with (first | (go_at_call 27; refine (hp 10 8 (by decide) (by decide) (by omega) _ hs7).mono ?_; rintro e w8 ⟨b, ⟨b0, b1⟩, rfl, hs8, hg8⟩; have hB9 := hB8.grown hg8 (fun e => by injection e; omega)) | (refine wpList_store_abs (v := .int .i8 b) rfl rfl rfl rfl szI8S rfl rfl hB9 (by simp) ?_; intro W8 hBa hgC))
  have hBb : Blk W8 r #[.int .i8 x, .int .i8 y, .float .f32 (siR l), .int .i8 a, .int .i8 b] 32 := hBa
  have hb9 := (hb7.grown hg8 (fun e => by injection e; omega)).grown hgC (fun e => by injection e; omega)
  have hbs9 := (hbs7.grown hg8 (by have := hbs7.size; omega) (fun k e => by injection e; omega)).grown hgC (by have := hbs7.size; have := hg8.size; omega) (fun k e => by injection e; omega)
  have h1 : ∀ u ∈ (#[.int .i8 x, .int .i8 y, .float .f32 (siR l), .int .i8 a, .int .i8 b] : Array Value).toList, u.oneCell' = true := fun u hu => by simp at hu; rcases hu with rfl | rfl | rfl | rfl | rfl <;> rfl
  clear hB9 hBa hgC hg8 hb7 hbs7 hB8 hs7 hs8
  go_wp2_with (first | (refine wpList_load_blk rfl rfl rfl rowSi hBb rfl ?_) | (refine wpList_store_blk rfl rfl rfl rfl rowSi hb9 rfl rfl h1 ?_))
  exact bodyPost_row rfl rfl rowSi (hb9.setRow _) rfl rfl ⟨⟨x, y, siR l, a, b⟩, ⟨by show 0 ≤ x ∧ x ≤ 5; omega, by show 0 ≤ y ∧ y ≤ 5; omega, by show 0 ≤ a ∧ a ≤ 9; omega, by show 0 ≤ b ∧ b ≤ 9; omega, l, by omega, rfl⟩, by rw [Si.cells_eq], below_setRow hbs9 (Nat.le_refl _) _⟩
end Go.Proofs.Ytglimhkpndfjgaa
