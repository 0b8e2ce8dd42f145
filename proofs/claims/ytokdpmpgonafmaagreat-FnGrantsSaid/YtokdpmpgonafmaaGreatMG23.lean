import Derived.Test.YtokdpmpgonafmaaGreatMG22
import Derived.Test.YtokdpmpgonafmaaGreatMG12
/- Marks that a law writes into lists and offices, and lists of floats compared: the walks through the law's helpers. -/
namespace Go.Proofs.YtokdpmpgonafmaaGreat
open Go.ChangeShapes Go.WideShapes Go.ChangeAt Go.RowKit
set_option linter.unusedVariables false
set_option linter.unusedSimpArgs false
attribute [local irreducible] Calls

theorem settT_valid {within : Nat} : ∀ (l : Nat) (n : Int) (G : Gr), (settT within l n G).2.2 = 0 → validG (settT within l n G).1 = true
  | 0, _, _, h => by simp [settT] at h
  | l + 1, n, G, h => by
    unfold settT at h ⊢
    cases hv : validG (sweepG G)
    · rw [hv] at h; simp at h
    · rw [hv] at h
      simp only [if_true] at h ⊢
      cases hf : fle (chg G (sweepG G)) within
      · rw [hf] at h
        simp only [if_false, Bool.false_eq_true] at h ⊢
        exact settT_valid l _ _ h
      · simp only [if_true]; exact hv
theorem withT_valid {Q : Nat → Pm} : ∀ (l i : Nat) (G : Gr), (withT Q l i G).2 = 0 → validG (withT Q l i G).1 = true
  | 0, _, G, h => settT_valid 1000 0 G h
  | l + 1, i, G, h => by
    unfold withT at h ⊢
    cases hv : validG (lessG G (Q i))
    · rw [hv] at h; simp at h
    · rw [hv] at h
      simp only [if_true] at h ⊢
      exact withT_valid l _ _ h
theorem plainW {G : Gr} (h : validG G = true) (k : Nat) (hk : k < 64) : isN .f32 (G.hea k) = false := fieldIs_num (fun _ => plain_num) (validG_parts h).2.2.2.2.1 k hk
theorem lv_num {g : Gr} {n m : Nat} {P : Nat → Wt} {Q : Nat → Pm} : ∀ i, i < lvN g n P m Q → isN .f32 (lvF (gwT g n P m Q).1 P i) = false := fun i hi => by
  unfold lvN at hi
  by_cases h : (gwT g n P m Q).2 = 0
  · rw [if_pos h] at hi
    obtain ⟨c, hc, hc64⟩ := (gwT_watch' h).1 i hi
    have hv : validG (gwT g n P m Q).1 = true := by
      unfold gwT at h ⊢
      cases hp : validP g n P m Q
      · rw [hp] at h; simp at h
      · rw [hp] at h
        simp only [if_true] at h ⊢
        exact withT_valid _ _ _ h
    unfold lvF
    exact plainW hv _ (by rw [hc]; omega)
  · rw [if_neg h] at hi; omega
theorem isN_int (n : Int) : isN .f32 (floatOfInt .f32 n) = false := by
  unfold floatOfInt FloatKind.nearest FloatKind.encode Ieee.Format.write
  exact isN_nearest _ _ _
theorem fls_setL (n : Nat) (f : Nat → Nat) (k b : Nat) (hk : k < n) : (fls n f).set k (.float .f32 b) = fls n (upd f k b) := by
  have := congrArg Array.toList (fls_set n f k b hk)
  simpa using this

set_option maxRecDepth 100000 in
set_option maxHeartbeats 400000 in
theorem markW_any (n g : Nat) (xs : List Value) (m : Int) (hm : 0 ≤ m ∧ m ≤ 8388608) (hn : n ≤ 1048576) (w : World) (hown : Own w g 106 2 (.slice (some ⟨g, 0, none⟩) n n) n xs) :
    Calls Tryz.prog 44 #[.slice (some ⟨g, 0, none⟩) n n, .int .i64 m] w fun e w' => e = .returned (.int .i64 (m + 2 * n)) ∧ Only g w w' := by
  have cv := fun (n : Int) (w : World) => run_convert_int_float (P := Tryz.prog) w 3 23 .i64 .f32 n (by kernel_rfl) Tryz.underlying23
  go_enter Tryz.func44, Tryz.ntmps44
  go_wp2_with fail
  go_loopw [1, 5] (fun q i wr => ∃ (k : Nat) (ys : List Value), k ≤ n ∧ i = .int .i64 k ∧ q = .int .i64 (m + 2 * k) ∧ Own wr g 106 2 (.slice (some ⟨g, 0, none⟩) n n) n ys ∧ Only g w wr) (fun _ i _ => n - (intOf i).toNat)
  case atStart => exact ⟨0, xs, by omega, rfl, by simp, hown, Only.refl _ _⟩
  case round =>
    clear hown
    obtain ⟨k, ys, hk, rfl, rfl, hown, honly⟩ := hrel
    by_cases hlt : k < n
    · have hl : ys.length = n * 2 := hown.1
      obtain ⟨u0, hu0⟩ : ∃ u, ys[k * 2]? = some u := ⟨_, List.getElem?_eq_getElem (by omega)⟩
      obtain ⟨u1, hu1⟩ : ∃ u, ys[k * 2 + 1]? = some u := ⟨_, List.getElem?_eq_getElem (by omega)⟩
      have f0 := hown.free (k * 2)
      have f1 := fun u => (hown.setCell (k * 2) u).free (k * 2 + 1)
      have bk : (0 : Int) ≤ k := by omega
      have bl : (k : Int) < n := by omega
      have e0 : wr.cell? ⟨g, k * 2, none⟩ = some u0 := (hown.cell _ (by omega)).trans hu0
      have e1 : wr.cell? ⟨g, k * 2 + 1, none⟩ = some u1 := (hown.cell _ (by omega)).trans hu1
      go_wp2_with fail
      go_roundw
      case rel => exact ⟨k + 1, _, by omega, by go_num, by go_num, (hown.setCell _ _).setCell _ _, (honly.setCell _ _).setCell _ _⟩
      case measure => simp [intOf]; omega
    · obtain rfl : k = n := by omega
      go_wp2_with fail
      go_ret
      exact ⟨rfl, honly⟩

set_option maxRecDepth 100000 in
set_option maxHeartbeats 400000 in
theorem markO_any (g0 : Gr) (n g : Nat) (xs : List Value) (m : Int) (hm : 0 ≤ m ∧ m ≤ 8388608) (hn : n ≤ 1048576) (w : World) (hown : Own w g 106 2 (.slice (some ⟨g, 0, none⟩) n n) n xs) :
    Calls Tryz.prog 15 #[.agg (ofc g0 (.slice (some ⟨g, 0, none⟩) n n)), .int .i64 m] w fun e w' => e = .returned (.int .i64 (m + 2 * n)) ∧ ∃ W1, Below w.heap.size w W1 ∧ Only g W1 w' := by
  go_enter Tryz.func15, Tryz.ntmps15
  go_upto_region 1 with (refine wpList_box_as rfl rfl rfl ?_)
  have hA := Blk.new w (ofc g0 (.slice (some ⟨g, 0, none⟩) n n)) 42
  have hbel := below1 w (.cells (ofc g0 (.slice (some ⟨g, 0, none⟩) n n)) 42)
  have hown := hown.alloc (.cells (ofc g0 (.slice (some ⟨g, 0, none⟩) n n)) 42)
  generalize w.alloc (.cells (ofc g0 (.slice (some ⟨g, 0, none⟩) n n)) 42) = W at *
  have cS := (hA.cell 195).trans (ofc_last _ _)
  have hmk := markW_any n g xs m hm hn W hown
  go_wp2_with (go_at_call 44; refine hmk.mono ?_; rintro e w1 ⟨rfl, hon⟩)
  go_ret
  exact ⟨rfl, W, hbel, hon⟩
set_option maxRecDepth 100000 in
set_option maxHeartbeats 400000 in
theorem markPm_any (n g : Nat) (P : Nat → Pm) (v : Value) (m : Int) (hm : 0 ≤ m ∧ m ≤ 8388608) (hn : n ≤ 1048576) (w : World) (hv : Res w g v n P) :
    Calls Tryz.prog 16 #[v, .int .i64 m] w fun e w' => e = .returned (.int .i64 (m + 3 * n)) ∧ Res w' g v n (markP m) ∧ Only g w w' := by
  rcases hv with ⟨rfl, a, cap, rfl, hc⟩ | hown
  · go_enter Tryz.func16, Tryz.ntmps16
    go_wp2_with fail
    go_loop [1, 5] (fun q i => q = .int .i64 m ∧ i = .int .i64 0) (fun _ _ => 0)
    case atStart => exact ⟨rfl, rfl⟩
    case round =>
      obtain ⟨rfl, rfl⟩ := hrel
      go_wp2_with fail
      go_ret
      exact ⟨by simp, .inl ⟨rfl, a, cap, rfl, hc⟩, Only.refl _ _⟩
  · obtain ⟨cap, rfl, hc1, hc2⟩ := hown.form
    unfold maxLen at hc2
    go_enter Tryz.func16, Tryz.ntmps16
    go_wp2_with fail
    go_loopw [1, 5] (fun q i wr => ∃ k : Nat, k ≤ n ∧ i = .int .i64 k ∧ q = .int .i64 (m + 3 * k) ∧ Own wr g 64 3 (.slice (some ⟨g, 0, none⟩) n cap) n (pls n (marked m P k)) ∧ Only g w wr) (fun _ i _ => n - (intOf i).toNat)
    case atStart => exact ⟨0, by omega, rfl, by simp, by rw [show marked m P 0 = P from funext fun i => by simp [marked]]; exact hown, Only.refl _ _⟩
    case round =>
      clear hown
      obtain ⟨k, hk, rfl, rfl, hown, honly⟩ := hrel
      by_cases hlt : k < n
      · have f0 := hown.free (k * 3)
        have f1 := fun u => (hown.setCell (k * 3) u).free (k * 3 + 1)
        have f2 := fun u u' => ((hown.setCell (k * 3) u).setCell (k * 3 + 1) u').free (k * 3 + 2)
        have bk : (0 : Int) ≤ k := by omega
        have bl : (k : Int) < n := by omega
        have hmk : marked m P k k = P k := by simp [marked]
        have e0 : wr.cell? ⟨g, k * 3, none⟩ = some (.int .i8 (P k).own) := by rw [hown.cell _ (by omega), show k * 3 = k * 3 + 0 from rfl, pls_get n _ k 0 hlt (by omega), hmk, Pm.get0]
        have e1 : wr.cell? ⟨g, k * 3 + 1, none⟩ = some (.int .i8 (P k).cel) := by rw [hown.cell _ (by omega), pls_get n _ k 1 hlt (by omega), hmk, Pm.get1]
        have e2 : wr.cell? ⟨g, k * 3 + 2, none⟩ = some (.int .i16 (P k).rat) := by rw [hown.cell _ (by omega), pls_get n _ k 2 hlt (by omega), hmk, Pm.get2]
        go_wp2_with fail
        go_roundw
        case rel =>
          refine ⟨k + 1, by omega, by go_num, by go_num, ?_, ((honly.setCell _ _).setCell _ _).setCell _ _⟩
          have hset := ((hown.setCell (k * 3) (.int .i8 (IntKind.i8.wrap (m + 3 * k)))).setCell (k * 3 + 1) (.int .i8 (IntKind.i8.wrap (m + 3 * k + 1)))).setCell (k * 3 + 2) (.int .i16 (IntKind.i16.wrap (m + 3 * k + 1 + 1)))
          rw [show k * 3 = k * 3 + 0 from rfl, pls_set n _ k 0 _ ⟨IntKind.i8.wrap (m + 3 * k), (P k).cel, (P k).rat⟩ hlt (by omega) (by rw [hmk, Pm.cells_eq, Pm.cells_eq]; rfl),
            pls_set n _ k 1 _ ⟨IntKind.i8.wrap (m + 3 * k), IntKind.i8.wrap (m + 3 * k + 1), (P k).rat⟩ hlt (by omega) (by rw [updP_same, Pm.cells_eq, Pm.cells_eq]; rfl),
            pls_set n _ k 2 _ (markP m k) hlt (by omega) (by rw [updP_same, Pm.cells_eq, Pm.cells_eq]; simp [markP]; congr 1; omega)] at hset
          rw [pls_congr (P' := marked m P (k + 1)) (fun i hi => by
            by_cases hik : i = k
            · subst hik; rw [updP_same]; simp [marked]
            · rw [updP_other _ _ _ _ hik, updP_other _ _ _ _ hik, updP_other _ _ _ _ hik]; simp only [marked, show i < k + 1 ↔ i < k by omega])] at hset
          exact hset
        case measure => simp [intOf]; omega
      · obtain rfl : k = n := by omega
        go_wp2_with fail
        go_ret
        exact ⟨rfl, .inr (by rw [pls_congr (P' := marked m P k) (fun i hi => by simp [marked, hi])]; exact hown), honly⟩
theorem Blk.only {w w' : World} {b g : Nat} {C : Array Value} {t : TypeId} (h : Blk w b C t) (ho : Only g w w') (hb : b ≠ g) : Blk w' b C t := (ho.block b hb).trans h
theorem Own.only {w w' : World} {b g : Nat} {e : TypeId} {s : Nat} {v : Value} {n : Nat} {xs : List Value} (h : Own w b e s v n xs) (ho : Only g w w') (hb : b ≠ g) : Own w' b e s v n xs := h.move (ho.block b hb)
theorem lvN_le {g : Gr} {n m : Nat} {P : Nat → Wt} {Q : Nat → Pm} : lvN g n P m Q ≤ n := by unfold lvN; split <;> omega
end Go.Proofs.YtokdpmpgonafmaaGreat
