/- Marks that a law writes into lists and offices, and lists of floats compared: the walks through the law's helpers. -/
import Derived.Test.YtnfoemgiebplmaaLevels
import Derived.Test.YtnfoemgiebplmaaSize
import Derived.Test.YtnfoemgiebplmaaLawOffice
namespace Go.Proofs.Ytnfoemgiebplmaa
open Go.ChangeShapes Go.WideShapes Go.ChangeAt Go.RowKit
set_option linter.unusedVariables false
set_option linter.unusedSimpArgs false
attribute [local irreducible] Calls

theorem settT_valid {within : Nat} : ∀ (l : Nat) (n : Int) (G : Gr), (settT within l n G).2.2 = 0 → validG (settT within l n G).1 = true
  | 0, _, _, h => by simp [settT] at h
  | l + 1, n, G, h => by
    unfold settT at h ⊢
    cases hv : validG (sweepG G)
    · rw [hv] at h; simp at h
    · rw [hv] at h
      simp only [if_true] at h ⊢
      cases hf : fle (chg G (sweepG G)) within
      · rw [hf] at h
        simp only [if_false, Bool.false_eq_true] at h ⊢
        exact settT_valid l _ _ h
      · simp only [if_true]; exact hv
theorem withT_valid {Q : Nat → Pm} : ∀ (l i : Nat) (G : Gr), (withT Q l i G).2 = 0 → validG (withT Q l i G).1 = true
  | 0, _, G, h => settT_valid 1000 0 G h
  | l + 1, i, G, h => by
    unfold withT at h ⊢
    cases hv : validG (lessG G (Q i))
    · rw [hv] at h; simp at h
    · rw [hv] at h
      simp only [if_true] at h ⊢
      exact withT_valid l _ _ h
theorem plainW {G : Gr} (h : validG G = true) (k : Nat) (hk : k < 64) : isN .f32 (G.hea k) = false := fieldIs_num (fun _ => plain_num) (validG_parts h).2.2.2.2.1 k hk
theorem lv_num {g : Gr} {n m : Nat} {P : Nat → Wt} {Q : Nat → Pm} : ∀ i, i < lvN g n P m Q → isN .f32 (lvF (gwT g n P m Q).1 P i) = false := fun i hi => by
  unfold lvN at hi
  by_cases h : (gwT g n P m Q).2 = 0
  · rw [if_pos h] at hi
    obtain ⟨c, hc, hc64⟩ := (gwT_watch' h).1 i hi
    have hv : validG (gwT g n P m Q).1 = true := by
      unfold gwT at h ⊢
      cases hp : validP g n P m Q
      · rw [hp] at h; simp at h
      · rw [hp] at h
        simp only [if_true] at h ⊢
        exact withT_valid _ _ _ h
    unfold lvF
    exact plainW hv _ (by rw [hc]; omega)
  · rw [if_neg h] at hi; omega
theorem isN_int (n : Int) : isN .f32 (floatOfInt .f32 n) = false := by
  unfold floatOfInt FloatKind.nearest FloatKind.encode Ieee.Format.write
  exact isN_nearest _ _ _
theorem fls_setL (n : Nat) (f : Nat → Nat) (k b : Nat) (hk : k < n) : (fls n f).set k (.float .f32 b) = fls n (upd f k b) := by
  have := congrArg Array.toList (fls_set n f k b hk)
  simpa using this

set_option maxRecDepth 100000 in
set_option maxHeartbeats 400000 in
theorem eqF_same (n g1 g2 : Nat) (f : Nat → Nat) (v u : Value) (hn : n ≤ 1048576) (hf : ∀ i, i < n → isN .f32 (f i) = false) (w : World) (hv : Rs 23 w g1 v n (fls n f)) (hu : Rs 23 w g2 u n (fls n f)) :
    Calls Try.prog 36 #[v, u] w fun e w' => e = .returned (.bool true) ∧ ∃ q, w' = w.drewN q := by
  obtain ⟨a, c, rfl, hc1, hc2, hcell⟩ := hv.form
  obtain ⟨a', c', rfl, hc1', hc2', hcell'⟩ := hu.form
  have HC := Lib.hid hcell
  have HC' := Lib.hid hcell'
  have HN := Lib.hid hf
  clear hcell hcell' hf hv hu
  have bn : (n : Int) ≤ 1048576 := by omega
  have cv := fun (b : Nat) (h : isN .f32 b = false) (w : World) => run_widen_num (P := Try.prog) 23 73 b Try.underlying23 Try.underlying73 h w
  obtain ⟨N, hN⟩ : ∃ N, N = n := ⟨_, rfl⟩
  subst hN
  go_enter Try.func36, Try.ntmps36
  go_upto_region 4 with fail
  go_loopw [5] (fun i wr => ∃ k q : Nat, k ≤ N ∧ i = .int .i64 k ∧ wr = w.drewN q) (fun i _ => N - (intOf i).toNat)
  case atStart => exact ⟨0, 0, by omega, rfl, rfl⟩
  case round =>
    obtain ⟨k, q, hk, rfl, rfl⟩ := hrel
    by_cases hlt : k < N
    · obtain ⟨rfl, lg, hcell⟩ := HC.out.resolve_left (by omega)
      obtain ⟨rfl, lg', hcell'⟩ := HC'.out.resolve_left (by omega)
      have m1 : (w.drewN q).cell? ⟨g1, k, none⟩ = some (.float .f32 (f k)) := (hcell k hlt).trans (fls_get _ _ _ hlt)
      have m2 : (w.drewN q).cell? ⟨g2, k, none⟩ = some (.float .f32 (f k)) := (hcell' k hlt).trans (fls_get _ _ _ hlt)
      have cw := cv (f k) (HN.out k hlt)
      have bj : (0 : Int) ≤ k := by omega
      have bm : (k : Int) < N := by omega
      clear hcell hcell' cv
      go_upto_region 6 with fail
      generalize hfk : f k = x at *
      generalize hW1 : w.drewN q = W1 at *
      refine wp_loose (C := fun w' => ∃ n, w' = W1.drewN n) (R := fun _ _ => True) (F := fun _ dd vv => match dd, vv with
        | 17, vv => vv = .slice (some ⟨g1, 0, none⟩) N c
        | 18, vv => vv = .int .i64 k
        | 19, vv => vv = .pointer (some ⟨g1, k, none⟩)
        | 20, vv => vv = .float .f32 x
        | 21, vv => vv = .float .f64 (widen x)
        | 22, vv => vv = .slice (some ⟨g2, 0, none⟩) N c'
        | 23, vv => vv = .int .i64 k
        | 24, vv => vv = .pointer (some ⟨g2, k, none⟩)
        | 25, vv => vv = .float .f32 x
        | 26, vv => vv = .float .f64 (widen x)
        | 27, vv => vv = .bool true
        | 28, vv => vv = .bool false
        | _, _ => True) (fun _ _ _ _ _ h => h) (by kernel_rfl) (by kernel_rfl) (by kernel_rfl) ⟨1, rfl⟩ ?_ ?_
      · refine steps_cons (step_go rfl fun ev w1 hC kn => ?_) ?_
        · have e1 : ev (.tmp 0) = .slice (some ⟨g1, 0, none⟩) N c := kn.out 0 rfl rfl rfl
          exact good_of (v := .slice (some ⟨g1, 0, none⟩) N c) rfl (by simp [execOp, e1, kn.con, go_sem]) hC trivial rfl
        refine steps_cons (step_go rfl fun ev w1 hC kn => ?_) ?_
        · have e1 : ev (.tmp 5) = .int .i64 k := kn.out 5 rfl rfl rfl
          exact good_of (v := .int .i64 k) rfl (by simp [execOp, e1, kn.con, go_sem]) hC trivial rfl
        refine steps_cons (step_go rfl fun ev w1 hC kn => ?_) ?_
        · have e1 : ev (.tmp 17) = .slice (some ⟨g1, 0, none⟩) N c := kn.inn 17 rfl rfl
          have e2 : ev (.tmp 18) = .int .i64 k := kn.inn 18 rfl rfl
          exact good_of (v := .pointer (some ⟨g1, k, none⟩)) rfl (by simp [execOp, e1, e2, kn.con, go_sem, bj, bm]) hC trivial rfl
        refine steps_cons (step_go rfl fun ev w1 hC kn => ?_) ?_
        · have e1 : ev (.tmp 19) = .pointer (some ⟨g1, k, none⟩) := kn.inn 19 rfl rfl
          obtain ⟨nn, rfl⟩ := hC
          exact good_of (v := .float .f32 x) rfl (by simp [execOp, e1, go_sem, m1]) ⟨nn, rfl⟩ trivial rfl
        refine steps_cons (step_go rfl fun ev w1 hC kn => ?_) ?_
        · have e1 : ev (.tmp 20) = .float .f32 x := kn.inn 20 rfl rfl
          exact good_of (v := .float .f64 (widen x)) rfl (by simp [execOp, e1, go_sem, cw]) hC trivial rfl
        refine steps_cons (step_go rfl fun ev w1 hC kn => ?_) ?_
        · have e1 : ev (.tmp 1) = .slice (some ⟨g2, 0, none⟩) N c' := kn.out 1 rfl rfl rfl
          exact good_of (v := .slice (some ⟨g2, 0, none⟩) N c') rfl (by simp [execOp, e1, kn.con, go_sem]) hC trivial rfl
        refine steps_cons (step_go rfl fun ev w1 hC kn => ?_) ?_
        · have e1 : ev (.tmp 5) = .int .i64 k := kn.out 5 rfl rfl rfl
          exact good_of (v := .int .i64 k) rfl (by simp [execOp, e1, kn.con, go_sem]) hC trivial rfl
        refine steps_cons (step_go rfl fun ev w1 hC kn => ?_) ?_
        · have e1 : ev (.tmp 22) = .slice (some ⟨g2, 0, none⟩) N c' := kn.inn 22 rfl rfl
          have e2 : ev (.tmp 23) = .int .i64 k := kn.inn 23 rfl rfl
          exact good_of (v := .pointer (some ⟨g2, k, none⟩)) rfl (by simp [execOp, e1, e2, kn.con, go_sem, bj, bm]) hC trivial rfl
        refine steps_cons (step_go rfl fun ev w1 hC kn => ?_) ?_
        · have e1 : ev (.tmp 24) = .pointer (some ⟨g2, k, none⟩) := kn.inn 24 rfl rfl
          obtain ⟨nn, rfl⟩ := hC
          exact good_of (v := .float .f32 x) rfl (by simp [execOp, e1, go_sem, m2]) ⟨nn, rfl⟩ trivial rfl
        refine steps_cons (step_go rfl fun ev w1 hC kn => ?_) ?_
        · have e1 : ev (.tmp 25) = .float .f32 x := kn.inn 25 rfl rfl
          exact good_of (v := .float .f64 (widen x)) rfl (by simp [execOp, e1, go_sem, cw]) hC trivial rfl
        refine steps_cons (step_go rfl fun ev w1 hC kn => ?_) ?_
        · have e1 : ev (.tmp 21) = .float .f64 (widen x) := kn.inn 21 rfl rfl
          have e2 : ev (.tmp 26) = .float .f64 (widen x) := kn.inn 26 rfl rfl
          refine good_call (f := 43) (args := #[.float .f64 (widen x), .float .f64 (widen x)]) rfl (by simp [execOp, e1, e2, kn.fn, kn.con, go_sem]) ((sameFloat_alike _ _ rfl w1).mono fun e w2 ⟨he, hw⟩ => ⟨_, he, by rw [hw]; exact hC, trivial, rfl⟩)
        refine steps_cons (step_go rfl fun ev w1 hC kn => ?_) ?_
        · have e1 : ev (.tmp 27) = .bool true := kn.inn 27 rfl rfl
          exact good_of (v := .bool false) rfl (by simp [execOp, e1, go_sem]) hC trivial rfl
        exact steps_nil
      rintro xv w1 hxv hC
      have y28 : xv 28 = .bool false := hxv 28 (by decide)
      obtain ⟨n, rfl⟩ := hC
      simp only [fill, dstsOf, List.filterMap_cons, List.filterMap_nil, List.foldl_cons, List.foldl_nil, List.set_cons_succ, List.set_cons_zero, y28]
      clear hxv y28
      go_wp2_with fail
      go_roundw
      case rel => exact ⟨k + 1, q + n, by omega, by go_num, by rw [← hW1]; simp⟩
      case measure => simp [intOf]; omega
    · obtain rfl : k = N := by omega
      go_wp2_with fail
      go_ret
      exact ⟨rfl, q, rfl⟩

set_option maxRecDepth 100000 in
set_option maxHeartbeats 400000 in
theorem markF_any (n g : Nat) (f : Nat → Nat) (v : Value) (m : Int) (hm : 0 ≤ m ∧ m ≤ 8388608) (hn : n ≤ 1048576) (w : World) (hv : Rs 23 w g v n (fls n f)) :
    Calls Try.prog 39 #[v, .int .i64 m] w fun e w' => e = .returned (.int .i64 (m + n)) ∧ Rs 23 w' g v n (fls n (fun i => floatOfInt .f32 (m + i))) ∧ Only g w w' := by
  have cv := fun (n : Int) (w : World) => run_convert_int_float (P := Try.prog) w 3 23 .i64 .f32 n (by kernel_rfl) Try.underlying23
  rcases hv with ⟨rfl, a, cap, rfl, hc⟩ | hown
  · go_enter Try.func39, Try.ntmps39
    go_wp2_with fail
    go_loop [1, 5] (fun q i => q = .int .i64 m ∧ i = .int .i64 0) (fun _ _ => 0)
    case atStart => exact ⟨rfl, rfl⟩
    case round =>
      obtain ⟨rfl, rfl⟩ := hrel
      go_wp2_with fail
      go_ret
      exact ⟨by simp, .inl ⟨rfl, a, cap, rfl, hc⟩, Only.refl _ _⟩
  · obtain ⟨cap, rfl, hc1, hc2⟩ := hown.form
    unfold maxLen at hc2
    go_enter Try.func39, Try.ntmps39
    go_wp2_with fail
    go_loopw [1, 5] (fun q i wr => ∃ (k : Nat), k ≤ n ∧ i = .int .i64 k ∧ q = .int .i64 (m + k) ∧ Own wr g 23 1 (.slice (some ⟨g, 0, none⟩) n cap) n (fls n (fun i => if i < k then floatOfInt .f32 (m + i) else f i)) ∧ Only g w wr) (fun _ i _ => n - (intOf i).toNat)
    case atStart => exact ⟨0, by omega, rfl, by simp, by rw [fls_congr (g := f) (fun i hi => by simp)]; exact hown, Only.refl _ _⟩
    case round =>
      clear hown
      obtain ⟨k, hk, rfl, rfl, hown, honly⟩ := hrel
      by_cases hlt : k < n
      · have f0 := hown.free k
        have bk : (0 : Int) ≤ k := by omega
        have bl : (k : Int) < n := by omega
        have e0 : wr.cell? ⟨g, k, none⟩ = some (.float .f32 (f k)) := by rw [hown.cell _ (by omega), fls_get _ _ _ hlt]; simp
        go_wp2_with fail
        go_roundw
        case rel =>
          refine ⟨k + 1, by omega, by go_num, by go_num, ?_, honly.setCell _ _⟩
          have hset := hown.setCell k (.float .f32 (floatOfInt .f32 (m + k)))
          rw [fls_setL _ _ _ _ hlt] at hset
          rw [fls_congr (g := fun i => if i < k + 1 then floatOfInt .f32 (m + i) else f i) (fun i hi => by
            unfold Go.Proofs.Ytnfoemgiebplmaa.upd
            by_cases hik : i = k
            · subst hik; simp
            · simp only [hik, if_false, show i < k + 1 ↔ i < k by omega])] at hset
          exact hset
        case measure => simp [intOf]; omega
      · obtain rfl : k = n := by omega
        go_wp2_with fail
        go_ret
        exact ⟨rfl, .inr (by rw [fls_congr (g := fun i => if i < k then floatOfInt .f32 (m + i) else f i) (fun i hi => by simp [hi])]; exact hown), honly⟩

set_option maxRecDepth 100000 in
set_option maxHeartbeats 400000 in
theorem heldF_any (n g : Nat) (v : Value) (m : Int) (hm : 0 ≤ m ∧ m ≤ 8388608) (hn : n ≤ 1048576) (w : World) (hv : Rs 23 w g v n (fls n (fun i => floatOfInt .f32 (m + i)))) :
    Calls Try.prog 40 #[v, .int .i64 m] w fun e w' => e = .returned (.int .i64 (m + n)) ∧ w' = w := by
  have cv := fun (n : Int) (w : World) => run_convert_int_float (P := Try.prog) w 3 23 .i64 .f32 n (by kernel_rfl) Try.underlying23
  obtain ⟨a, cap, rfl, hc1, hc2, hcell⟩ := hv.form
  unfold maxLen at hc2
  have HC := Lib.hid hcell
  clear hcell hv
  go_enter Try.func40, Try.ntmps40
  go_wp2_with fail
  go_loop [1, 5] (fun q i => ∃ k : Nat, k ≤ n ∧ i = .int .i64 k ∧ q = .int .i64 (m + k)) (fun _ i => n - (intOf i).toNat)
  case atStart => exact ⟨0, by omega, rfl, by simp⟩
  case round =>
    obtain ⟨k, hk, rfl, rfl⟩ := hrel
    by_cases hlt : k < n
    · obtain ⟨rfl, lg, hcell⟩ := HC.out.resolve_left (by omega)
      have e0 : w.cell? ⟨g, k, none⟩ = some (.float .f32 (floatOfInt .f32 (m + k))) := (hcell k hlt).trans (fls_get _ _ _ hlt)
      clear hcell
      have bk : (0 : Int) ≤ k := by omega
      have bl : (k : Int) < n := by omega
      have ho := order_self (isN_int (m + k))
      have ho2 : (FloatKind.f32.format.order (floatOfInt .f32 (m + k)) (floatOfInt .f32 (m + k)) != some .eq) = false := by rw [ho]; rfl
      go_wp2_with fail
      go_round
      case rel => exact ⟨k + 1, by omega, by go_num, by go_num⟩
      case measure => simp [intOf]; omega
    · obtain rfl : k = n := by omega
      go_wp2_with fail
      go_ret
      exact ⟨rfl, rfl⟩

set_option maxRecDepth 100000 in
set_option maxHeartbeats 400000 in
theorem markW_any (n g : Nat) (xs : List Value) (m : Int) (hm : 0 ≤ m ∧ m ≤ 8388608) (hn : n ≤ 1048576) (w : World) (hown : Own w g 125 2 (.slice (some ⟨g, 0, none⟩) n n) n xs) :
    Calls Try.prog 89 #[.slice (some ⟨g, 0, none⟩) n n, .int .i64 m] w fun e w' => e = .returned (.int .i64 (m + 2 * n)) ∧ Only g w w' := by
  have cv := fun (n : Int) (w : World) => run_convert_int_float (P := Try.prog) w 3 23 .i64 .f32 n (by kernel_rfl) Try.underlying23
  go_enter Try.func89, Try.ntmps89
  go_wp2_with fail
  go_loopw [1, 5] (fun q i wr => ∃ (k : Nat) (ys : List Value), k ≤ n ∧ i = .int .i64 k ∧ q = .int .i64 (m + 2 * k) ∧ Own wr g 125 2 (.slice (some ⟨g, 0, none⟩) n n) n ys ∧ Only g w wr) (fun _ i _ => n - (intOf i).toNat)
  case atStart => exact ⟨0, xs, by omega, rfl, by simp, hown, Only.refl _ _⟩
  case round =>
    clear hown
    obtain ⟨k, ys, hk, rfl, rfl, hown, honly⟩ := hrel
    by_cases hlt : k < n
    · have hl : ys.length = n * 2 := hown.1
      obtain ⟨u0, hu0⟩ : ∃ u, ys[k * 2]? = some u := ⟨_, List.getElem?_eq_getElem (by omega)⟩
      obtain ⟨u1, hu1⟩ : ∃ u, ys[k * 2 + 1]? = some u := ⟨_, List.getElem?_eq_getElem (by omega)⟩
      have f0 := hown.free (k * 2)
      have f1 := fun u => (hown.setCell (k * 2) u).free (k * 2 + 1)
      have bk : (0 : Int) ≤ k := by omega
      have bl : (k : Int) < n := by omega
      have e0 : wr.cell? ⟨g, k * 2, none⟩ = some u0 := (hown.cell _ (by omega)).trans hu0
      have e1 : wr.cell? ⟨g, k * 2 + 1, none⟩ = some u1 := (hown.cell _ (by omega)).trans hu1
      go_wp2_with fail
      go_roundw
      case rel => exact ⟨k + 1, _, by omega, by go_num, by go_num, (hown.setCell _ _).setCell _ _, (honly.setCell _ _).setCell _ _⟩
      case measure => simp [intOf]; omega
    · obtain rfl : k = n := by omega
      go_wp2_with fail
      go_ret
      exact ⟨rfl, honly⟩

set_option maxRecDepth 100000 in
set_option maxHeartbeats 400000 in
theorem markO_any (g0 : Gr) (n g : Nat) (xs : List Value) (m : Int) (hm : 0 ≤ m ∧ m ≤ 8388608) (hn : n ≤ 1048576) (w : World) (hown : Own w g 125 2 (.slice (some ⟨g, 0, none⟩) n n) n xs) :
    Calls Try.prog 37 #[.agg (ofc g0 (.slice (some ⟨g, 0, none⟩) n n)), .int .i64 m] w fun e w' => e = .returned (.int .i64 (m + 2 * n)) ∧ ∃ W1, Below w.heap.size w W1 ∧ Only g W1 w' := by
  go_enter Try.func37, Try.ntmps37
  go_upto_region 1 with (refine wpList_box_as rfl rfl rfl ?_)
  have hA := Blk.new w (ofc g0 (.slice (some ⟨g, 0, none⟩) n n)) 56
  have hbel := below1 w (.cells (ofc g0 (.slice (some ⟨g, 0, none⟩) n n)) 56)
  have hown := hown.alloc (.cells (ofc g0 (.slice (some ⟨g, 0, none⟩) n n)) 56)
  generalize w.alloc (.cells (ofc g0 (.slice (some ⟨g, 0, none⟩) n n)) 56) = W at *
  have cS := (hA.cell 195).trans (ofc_last _ _)
  have hmk := markW_any n g xs m hm hn W hown
  go_wp2_with (go_at_call 89; refine hmk.mono ?_; rintro e w1 ⟨rfl, hon⟩)
  go_ret
  exact ⟨rfl, W, hbel, hon⟩
set_option maxRecDepth 100000 in
set_option maxHeartbeats 400000 in
theorem markPm_any (n g : Nat) (P : Nat → Pm) (v : Value) (m : Int) (hm : 0 ≤ m ∧ m ≤ 8388608) (hn : n ≤ 1048576) (w : World) (hv : Res w g v n P) :
    Calls Try.prog 38 #[v, .int .i64 m] w fun e w' => e = .returned (.int .i64 (m + 3 * n)) ∧ Res w' g v n (markP m) ∧ Only g w w' := by
  rcases hv with ⟨rfl, a, cap, rfl, hc⟩ | hown
  · go_enter Try.func38, Try.ntmps38
    go_wp2_with fail
    go_loop [1, 5] (fun q i => q = .int .i64 m ∧ i = .int .i64 0) (fun _ _ => 0)
    case atStart => exact ⟨rfl, rfl⟩
    case round =>
      obtain ⟨rfl, rfl⟩ := hrel
      go_wp2_with fail
      go_ret
      exact ⟨by simp, .inl ⟨rfl, a, cap, rfl, hc⟩, Only.refl _ _⟩
  · obtain ⟨cap, rfl, hc1, hc2⟩ := hown.form
    unfold maxLen at hc2
    go_enter Try.func38, Try.ntmps38
    go_wp2_with fail
    go_loopw [1, 5] (fun q i wr => ∃ k : Nat, k ≤ n ∧ i = .int .i64 k ∧ q = .int .i64 (m + 3 * k) ∧ Own wr g 117 3 (.slice (some ⟨g, 0, none⟩) n cap) n (pls n (marked m P k)) ∧ Only g w wr) (fun _ i _ => n - (intOf i).toNat)
    case atStart => exact ⟨0, by omega, rfl, by simp, by rw [show marked m P 0 = P from funext fun i => by simp [marked]]; exact hown, Only.refl _ _⟩
    case round =>
      clear hown
      obtain ⟨k, hk, rfl, rfl, hown, honly⟩ := hrel
      by_cases hlt : k < n
      · have f0 := hown.free (k * 3)
        have f1 := fun u => (hown.setCell (k * 3) u).free (k * 3 + 1)
        have f2 := fun u u' => ((hown.setCell (k * 3) u).setCell (k * 3 + 1) u').free (k * 3 + 2)
        have bk : (0 : Int) ≤ k := by omega
        have bl : (k : Int) < n := by omega
        have hmk : marked m P k k = P k := by simp [marked]
        have e0 : wr.cell? ⟨g, k * 3, none⟩ = some (.int .i8 (P k).own) := by rw [hown.cell _ (by omega), show k * 3 = k * 3 + 0 from rfl, pls_get n _ k 0 hlt (by omega), hmk, Pm.get0]
        have e1 : wr.cell? ⟨g, k * 3 + 1, none⟩ = some (.int .i8 (P k).cel) := by rw [hown.cell _ (by omega), pls_get n _ k 1 hlt (by omega), hmk, Pm.get1]
        have e2 : wr.cell? ⟨g, k * 3 + 2, none⟩ = some (.int .i16 (P k).rat) := by rw [hown.cell _ (by omega), pls_get n _ k 2 hlt (by omega), hmk, Pm.get2]
        go_wp2_with fail
        go_roundw
        case rel =>
          refine ⟨k + 1, by omega, by go_num, by go_num, ?_, ((honly.setCell _ _).setCell _ _).setCell _ _⟩
          have hset := ((hown.setCell (k * 3) (.int .i8 (IntKind.i8.wrap (m + 3 * k)))).setCell (k * 3 + 1) (.int .i8 (IntKind.i8.wrap (m + 3 * k + 1)))).setCell (k * 3 + 2) (.int .i16 (IntKind.i16.wrap (m + 3 * k + 1 + 1)))
          rw [show k * 3 = k * 3 + 0 from rfl, pls_set n _ k 0 _ ⟨IntKind.i8.wrap (m + 3 * k), (P k).cel, (P k).rat⟩ hlt (by omega) (by rw [hmk, Pm.cells_eq, Pm.cells_eq]; rfl),
            pls_set n _ k 1 _ ⟨IntKind.i8.wrap (m + 3 * k), IntKind.i8.wrap (m + 3 * k + 1), (P k).rat⟩ hlt (by omega) (by rw [updP_same, Pm.cells_eq, Pm.cells_eq]; rfl),
            pls_set n _ k 2 _ (markP m k) hlt (by omega) (by rw [updP_same, Pm.cells_eq, Pm.cells_eq]; simp [markP]; congr 1; omega)] at hset
          rw [pls_congr (P' := marked m P (k + 1)) (fun i hi => by
            by_cases hik : i = k
            · subst hik; rw [updP_same]; simp [marked]
            · rw [updP_other _ _ _ _ hik, updP_other _ _ _ _ hik, updP_other _ _ _ _ hik]; simp only [marked, show i < k + 1 ↔ i < k by omega])] at hset
          exact hset
        case measure => simp [intOf]; omega
      · obtain rfl : k = n := by omega
        go_wp2_with fail
        go_ret
        exact ⟨rfl, .inr (by rw [pls_congr (P' := marked m P k) (fun i hi => by simp [marked, hi])]; exact hown), honly⟩
theorem Blk.only {w w' : World} {b g : Nat} {C : Array Value} {t : TypeId} (h : Blk w b C t) (ho : Only g w w') (hb : b ≠ g) : Blk w' b C t := (ho.block b hb).trans h
theorem Own.only {w w' : World} {b g : Nat} {e : TypeId} {s : Nat} {v : Value} {n : Nat} {xs : List Value} (h : Own w b e s v n xs) (ho : Only g w w') (hb : b ≠ g) : Own w' b e s v n xs := h.move (ho.block b hb)
theorem lvN_le {g : Gr} {n m : Nat} {P : Nat → Wt} {Q : Nat → Pm} : lvN g n P m Q ≤ n := by unfold lvN; split <;> omega
end Go.Proofs.Ytnfoemgiebplmaa
