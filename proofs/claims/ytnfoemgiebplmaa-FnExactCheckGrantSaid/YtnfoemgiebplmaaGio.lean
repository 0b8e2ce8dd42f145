/- GrantInOrder, in the program and in the reference; lists of numbers compared and marked. -/
import Derived.Test.YtnfoemgiebplmaaGrant
namespace Go.Proofs.Ytnfoemgiebplmaa
open Go.ChangeShapes Go.WideShapes Go.ChangeAt Go.RowKit
set_option linter.unusedVariables false
set_option linter.unusedSimpArgs false
attribute [local irreducible] Calls

def gioL (g : Gr) (n : Nat) (P : Nat → Wt) (m : Nat) (Q : Nat → Pm) : List Nat := if validP g n P m Q then grantTo (grK g n P Q) m else []
def gioN (g : Gr) (n : Nat) (P : Nat → Wt) (m : Nat) (Q : Nat → Pm) : Nat := (gioL g n P m Q).length
def gioT (g : Gr) (n : Nat) (P : Nat → Wt) (m : Nat) (Q : Nat → Pm) : Unit × Int := ((), if validP g n P m Q then 0 else 1)
theorem gioN_eq (g : Gr) (n : Nat) (P : Nat → Wt) (m : Nat) (Q : Nat → Pm) : (gioL g n P m Q).length = gioN g n P m Q := rfl
theorem gioN_le {g : Gr} {n m : Nat} {P : Nat → Wt} {Q : Nat → Pm} : gioN g n P m Q ≤ 1048576 := by
  unfold gioN gioL
  cases hv : validP g n P m Q
  · simp
  · simp only [if_true]
    have := (grantTo_lt (grK g n P Q) m).2
    have := (validP_use hv).2.2.2.1
    omega

/-- n values. -/
def vls (n : Nat) (f : Nat → Value) : List Value := (List.range n).map f
theorem vls_get (n : Nat) (f : Nat → Value) (i : Nat) (h : i < n) : (vls n f)[i]? = some (f i) := by unfold vls; simp [h]
theorem vls_set (n : Nat) (f : Nat → Value) (k : Nat) (u : Value) : (vls n f).set k u = vls n (fun i => if i = k then u else f i) := by
  apply List.ext_getElem?
  intro i
  unfold vls
  rw [List.getElem?_set]
  by_cases hi : i < n
  · by_cases hk : k = i
    · subst hk; simp [hi]
    · simp [hi, hk, Ne.symm hk]
  · by_cases hk : k = i
    · subst hk; simp [hi]
    · simp [hi, hk]
theorem vls_congr {n : Nat} {f f' : Nat → Value} (h : ∀ i, i < n → f i = f' i) : vls n f = vls n f' := by
  unfold vls; exact List.map_congr_left fun i hi => h i (List.mem_range.1 hi)
theorem vls_of {n : Nat} {xs : List Value} (h : xs.length = n) : xs = vls n (fun i => xs.getD i undef) := by
  apply List.ext_getElem?
  intro i
  unfold vls
  by_cases hi : i < n
  · simp [hi, List.getD_eq_getElem?_getD, List.getElem?_eq_getElem (show i < xs.length by omega)]
  · simp [hi]; omega

set_option maxRecDepth 100000 in
set_option maxHeartbeats 400000 in
theorem eqI_same (n g1 g2 : Nat) (L : List Nat) (v u : Value) (hn : n ≤ 1048576) (hl : L.length = n) (w : World) (hv : Rs 2 w g1 v n (ils L)) (hu : Rs 2 w g2 u n (ils L)) :
    Calls Try.prog 51 #[v, u] w fun e w' => e = .returned (.bool true) ∧ ∃ q, w' = w.drewN q := by
  obtain ⟨a, c, rfl, hc1, hc2, hcell⟩ := hv.form
  obtain ⟨a', c', rfl, hc1', hc2', hcell'⟩ := hu.form
  have HC := Lib.hid hcell
  have HC' := Lib.hid hcell'
  clear hcell hcell' hv hu
  have bn : (n : Int) ≤ 1048576 := by omega
  obtain ⟨N, hN⟩ : ∃ N, N = n := ⟨_, rfl⟩
  subst hN
  go_enter Try.func51, Try.ntmps51
  go_upto_region 4 with fail
  go_loopw [5] (fun i wr => ∃ k q : Nat, k ≤ N ∧ i = .int .i64 k ∧ wr = w.drewN q) (fun i _ => N - (intOf i).toNat)
  case atStart => exact ⟨0, 0, by omega, rfl, rfl⟩
  case round =>
    obtain ⟨k, q, hk, rfl, rfl⟩ := hrel
    by_cases hlt : k < N
    · obtain ⟨rfl, lg, hcell⟩ := HC.out.resolve_left (by omega)
      obtain ⟨rfl, lg', hcell'⟩ := HC'.out.resolve_left (by omega)
      obtain ⟨x, hx⟩ : ∃ x, L[k]? = some x := ⟨_, List.getElem?_eq_getElem (by omega)⟩
      have m1 : (w.drewN q).cell? ⟨g1, k, none⟩ = some (.int .i64 x) := (hcell k hlt).trans (ils_get _ _ _ hx)
      have m2 : (w.drewN q).cell? ⟨g2, k, none⟩ = some (.int .i64 x) := (hcell' k hlt).trans (ils_get _ _ _ hx)
      have bj : (0 : Int) ≤ k := by omega
      have bm : (k : Int) < N := by omega
      clear hcell hcell' hx
      go_upto_region 6 with fail
      generalize hW1 : w.drewN q = W1 at *
      refine wp_loose (C := fun w' => ∃ n, w' = W1.drewN n) (R := fun _ _ => True) (F := fun _ dd vv => match dd, vv with
        | 17, vv => vv = .slice (some ⟨g1, 0, none⟩) N c
        | 18, vv => vv = .int .i64 k
        | 19, vv => vv = .pointer (some ⟨g1, k, none⟩)
        | 20, vv => vv = .int .i64 x
        | 21, vv => vv = .slice (some ⟨g2, 0, none⟩) N c'
        | 22, vv => vv = .int .i64 k
        | 23, vv => vv = .pointer (some ⟨g2, k, none⟩)
        | 24, vv => vv = .int .i64 x
        | 25, vv => vv = .bool false
        | _, _ => True) (fun _ _ _ _ _ h => h) (by kernel_rfl) (by kernel_rfl) (by kernel_rfl) ⟨1, rfl⟩ ?_ ?_
      · refine steps_cons (step_go rfl fun ev w1 hC kn => ?_) ?_
        · have e1 : ev (.tmp 0) = .slice (some ⟨g1, 0, none⟩) N c := kn.out 0 rfl rfl rfl
          exact good_of (v := .slice (some ⟨g1, 0, none⟩) N c) rfl (by simp [execOp, e1, kn.con, go_sem]) hC trivial rfl
        refine steps_cons (step_go rfl fun ev w1 hC kn => ?_) ?_
        · have e1 : ev (.tmp 5) = .int .i64 k := kn.out 5 rfl rfl rfl
          exact good_of (v := .int .i64 k) rfl (by simp [execOp, e1, kn.con, go_sem]) hC trivial rfl
        refine steps_cons (step_go rfl fun ev w1 hC kn => ?_) ?_
        · have e1 : ev (.tmp 17) = .slice (some ⟨g1, 0, none⟩) N c := kn.inn 17 rfl rfl
          have e2 : ev (.tmp 18) = .int .i64 k := kn.inn 18 rfl rfl
          exact good_of (v := .pointer (some ⟨g1, k, none⟩)) rfl (by simp [execOp, e1, e2, kn.con, go_sem, bj, bm]) hC trivial rfl
        refine steps_cons (step_go rfl fun ev w1 hC kn => ?_) ?_
        · have e1 : ev (.tmp 19) = .pointer (some ⟨g1, k, none⟩) := kn.inn 19 rfl rfl
          obtain ⟨nn, rfl⟩ := hC
          exact good_of (v := .int .i64 x) rfl (by simp [execOp, e1, go_sem, m1]) ⟨nn, rfl⟩ trivial rfl
        refine steps_cons (step_go rfl fun ev w1 hC kn => ?_) ?_
        · have e1 : ev (.tmp 1) = .slice (some ⟨g2, 0, none⟩) N c' := kn.out 1 rfl rfl rfl
          exact good_of (v := .slice (some ⟨g2, 0, none⟩) N c') rfl (by simp [execOp, e1, kn.con, go_sem]) hC trivial rfl
        refine steps_cons (step_go rfl fun ev w1 hC kn => ?_) ?_
        · have e1 : ev (.tmp 5) = .int .i64 k := kn.out 5 rfl rfl rfl
          exact good_of (v := .int .i64 k) rfl (by simp [execOp, e1, kn.con, go_sem]) hC trivial rfl
        refine steps_cons (step_go rfl fun ev w1 hC kn => ?_) ?_
        · have e1 : ev (.tmp 21) = .slice (some ⟨g2, 0, none⟩) N c' := kn.inn 21 rfl rfl
          have e2 : ev (.tmp 22) = .int .i64 k := kn.inn 22 rfl rfl
          exact good_of (v := .pointer (some ⟨g2, k, none⟩)) rfl (by simp [execOp, e1, e2, kn.con, go_sem, bj, bm]) hC trivial rfl
        refine steps_cons (step_go rfl fun ev w1 hC kn => ?_) ?_
        · have e1 : ev (.tmp 23) = .pointer (some ⟨g2, k, none⟩) := kn.inn 23 rfl rfl
          obtain ⟨nn, rfl⟩ := hC
          exact good_of (v := .int .i64 x) rfl (by simp [execOp, e1, go_sem, m2]) ⟨nn, rfl⟩ trivial rfl
        refine steps_cons (step_go rfl fun ev w1 hC kn => ?_) ?_
        · have e1 : ev (.tmp 20) = .int .i64 x := kn.inn 20 rfl rfl
          have e2 : ev (.tmp 24) = .int .i64 x := kn.inn 24 rfl rfl
          exact good_of (v := .bool false) rfl (by simp [execOp, e1, e2, kn.con, go_sem]) hC trivial rfl
        exact steps_nil
      rintro xv w1 hxv hC
      have y25 : xv 25 = .bool false := hxv 25 (by decide)
      obtain ⟨n, rfl⟩ := hC
      simp only [fill, dstsOf, List.filterMap_cons, List.filterMap_nil, List.foldl_cons, List.foldl_nil, List.set_cons_succ, List.set_cons_zero, y25]
      clear hxv y25
      go_wp2_with fail
      go_roundw
      case rel => exact ⟨k + 1, q + n, by omega, by go_num, by rw [← hW1]; simp⟩
      case measure => simp [intOf]; omega
    · obtain rfl : k = N := by omega
      go_wp2_with fail
      go_ret
      exact ⟨rfl, q, rfl⟩

set_option maxRecDepth 100000 in
set_option maxHeartbeats 400000 in
theorem markI_any (n g : Nat) (L : List Nat) (v : Value) (m : Int) (hm : 0 ≤ m ∧ m ≤ 8388608) (hn : n ≤ 1048576) (w : World) (hv : Rs 2 w g v n (ils L)) :
    Calls Try.prog 54 #[v, .int .i64 m] w fun e w' => e = .returned (.int .i64 (m + n)) ∧ Rs 2 w' g v n (vls n (fun i => .int .i64 (m + i))) ∧ Only g w w' := by
  rcases hv with ⟨rfl, a, cap, rfl, hc⟩ | hown
  · go_enter Try.func54, Try.ntmps54
    go_wp2_with fail
    go_loop [1, 5] (fun q i => q = .int .i64 m ∧ i = .int .i64 0) (fun _ _ => 0)
    case atStart => exact ⟨rfl, rfl⟩
    case round =>
      obtain ⟨rfl, rfl⟩ := hrel
      go_wp2_with fail
      go_ret
      exact ⟨by simp, .inl ⟨rfl, a, cap, rfl, hc⟩, Only.refl _ _⟩
  · obtain ⟨cap, rfl, hc1, hc2⟩ := hown.form
    unfold maxLen at hc2
    obtain ⟨f, hf⟩ : ∃ f : Nat → Value, ils L = vls n f := ⟨_, vls_of (by have := hown.1; omega)⟩
    rw [hf] at hown
    go_enter Try.func54, Try.ntmps54
    go_wp2_with fail
    go_loopw [1, 5] (fun q i wr => ∃ (k : Nat), k ≤ n ∧ i = .int .i64 k ∧ q = .int .i64 (m + k) ∧ Own wr g 2 1 (.slice (some ⟨g, 0, none⟩) n cap) n (vls n (fun i => if i < k then .int .i64 (m + i) else f i)) ∧ Only g w wr) (fun _ i _ => n - (intOf i).toNat)
    case atStart => exact ⟨0, by omega, rfl, by simp, by rw [vls_congr (f' := f) (fun i hi => by simp)]; exact hown, Only.refl _ _⟩
    case round =>
      clear hown
      obtain ⟨k, hk, rfl, rfl, hown, honly⟩ := hrel
      by_cases hlt : k < n
      · have f0 := hown.free k
        have bk : (0 : Int) ≤ k := by omega
        have bl : (k : Int) < n := by omega
        have e0 : wr.cell? ⟨g, k, none⟩ = some (f k) := by rw [hown.cell _ (by omega), vls_get _ _ _ hlt]; simp
        go_wp2_with fail
        go_roundw
        case rel =>
          refine ⟨k + 1, by omega, by go_num, by go_num, ?_, honly.setCell _ _⟩
          have hset := hown.setCell k (.int .i64 (m + k))
          rw [vls_set, vls_congr (f' := fun i => if i < k + 1 then .int .i64 (m + i) else f i) (fun i hi => by
            by_cases hik : i = k
            · subst hik; simp
            · simp only [hik, if_false, show i < k + 1 ↔ i < k by omega])] at hset
          exact hset
        case measure => simp [intOf]; omega
      · obtain rfl : k = n := by omega
        go_wp2_with fail
        go_ret
        exact ⟨rfl, .inr (by rw [vls_congr (f' := fun i => if i < k then .int .i64 (m + i) else f i) (fun i hi => by simp [hi])]; exact hown), honly⟩

set_option maxRecDepth 100000 in
set_option maxHeartbeats 400000 in
theorem heldI_any (n g : Nat) (v : Value) (m : Int) (hm : 0 ≤ m ∧ m ≤ 8388608) (hn : n ≤ 1048576) (w : World) (hv : Rs 2 w g v n (vls n (fun i => .int .i64 (m + i)))) :
    Calls Try.prog 55 #[v, .int .i64 m] w fun e w' => e = .returned (.int .i64 (m + n)) ∧ w' = w := by
  obtain ⟨a, cap, rfl, hc1, hc2, hcell⟩ := hv.form
  unfold maxLen at hc2
  have HC := Lib.hid hcell
  clear hcell hv
  go_enter Try.func55, Try.ntmps55
  go_wp2_with fail
  go_loop [1, 5] (fun q i => ∃ k : Nat, k ≤ n ∧ i = .int .i64 k ∧ q = .int .i64 (m + k)) (fun _ i => n - (intOf i).toNat)
  case atStart => exact ⟨0, by omega, rfl, by simp⟩
  case round =>
    obtain ⟨k, hk, rfl, rfl⟩ := hrel
    by_cases hlt : k < n
    · obtain ⟨rfl, lg, hcell⟩ := HC.out.resolve_left (by omega)
      have e0 : w.cell? ⟨g, k, none⟩ = some (.int .i64 (m + k)) := (hcell k hlt).trans (vls_get _ _ _ hlt)
      clear hcell
      have bk : (0 : Int) ≤ k := by omega
      have bl : (k : Int) < n := by omega
      go_wp2_with fail
      go_round
      case rel => exact ⟨k + 1, by omega, by go_num, by go_num⟩
      case measure => simp [intOf]; omega
    · obtain rfl : k = n := by omega
      go_wp2_with fail
      go_ret
      exact ⟨rfl, rfl⟩

set_option maxRecDepth 100000 in
set_option maxHeartbeats 400000 in
theorem grantInOrder_any (g : Gr) (v u : Value) (n m : Nat) (P : Nat → Wt) (Q : Nat → Pm) (hg : g.ok) (hP : ∀ i, i < n → (P i).ok) (hQ : ∀ i, i < m → (Q i).ok) (w : World) (hv : WSl w v n P) (hu : PSl w u m Q) :
    Calls Try.prog 53 #[.agg (ofc g v), u] w fun e w' => ∃ x r, e = .returned (.tuple #[x, .int .i64 (gioT g n P m Q).2]) ∧ w.heap.size ≤ r ∧ Rs 2 w' r x (gioN g n P m Q) (ils (gioL g n P m Q)) ∧ Below w.heap.size w w' := by
  obtain ⟨V, hV⟩ : ∃ V, V = (gioT g n P m Q).2 := ⟨_, rfl⟩
  obtain ⟨LL, hLL⟩ : ∃ LL, LL = gioL g n P m Q := ⟨_, rfl⟩
  have hNN : gioN g n P m Q = LL.length := by rw [hLL]; rfl
  rw [hNN, ← hV, ← hLL]
  have HF := Lib.hid (And.intro hV hLL)
  clear hV hLL hNN
  obtain ⟨a, c, rfl, hform⟩ := id hu
  clear hform
  go_enter Try.func53, Try.ntmps53
  go_upto_region 1 with (refine wpList_box_as rfl rfl rfl ?_)
  have hA := Blk.new w (ofc g v) 56
  have hbel := below1 w (.cells (ofc g v) 56)
  generalize w.alloc (.cells (ofc g v) 56) = W at *
  have lA := hA.lt
  have hu := hu.below hbel
  have hv := hv.below hbel
  have hvp := validPermits_any g v _ n m P Q hg hP hQ W hv hu
  cases hvd : validP g n P m Q <;> rw [hvd] at hvp
  · have HZ : Hid (V = 1 ∧ LL = []) := Lib.hid (by rw [HF.out.1, HF.out.2]; unfold gioT gioL; rw [hvd]; exact ⟨rfl, rfl⟩)
    clear hvd
    go_wp2_with (first | (refine wpList_load_blk rfl rfl rfl row76 hA (ofc_size _ _) ?_) | (go_at_call 85; refine hvp.mono ?_; rintro e w2 ⟨rfl, hb2⟩))
    go_ret2
    obtain ⟨z1, z2⟩ := HZ.out
    subst z1
    subst z2
    exact ⟨_, w.heap.size, rfl, Nat.le_refl _, .inl ⟨rfl, _, _, rfl, by decide⟩, hbel.trans (hb2.mono hbel.size)⟩
  · obtain ⟨hvg, hvo, hci, hm6, _⟩ := validP_use hvd
    have hke := fun w' (h1 : Blk w' w.heap.size (ofc g v) 56) h2 (h3 : PSl w' (.slice a m c) m Q) => inOrder_any g w.heap.size v _ n m P Q hg hvg hci (validO_watch hvo) hm6 w' h1 h2 h3
    have HZ : Hid (V = 0 ∧ LL = grantTo (grK g n P Q) m) := Lib.hid (by rw [HF.out.1, HF.out.2]; unfold gioT gioL; rw [hvd]; exact ⟨rfl, rfl⟩)
    clear hvd HF
    generalize grantTo (grK g n P Q) m = L at *
    go_wp2_with (first | (refine wpList_load_blk rfl rfl rfl row76 hA (ofc_size _ _) ?_) | (go_at_call 85; refine hvp.mono ?_; rintro e w2 ⟨rfl, hb2⟩; have hA2 := hA.below hb2 lA) | (go_at_call 99; refine (hke _ hA2 (hv.below hb2) (hu.below hb2)).mono ?_; rintro e w3 ⟨x, r, rfl, hr, hx, hb3⟩))
    have hbel2 := hbel.trans (hb2.mono hbel.size)
    go_ret2
    obtain ⟨z1, z2⟩ := HZ.out
    subst z1
    subst z2
    exact ⟨_, r, rfl, by have := hbel2.size; omega, .inr hx, hbel2.trans (hb3.mono hbel2.size)⟩

set_option maxRecDepth 100000 in
set_option maxHeartbeats 400000 in
theorem specGrantInOrder_any (g : Gr) (v u : Value) (n m : Nat) (P : Nat → Wt) (Q : Nat → Pm) (hg : g.ok) (hP : ∀ i, i < n → (P i).ok) (hQ : ∀ i, i < m → (Q i).ok) (w : World) (hv : WSl w v n P) (hu : PSl w u m Q) :
    Calls Try.prog 52 #[.agg (ofc g v), u] w fun e w' => ∃ x r, e = .returned (.tuple #[x, .int .i64 (gioT g n P m Q).2]) ∧ w.heap.size ≤ r ∧ Rs 2 w' r x (gioN g n P m Q) (ils (gioL g n P m Q)) ∧ Below w.heap.size w w' := by
  obtain ⟨V, hV⟩ : ∃ V, V = (gioT g n P m Q).2 := ⟨_, rfl⟩
  obtain ⟨LL, hLL⟩ : ∃ LL, LL = gioL g n P m Q := ⟨_, rfl⟩
  have hNN : gioN g n P m Q = LL.length := by rw [hLL]; rfl
  rw [hNN, ← hV, ← hLL]
  have HF := Lib.hid (And.intro hV hLL)
  clear hV hLL hNN
  obtain ⟨a, c, rfl, hform⟩ := id hu
  clear hform
  go_enter Try.func52, Try.ntmps52
  go_upto_region 1 with (refine wpList_box_as rfl rfl rfl ?_)
  have hA := Blk.new w (ofc g v) 56
  have hbel := below1 w (.cells (ofc g v) 56)
  generalize w.alloc (.cells (ofc g v) 56) = W at *
  have lA := hA.lt
  have hu := hu.below hbel
  have hv := hv.below hbel
  have hvp := l07Fits_any g v _ n m P Q w.heap.size _ hg hP hQ W hA hv hu
  cases hvd : validP g n P m Q <;> rw [hvd] at hvp
  · have HZ : Hid (V = 1 ∧ LL = []) := Lib.hid (by rw [HF.out.1, HF.out.2]; unfold gioT gioL; rw [hvd]; exact ⟨rfl, rfl⟩)
    clear hvd
    go_wp2_with (go_at_call 81; refine hvp.mono ?_; rintro e w2 ⟨rfl, hb2⟩)
    have hbel2 := hbel.trans (hb2.mono hbel.size)
    go_ret2
    obtain ⟨z1, z2⟩ := HZ.out
    subst z1
    subst z2
    exact ⟨_, w.heap.size, rfl, Nat.le_refl _, .inl ⟨rfl, _, _, rfl, by decide⟩, hbel2.alloc hbel2.size _⟩
  · obtain ⟨hvg, hvo, hci, hm6, _⟩ := validP_use hvd
    have hke := fun w' (h1 : Blk w' w.heap.size (ofc g v) 56) h2 (h3 : PSl w' (.slice a m c) m Q) => l07Grant_any g w.heap.size v _ n m P Q hg hvg hci (validO_watch hvo) hm6 w' h1 h2 h3
    have HZ : Hid (V = 0 ∧ LL = grantTo (grK g n P Q) m) := Lib.hid (by rw [HF.out.1, HF.out.2]; unfold gioT gioL; rw [hvd]; exact ⟨rfl, rfl⟩)
    clear hvd HF
    generalize grantTo (grK g n P Q) m = L at *
    go_wp2_with (first | (go_at_call 81; refine hvp.mono ?_; rintro e w2 ⟨rfl, hb2⟩; have hA2 := hA.below hb2 lA) | (go_at_call 97; refine (hke _ hA2 (hv.below hb2) (hu.below hb2)).mono ?_; rintro e w3 ⟨x, r, rfl, hr, hx, hb3⟩))
    have hbel2 := hbel.trans (hb2.mono hbel.size)
    go_ret2
    obtain ⟨z1, z2⟩ := HZ.out
    subst z1
    subst z2
    exact ⟨_, r, rfl, by have := hbel2.size; omega, .inr hx, hbel2.trans (hb3.mono hbel2.size)⟩
end Go.Proofs.Ytnfoemgiebplmaa
