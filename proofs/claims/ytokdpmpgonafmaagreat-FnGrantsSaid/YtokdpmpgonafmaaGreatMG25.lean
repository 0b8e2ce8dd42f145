import Derived.Test.YtokdpmpgonafmaaGreatMG24
/- GrantInOrder, in the program and in the reference; lists of numbers compared and marked. -/
namespace Go.Proofs.YtokdpmpgonafmaaGreat
open Go.ChangeShapes Go.WideShapes Go.ChangeAt Go.RowKit
set_option linter.unusedVariables false
set_option linter.unusedSimpArgs false
attribute [local irreducible] Calls

def gioL (g : Gr) (n : Nat) (P : Nat → Wt) (m : Nat) (Q : Nat → Pm) : List Nat := if validP g n P m Q then grantTo (grK g n P Q) m else []
def gioN (g : Gr) (n : Nat) (P : Nat → Wt) (m : Nat) (Q : Nat → Pm) : Nat := (gioL g n P m Q).length
def gioT (g : Gr) (n : Nat) (P : Nat → Wt) (m : Nat) (Q : Nat → Pm) : Unit × Int := ((), if validP g n P m Q then 0 else 1)
theorem gioN_eq (g : Gr) (n : Nat) (P : Nat → Wt) (m : Nat) (Q : Nat → Pm) : (gioL g n P m Q).length = gioN g n P m Q := rfl
theorem gioN_le {g : Gr} {n m : Nat} {P : Nat → Wt} {Q : Nat → Pm} : gioN g n P m Q ≤ 1048576 := by
  unfold gioN gioL
  cases hv : validP g n P m Q
  · simp
  · simp only [if_true]
    have := (grantTo_lt (grK g n P Q) m).2
    have := (validP_use hv).2.2.2.1
    omega

/-- n values. -/
def vls (n : Nat) (f : Nat → Value) : List Value := (List.range n).map f
theorem vls_get (n : Nat) (f : Nat → Value) (i : Nat) (h : i < n) : (vls n f)[i]? = some (f i) := by unfold vls; simp [h]
theorem vls_set (n : Nat) (f : Nat → Value) (k : Nat) (u : Value) : (vls n f).set k u = vls n (fun i => if i = k then u else f i) := by
  apply List.ext_getElem?
  intro i
  unfold vls
  rw [List.getElem?_set]
  by_cases hi : i < n
  · by_cases hk : k = i
    · subst hk; simp [hi]
    · simp [hi, hk, Ne.symm hk]
  · by_cases hk : k = i
    · subst hk; simp [hi]
    · simp [hi, hk]
theorem vls_congr {n : Nat} {f f' : Nat → Value} (h : ∀ i, i < n → f i = f' i) : vls n f = vls n f' := by
  unfold vls; exact List.map_congr_left fun i hi => h i (List.mem_range.1 hi)
theorem vls_of {n : Nat} {xs : List Value} (h : xs.length = n) : xs = vls n (fun i => xs.getD i undef) := by
  apply List.ext_getElem?
  intro i
  unfold vls
  by_cases hi : i < n
  · simp [hi, List.getD_eq_getElem?_getD, List.getElem?_eq_getElem (show i < xs.length by omega)]
  · simp [hi]; omega

set_option maxRecDepth 100000 in
set_option maxHeartbeats 400000 in
theorem eqI_same (n g1 g2 : Nat) (L : List Nat) (v u : Value) (hn : n ≤ 1048576) (hl : L.length = n) (w : World) (hv : Rs 2 w g1 v n (ils L)) (hu : Rs 2 w g2 u n (ils L)) :
    Calls Tryz.prog 12 #[v, u] w fun e w' => e = .returned (.bool true) ∧ ∃ q, w' = w.drewN q := by
  obtain ⟨a, c, rfl, hc1, hc2, hcell⟩ := hv.form
  obtain ⟨a', c', rfl, hc1', hc2', hcell'⟩ := hu.form
  have HC := Lib.hid hcell
  have HC' := Lib.hid hcell'
  clear hcell hcell' hv hu
  have bn : (n : Int) ≤ 1048576 := by omega
  obtain ⟨N, hN⟩ : ∃ N, N = n := ⟨_, rfl⟩
  subst hN
  go_enter Tryz.func12, Tryz.ntmps12
  go_upto_region 4 with fail
  go_loopw [5] (fun i wr => ∃ k q : Nat, k ≤ N ∧ i = .int .i64 k ∧ wr = w.drewN q) (fun i _ => N - (intOf i).toNat)
  case atStart => exact ⟨0, 0, by omega, rfl, rfl⟩
  case round =>
    obtain ⟨k, q, hk, rfl, rfl⟩ := hrel
    by_cases hlt : k < N
    · obtain ⟨rfl, lg, hcell⟩ := HC.out.resolve_left (by omega)
      obtain ⟨rfl, lg', hcell'⟩ := HC'.out.resolve_left (by omega)
      obtain ⟨x, hx⟩ : ∃ x, L[k]? = some x := ⟨_, List.getElem?_eq_getElem (by omega)⟩
      have m1 : (w.drewN q).cell? ⟨g1, k, none⟩ = some (.int .i64 x) := (hcell k hlt).trans (ils_get _ _ _ hx)
      have m2 : (w.drewN q).cell? ⟨g2, k, none⟩ = some (.int .i64 x) := (hcell' k hlt).trans (ils_get _ _ _ hx)
      have bj : (0 : Int) ≤ k := by omega
      have bm : (k : Int) < N := by omega
      clear hcell hcell' hx
      go_upto_region 6 with fail
      generalize hW1 : w.drewN q = W1 at *
      refine wp_loose (C := fun w' => ∃ n, w' = W1.drewN n) (R := fun _ _ => True) (F := fun _ dd vv => match dd, vv with
        | 17, vv => vv = .slice (some ⟨g1, 0, none⟩) N c
        | 18, vv => vv = .int .i64 k
        | 19, vv => vv = .pointer (some ⟨g1, k, none⟩)
        | 20, vv => vv = .int .i64 x
        | 21, vv => vv = .slice (some ⟨g2, 0, none⟩) N c'
        | 22, vv => vv = .int .i64 k
        | 23, vv => vv = .pointer (some ⟨g2, k, none⟩)
        | 24, vv => vv = .int .i64 x
        | 25, vv => vv = .bool false
        | _, _ => True) (fun _ _ _ _ _ h => h) (by kernel_rfl) (by kernel_rfl) (by kernel_rfl) ⟨1, rfl⟩ ?_ ?_
      · refine steps_cons (step_go rfl fun ev w1 hC kn => ?_) ?_
        · have e1 : ev (.tmp 0) = .slice (some ⟨g1, 0, none⟩) N c := kn.out 0 rfl rfl rfl
          exact good_of (v := .slice (some ⟨g1, 0, none⟩) N c) rfl (by simp [execOp, e1, kn.con, go_sem]) hC trivial rfl
        refine steps_cons (step_go rfl fun ev w1 hC kn => ?_) ?_
        · have e1 : ev (.tmp 5) = .int .i64 k := kn.out 5 rfl rfl rfl
          exact good_of (v := .int .i64 k) rfl (by simp [execOp, e1, kn.con, go_sem]) hC trivial rfl
        refine steps_cons (step_go rfl fun ev w1 hC kn => ?_) ?_
        · have e1 : ev (.tmp 17) = .slice (some ⟨g1, 0, none⟩) N c := kn.inn 17 rfl rfl
          have e2 : ev (.tmp 18) = .int .i64 k := kn.inn 18 rfl rfl
          exact good_of (v := .pointer (some ⟨g1, k, none⟩)) rfl (by simp [execOp, e1, e2, kn.con, go_sem, bj, bm]) hC trivial rfl
        refine steps_cons (step_go rfl fun ev w1 hC kn => ?_) ?_
        · have e1 : ev (.tmp 19) = .pointer (some ⟨g1, k, none⟩) := kn.inn 19 rfl rfl
          obtain ⟨nn, rfl⟩ := hC
          exact good_of (v := .int .i64 x) rfl (by simp [execOp, e1, go_sem, m1]) ⟨nn, rfl⟩ trivial rfl
        refine steps_cons (step_go rfl fun ev w1 hC kn => ?_) ?_
        · have e1 : ev (.tmp 1) = .slice (some ⟨g2, 0, none⟩) N c' := kn.out 1 rfl rfl rfl
          exact good_of (v := .slice (some ⟨g2, 0, none⟩) N c') rfl (by simp [execOp, e1, kn.con, go_sem]) hC trivial rfl
        refine steps_cons (step_go rfl fun ev w1 hC kn => ?_) ?_
        · have e1 : ev (.tmp 5) = .int .i64 k := kn.out 5 rfl rfl rfl
          exact good_of (v := .int .i64 k) rfl (by simp [execOp, e1, kn.con, go_sem]) hC trivial rfl
        refine steps_cons (step_go rfl fun ev w1 hC kn => ?_) ?_
        · have e1 : ev (.tmp 21) = .slice (some ⟨g2, 0, none⟩) N c' := kn.inn 21 rfl rfl
          have e2 : ev (.tmp 22) = .int .i64 k := kn.inn 22 rfl rfl
          exact good_of (v := .pointer (some ⟨g2, k, none⟩)) rfl (by simp [execOp, e1, e2, kn.con, go_sem, bj, bm]) hC trivial rfl
        refine steps_cons (step_go rfl fun ev w1 hC kn => ?_) ?_
        · have e1 : ev (.tmp 23) = .pointer (some ⟨g2, k, none⟩) := kn.inn 23 rfl rfl
          obtain ⟨nn, rfl⟩ := hC
          exact good_of (v := .int .i64 x) rfl (by simp [execOp, e1, go_sem, m2]) ⟨nn, rfl⟩ trivial rfl
        refine steps_cons (step_go rfl fun ev w1 hC kn => ?_) ?_
        · have e1 : ev (.tmp 20) = .int .i64 x := kn.inn 20 rfl rfl
          have e2 : ev (.tmp 24) = .int .i64 x := kn.inn 24 rfl rfl
          exact good_of (v := .bool false) rfl (by simp [execOp, e1, e2, kn.con, go_sem]) hC trivial rfl
        exact steps_nil
      rintro xv w1 hxv hC
      have y25 : xv 25 = .bool false := hxv 25 (by decide)
      obtain ⟨n, rfl⟩ := hC
      simp only [fill, dstsOf, List.filterMap_cons, List.filterMap_nil, List.foldl_cons, List.foldl_nil, List.set_cons_succ, List.set_cons_zero, y25]
      clear hxv y25
      go_wp2_with fail
      go_roundw
      case rel => exact ⟨k + 1, q + n, by omega, by go_num, by rw [← hW1]; simp⟩
      case measure => simp [intOf]; omega
    · obtain rfl : k = N := by omega
      go_wp2_with fail
      go_ret
      exact ⟨rfl, q, rfl⟩

set_option maxRecDepth 100000 in
set_option maxHeartbeats 400000 in
theorem markI_any (n g : Nat) (L : List Nat) (v : Value) (m : Int) (hm : 0 ≤ m ∧ m ≤ 8388608) (hn : n ≤ 1048576) (w : World) (hv : Rs 2 w g v n (ils L)) :
    Calls Tryz.prog 17 #[v, .int .i64 m] w fun e w' => e = .returned (.int .i64 (m + n)) ∧ Rs 2 w' g v n (vls n (fun i => .int .i64 (m + i))) ∧ Only g w w' := by
  rcases hv with ⟨rfl, a, cap, rfl, hc⟩ | hown
  · go_enter Tryz.func17, Tryz.ntmps17
    go_wp2_with fail
    go_loop [1, 5] (fun q i => q = .int .i64 m ∧ i = .int .i64 0) (fun _ _ => 0)
    case atStart => exact ⟨rfl, rfl⟩
    case round =>
      obtain ⟨rfl, rfl⟩ := hrel
      go_wp2_with fail
      go_ret
      exact ⟨by simp, .inl ⟨rfl, a, cap, rfl, hc⟩, Only.refl _ _⟩
  · obtain ⟨cap, rfl, hc1, hc2⟩ := hown.form
    unfold maxLen at hc2
    obtain ⟨f, hf⟩ : ∃ f : Nat → Value, ils L = vls n f := ⟨_, vls_of (by have := hown.1; omega)⟩
    rw [hf] at hown
    go_enter Tryz.func17, Tryz.ntmps17
    go_wp2_with fail
    go_loopw [1, 5] (fun q i wr => ∃ (k : Nat), k ≤ n ∧ i = .int .i64 k ∧ q = .int .i64 (m + k) ∧ Own wr g 2 1 (.slice (some ⟨g, 0, none⟩) n cap) n (vls n (fun i => if i < k then .int .i64 (m + i) else f i)) ∧ Only g w wr) (fun _ i _ => n - (intOf i).toNat)
    case atStart => exact ⟨0, by omega, rfl, by simp, by rw [vls_congr (f' := f) (fun i hi => by simp)]; exact hown, Only.refl _ _⟩
    case round =>
      clear hown
      obtain ⟨k, hk, rfl, rfl, hown, honly⟩ := hrel
      by_cases hlt : k < n
      · have f0 := hown.free k
        have bk : (0 : Int) ≤ k := by omega
        have bl : (k : Int) < n := by omega
        have e0 : wr.cell? ⟨g, k, none⟩ = some (f k) := by rw [hown.cell _ (by omega), vls_get _ _ _ hlt]; simp
        go_wp2_with fail
        go_roundw
        case rel =>
          refine ⟨k + 1, by omega, by go_num, by go_num, ?_, honly.setCell _ _⟩
          have hset := hown.setCell k (.int .i64 (m + k))
          rw [vls_set, vls_congr (f' := fun i => if i < k + 1 then .int .i64 (m + i) else f i) (fun i hi => by
            by_cases hik : i = k
            · subst hik; simp
            · simp only [hik, if_false, show i < k + 1 ↔ i < k by omega])] at hset
          exact hset
        case measure => simp [intOf]; omega
      · obtain rfl : k = n := by omega
        go_wp2_with fail
        go_ret
        exact ⟨rfl, .inr (by rw [vls_congr (f' := fun i => if i < k then .int .i64 (m + i) else f i) (fun i hi => by simp [hi])]; exact hown), honly⟩

set_option maxRecDepth 100000 in
set_option maxHeartbeats 400000 in
theorem heldI_any (n g : Nat) (v : Value) (m : Int) (hm : 0 ≤ m ∧ m ≤ 8388608) (hn : n ≤ 1048576) (w : World) (hv : Rs 2 w g v n (vls n (fun i => .int .i64 (m + i)))) :
    Calls Tryz.prog 18 #[v, .int .i64 m] w fun e w' => e = .returned (.int .i64 (m + n)) ∧ w' = w := by
  obtain ⟨a, cap, rfl, hc1, hc2, hcell⟩ := hv.form
  unfold maxLen at hc2
  have HC := Lib.hid hcell
  clear hcell hv
  go_enter Tryz.func18, Tryz.ntmps18
  go_wp2_with fail
  go_loop [1, 5] (fun q i => ∃ k : Nat, k ≤ n ∧ i = .int .i64 k ∧ q = .int .i64 (m + k)) (fun _ i => n - (intOf i).toNat)
  case atStart => exact ⟨0, by omega, rfl, by simp⟩
  case round =>
    obtain ⟨k, hk, rfl, rfl⟩ := hrel
    by_cases hlt : k < n
    · obtain ⟨rfl, lg, hcell⟩ := HC.out.resolve_left (by omega)
      have e0 : w.cell? ⟨g, k, none⟩ = some (.int .i64 (m + k)) := (hcell k hlt).trans (vls_get _ _ _ hlt)
      clear hcell
      have bk : (0 : Int) ≤ k := by omega
      have bl : (k : Int) < n := by omega
      go_wp2_with fail
      go_round
      case rel => exact ⟨k + 1, by omega, by go_num, by go_num⟩
      case measure => simp [intOf]; omega
    · obtain rfl : k = n := by omega
      go_wp2_with fail
      go_ret
      exact ⟨rfl, rfl⟩

set_option maxRecDepth 100000 in
set_option maxHeartbeats 400000 in
theorem grantInOrder_any (g : Gr) (v u : Value) (n m : Nat) (P : Nat → Wt) (Q : Nat → Pm) (hg : g.ok) (hP : ∀ i, i < n → (P i).ok) (hQ : ∀ i, i < m → (Q i).ok) (w : World) (hv : WSl w v n P) (hu : PSl w u m Q) :
    Calls Tryz.prog 24 #[.agg (ofc g v), u] w fun e w' => ∃ x r, e = .returned (.tuple #[x, .int .i64 (gioT g n P m Q).2]) ∧ w.heap.size ≤ r ∧ Rs 2 w' r x (gioN g n P m Q) (ils (gioL g n P m Q)) ∧ Below w.heap.size w w' := by
  obtain ⟨V, hV⟩ : ∃ V, V = (gioT g n P m Q).2 := ⟨_, rfl⟩
  obtain ⟨LL, hLL⟩ : ∃ LL, LL = gioL g n P m Q := ⟨_, rfl⟩
  have hNN : gioN g n P m Q = LL.length := by rw [hLL]; rfl
  rw [hNN, ← hV, ← hLL]
  have HF := Lib.hid (And.intro hV hLL)
  clear hV hLL hNN
  obtain ⟨a, c, rfl, hform⟩ := id hu
  clear hform
  go_enter Tryz.func24, Tryz.ntmps24
  go_upto_region 1 with (refine wpList_box_as rfl rfl rfl ?_)
  have hA := Blk.new w (ofc g v) 42
  have hbel := below1 w (.cells (ofc g v) 42)
  generalize w.alloc (.cells (ofc g v) 42) = W at *
  have lA := hA.lt
  have hu := hu.below hbel
  have hv := hv.below hbel
  have hvp := validPermits_any g v _ n m P Q hg hP hQ W hv hu
  cases hvd : validP g n P m Q <;> rw [hvd] at hvp
  · have HZ : Hid (V = 1 ∧ LL = []) := Lib.hid (by rw [HF.out.1, HF.out.2]; unfold gioT gioL; rw [hvd]; exact ⟨rfl, rfl⟩)
    clear hvd
    go_wp2_with (first | (refine wpList_load_blk rfl rfl rfl row76 hA (ofc_size _ _) ?_) | (go_at_call 50; refine hvp.mono ?_; rintro e w2 ⟨rfl, hb2⟩))
    go_ret2
    obtain ⟨z1, z2⟩ := HZ.out
    subst z1
    subst z2
    exact ⟨_, w.heap.size, rfl, Nat.le_refl _, .inl ⟨rfl, _, _, rfl, by decide⟩, hbel.trans (hb2.mono hbel.size)⟩
  · obtain ⟨hvg, hvo, hci, hm6, _⟩ := validP_use hvd
    have hke := fun w' (h1 : Blk w' w.heap.size (ofc g v) 42) h2 (h3 : PSl w' (.slice a m c) m Q) => inOrder_any g w.heap.size v _ n m P Q hg hvg hci (validO_watch hvo) hm6 w' h1 h2 h3
    have HZ : Hid (V = 0 ∧ LL = grantTo (grK g n P Q) m) := Lib.hid (by rw [HF.out.1, HF.out.2]; unfold gioT gioL; rw [hvd]; exact ⟨rfl, rfl⟩)
    clear hvd HF
    generalize grantTo (grK g n P Q) m = L at *
    go_wp2_with (first | (refine wpList_load_blk rfl rfl rfl row76 hA (ofc_size _ _) ?_) | (go_at_call 50; refine hvp.mono ?_; rintro e w2 ⟨rfl, hb2⟩; have hA2 := hA.below hb2 lA) | (go_at_call 51; refine (hke _ hA2 (hv.below hb2) (hu.below hb2)).mono ?_; rintro e w3 ⟨x, r, rfl, hr, hx, hb3⟩))
    have hbel2 := hbel.trans (hb2.mono hbel.size)
    go_ret2
    obtain ⟨z1, z2⟩ := HZ.out
    subst z1
    subst z2
    exact ⟨_, r, rfl, by have := hbel2.size; omega, .inr hx, hbel2.trans (hb3.mono hbel2.size)⟩

set_option maxRecDepth 100000 in
set_option maxHeartbeats 400000 in
theorem specGrantInOrder_any (g : Gr) (v u : Value) (n m : Nat) (P : Nat → Wt) (Q : Nat → Pm) (hg : g.ok) (hP : ∀ i, i < n → (P i).ok) (hQ : ∀ i, i < m → (Q i).ok) (w : World) (hv : WSl w v n P) (hu : PSl w u m Q) :
    Calls Tryz.prog 25 #[.agg (ofc g v), u] w fun e w' => ∃ x r, e = .returned (.tuple #[x, .int .i64 (gioT g n P m Q).2]) ∧ w.heap.size ≤ r ∧ Rs 2 w' r x (gioN g n P m Q) (ils (gioL g n P m Q)) ∧ Below w.heap.size w w' := by
  obtain ⟨V, hV⟩ : ∃ V, V = (gioT g n P m Q).2 := ⟨_, rfl⟩
  obtain ⟨LL, hLL⟩ : ∃ LL, LL = gioL g n P m Q := ⟨_, rfl⟩
  have hNN : gioN g n P m Q = LL.length := by rw [hLL]; rfl
  rw [hNN, ← hV, ← hLL]
  have HF := Lib.hid (And.intro hV hLL)
  clear hV hLL hNN
  obtain ⟨a, c, rfl, hform⟩ := id hu
  clear hform
  go_enter Tryz.func25, Tryz.ntmps25
  go_upto_region 1 with (refine wpList_box_as rfl rfl rfl ?_)
  have hA := Blk.new w (ofc g v) 42
  have hbel := below1 w (.cells (ofc g v) 42)
  generalize w.alloc (.cells (ofc g v) 42) = W at *
  have lA := hA.lt
  have hu := hu.below hbel
  have hv := hv.below hbel
  have hvp := l07Fits_any g v _ n m P Q w.heap.size _ hg hP hQ W hA hv hu
  cases hvd : validP g n P m Q <;> rw [hvd] at hvp
  · have HZ : Hid (V = 1 ∧ LL = []) := Lib.hid (by rw [HF.out.1, HF.out.2]; unfold gioT gioL; rw [hvd]; exact ⟨rfl, rfl⟩)
    clear hvd
    go_wp2_with (go_at_call 33; refine hvp.mono ?_; rintro e w2 ⟨rfl, hb2⟩)
    have hbel2 := hbel.trans (hb2.mono hbel.size)
    go_ret2
    obtain ⟨z1, z2⟩ := HZ.out
    subst z1
    subst z2
    exact ⟨_, w.heap.size, rfl, Nat.le_refl _, .inl ⟨rfl, _, _, rfl, by decide⟩, hbel2.alloc hbel2.size _⟩
  · obtain ⟨hvg, hvo, hci, hm6, _⟩ := validP_use hvd
    have hke := fun w' (h1 : Blk w' w.heap.size (ofc g v) 42) h2 (h3 : PSl w' (.slice a m c) m Q) => l07Grant_any g w.heap.size v _ n m P Q hg hvg hci (validO_watch hvo) hm6 w' h1 h2 h3
    have HZ : Hid (V = 0 ∧ LL = grantTo (grK g n P Q) m) := Lib.hid (by rw [HF.out.1, HF.out.2]; unfold gioT gioL; rw [hvd]; exact ⟨rfl, rfl⟩)
    clear hvd HF
    generalize grantTo (grK g n P Q) m = L at *
    go_wp2_with (first | (go_at_call 33; refine hvp.mono ?_; rintro e w2 ⟨rfl, hb2⟩; have hA2 := hA.below hb2 lA) | (go_at_call 52; refine (hke _ hA2 (hv.below hb2) (hu.below hb2)).mono ?_; rintro e w3 ⟨x, r, rfl, hr, hx, hb3⟩))
    have hbel2 := hbel.trans (hb2.mono hbel.size)
    go_ret2
    obtain ⟨z1, z2⟩ := HZ.out
    subst z1
    subst z2
    exact ⟨_, r, rfl, by have := hbel2.size; omega, .inr hx, hbel2.trans (hb3.mono hbel2.size)⟩
end Go.Proofs.YtokdpmpgonafmaaGreat
/- Choices of permits as bits, lists as lists are ordered, the best of several. Plain laws; no statement is proved here. -/
namespace Go.Proofs.YtokdpmpgonafmaaGreat
set_option linter.unusedVariables false
set_option linter.unusedSimpArgs false

/-! ### Lists of numbers as lists are ordered. -/
def cmpL : List Nat → List Nat → Int
  | [], [] => 0
  | [], _ :: _ => -1
  | _ :: _, [] => 1
  | x :: xs, y :: ys => if x < y then -1 else if y < x then 1 else cmpL xs ys
theorem cmpL_lt : ∀ {x y : List Nat}, cmpL x y < 0 ↔ x < y
  | [], [] => by simp [cmpL]
  | [], _ :: _ => by simp [cmpL]
  | _ :: _, [] => by simp [cmpL]
  | x :: xs, y :: ys => by
    have ih := cmpL_lt (x := xs) (y := ys)
    unfold cmpL
    rw [List.cons_lt_cons_iff]
    by_cases h1 : x < y
    · rw [if_pos h1]
      exact ⟨fun _ => .inl h1, fun _ => by omega⟩
    · rw [if_neg h1]
      by_cases h2 : y < x
      · rw [if_pos h2]
        constructor
        · intro h; omega
        · rintro (h | ⟨h, _⟩) <;> omega
      · rw [if_neg h2]
        have e : x = y := by omega
        rw [ih]
        constructor
        · intro h; exact .inr ⟨e, h⟩
        · rintro (h | ⟨_, h⟩)
          · omega
          · exact h
theorem cmpL_self : ∀ x : List Nat, cmpL x x = 0
  | [] => rfl
  | x :: xs => by unfold cmpL; simp [cmpL_self xs]
/-! ### Subsets as bits. -/
def bitB (s i : Nat) : Bool := s / 2 ^ i % 2 == 1
def picks (s k : Nat) : List Nat := (List.range k).filter fun i => bitB s i
theorem picks_zero (s : Nat) : picks s 0 = [] := rfl
theorem picks_succ (s k : Nat) : picks s (k + 1) = if bitB s k then picks s k ++ [k] else picks s k := by
  unfold picks; rw [List.range_succ, List.filter_append]
  cases h : bitB s k <;> simp [h]
theorem picks_lt {s k i : Nat} (h : i ∈ picks s k) : i < k := by
  unfold picks at h; exact List.mem_range.1 (List.mem_filter.1 h).1
theorem picks_length (s k : Nat) : (picks s k).length ≤ k := by
  unfold picks; have := List.length_filter_le (fun i => bitB s i) (List.range k); rw [List.length_range] at this; exact this
theorem mem_picks {s k i : Nat} : i ∈ picks s k ↔ i < k ∧ bitB s i = true := by unfold picks; rw [List.mem_filter, List.mem_range]
theorem picks_inj {s t m : Nat} (hs : s < 2 ^ m) (ht : t < 2 ^ m) (h : picks s m = picks t m) : s = t := by
  apply Nat.eq_of_testBit_eq
  intro i
  have hb : ∀ x, x.testBit i = bitB x i := fun x => by unfold bitB; rw [Nat.testBit_eq_decide_div_mod_eq]; cases hx : (x / 2 ^ i % 2 == 1) <;> simp_all
  rw [hb, hb]
  by_cases hi : i < m
  · have e : i ∈ picks s m ↔ i ∈ picks t m := by rw [h]
    rw [mem_picks, mem_picks] at e
    rw [Bool.eq_iff_iff]
    constructor
    · intro h1; exact (e.1 ⟨hi, h1⟩).2
    · intro h1; exact (e.2 ⟨hi, h1⟩).2
  · have hp : 2 ^ m ≤ 2 ^ i := Nat.pow_le_pow_right (by omega) (by omega)
    unfold bitB
    rw [Nat.div_eq_of_lt (by omega), Nat.div_eq_of_lt (by omega)]
/-! ### The best of several. -/
/-- What a way to be better must be. -/
structure Weak (gt : Nat → Nat → Bool) : Prop where
  irr : ∀ x, gt x x = false
  tr : ∀ x y z, gt x y = true → gt y z = true → gt x z = true
  ntr : ∀ x y z, gt x y = false → gt y z = false → gt x z = false
/-- x is taken rather than y: it is better, or as good and ahead in the lists' order. -/
def over (gt : Nat → Nat → Bool) (m : Nat) (x y : Nat) : Bool := gt x y || (!gt y x && decide (cmpL (picks x m) (picks y m) < 0))
/-- The best of the first k of a list, as the program finds it: each that is better than the best so far. -/
def bestTo (gt : Nat → Nat → Bool) (l : List Nat) : Nat → Nat
  | 0 => l.getD 0 0
  | k + 1 => if gt (l.getD k 0) (bestTo gt l k) then l.getD k 0 else bestTo gt l k
/-- What the best one is. -/
def IsBest (gt : Nat → Nat → Bool) (m : Nat) (p : Nat → Prop) (r : Nat) : Prop := p r ∧ ∀ y, p y → gt y r = false ∧ (gt r y = false → r = y ∨ cmpL (picks r m) (picks y m) < 0)
theorem best_unique {gt : Nat → Nat → Bool} {m : Nat} {p : Nat → Prop} {r r' : Nat} (h : IsBest gt m p r) (h' : IsBest gt m p r') : r = r' := by
  obtain ⟨h1, h2⟩ := h
  obtain ⟨h3, h4⟩ := h'
  obtain ⟨a1, a2⟩ := h2 r' h3
  obtain ⟨b1, b2⟩ := h4 r h1
  rcases a2 b1 with e | e
  · exact e
  · rcases b2 a1 with f | f
    · exact f.symm
    · rw [cmpL_lt] at e f
      exact absurd (List.lt_trans e f) (List.lt_irrefl _)
theorem getD_mem {l : List Nat} {i : Nat} (h : i < l.length) : l.getD i 0 ∈ l := by
  rw [List.getD_eq_getElem?_getD, List.getElem?_eq_getElem h]; exact List.getElem_mem h
/-- A list that is sorted: the first that is better than all ahead of it. -/
theorem best_sorted {gt : Nat → Nat → Bool} (hg : Weak gt) {m : Nat} {l : List Nat} (hl : 0 < l.length) (hs : ∀ i j, i < j → j < l.length → cmpL (picks (l.getD i 0) m) (picks (l.getD j 0) m) < 0) :
    ∀ k, k ≤ l.length → ∃ i, i < l.length ∧ (0 < k → i < k) ∧ bestTo gt l k = l.getD i 0 ∧ ∀ j, j < k → gt (l.getD j 0) (bestTo gt l k) = false ∧ (gt (bestTo gt l k) (l.getD j 0) = false → i ≤ j)
  | 0, _ => ⟨0, hl, fun h => absurd h (by omega), rfl, fun j hj => absurd hj (by omega)⟩
  | k + 1, hk => by
    obtain ⟨i, h1, h2, h3, h4⟩ := best_sorted hg hl hs k (by omega)
    unfold bestTo
    by_cases hb : gt (l.getD k 0) (bestTo gt l k) = true
    · rw [if_pos hb]
      refine ⟨k, by omega, fun _ => by omega, rfl, fun j hj => ?_⟩
      by_cases hjk : j = k
      · subst hjk; exact ⟨hg.irr _, fun _ => Nat.le_refl _⟩
      · obtain ⟨a1, a2⟩ := h4 j (by omega)
        constructor
        · cases h : gt (l.getD j 0) (l.getD k 0)
          · rfl
          · have := hg.tr _ _ _ h hb; rw [a1] at this; cases this
        · intro h
          have := hg.ntr _ _ _ h a1
          rw [hb] at this; cases this
    · rw [if_neg hb]
      have hb' : gt (l.getD k 0) (bestTo gt l k) = false := by simpa using hb
      refine ⟨i, h1, fun _ => ?_, h3, fun j hj => ?_⟩
      · by_cases h0 : 0 < k
        · have := h2 h0; omega
        · have h00 : k = 0 := by omega
          subst h00
          by_cases hi0 : i = 0
          · omega
          · exfalso
            have e : l.getD i 0 = l.getD 0 0 := h3.symm
            have := hs 0 i (by omega) h1
            rw [e, cmpL_lt] at this
            exact List.lt_irrefl _ this
      · by_cases hjk : j = k
        · subst hjk
          refine ⟨hb', fun _ => ?_⟩
          by_cases h0 : 0 < j
          · have := h2 h0; omega
          · by_cases hi0 : i ≤ j
            · exact hi0
            · exfalso
              have h00 : j = 0 := by omega
              subst h00
              have e : l.getD i 0 = l.getD 0 0 := h3.symm
              have := hs 0 i (by omega) h1
              rw [e, cmpL_lt] at this
              exact List.lt_irrefl _ this
        · exact h4 j (by omega)
theorem best_sorted_is {gt : Nat → Nat → Bool} (hg : Weak gt) {m : Nat} {l : List Nat} (hl : 0 < l.length) (hs : ∀ i j, i < j → j < l.length → cmpL (picks (l.getD i 0) m) (picks (l.getD j 0) m) < 0) : IsBest gt m (· ∈ l) (bestTo gt l l.length) := by
  obtain ⟨i, h1, h2, h3, h4⟩ := best_sorted hg hl hs l.length (Nat.le_refl _)
  refine ⟨by rw [h3]; exact getD_mem h1, fun y hy => ?_⟩
  obtain ⟨j, hj⟩ := List.getElem?_of_mem hy
  have hjl : j < l.length := by
    rcases Nat.lt_or_ge j l.length with h | h
    · exact h
    · rw [List.getElem?_eq_none h] at hj; cases hj
  have ey : l.getD j 0 = y := by rw [List.getD_eq_getElem?_getD, hj]; rfl
  obtain ⟨a1, a2⟩ := h4 j hjl
  rw [ey] at a1 a2
  refine ⟨a1, fun h => ?_⟩
  have hij := a2 h
  by_cases e : i = j
  · left; rw [h3, e, ey]
  · right; rw [h3]; have := hs i j (by omega) hjl; rw [ey] at this; exact this
/-- Any list: the reference's way. -/
theorem best_over {gt : Nat → Nat → Bool} (hg : Weak gt) {m : Nat} {l : List Nat} (hinj : ∀ x y, x ∈ l → y ∈ l → picks x m = picks y m → x = y) :
    ∀ k, 1 ≤ k → k ≤ l.length → IsBest gt m (fun y => ∃ j, j < k ∧ y = l.getD j 0) (bestTo (over gt m) l k)
  | 0, h, _ => absurd h (by omega)
  | k + 1, _, hk => by
    by_cases h0 : k = 0
    · subst h0
      have e : bestTo (over gt m) l (0 + 1) = l.getD 0 0 := by unfold bestTo; split <;> rfl
      rw [e]
      refine ⟨⟨0, by omega, rfl⟩, fun y ⟨j, hj, hy⟩ => ?_⟩
      have : j = 0 := by omega
      subst this; subst hy
      exact ⟨hg.irr _, fun _ => .inl rfl⟩
    · obtain ⟨⟨i, hi, hri⟩, hb⟩ := best_over (l := l) (m := m) hg hinj k (by omega) (by omega)
      unfold bestTo
      generalize bestTo (over gt m) l k = r at *
      obtain ⟨x, hx⟩ : ∃ x, x = l.getD k 0 := ⟨_, rfl⟩
      rw [← hx]
      cases ho : over gt m x r
      · rw [if_neg (by simp)]
        refine ⟨⟨i, by omega, hri⟩, fun y ⟨j, hj, hy⟩ => ?_⟩
        by_cases hjk : j = k
        · subst hjk
          rw [← hx] at hy; subst hy
          unfold over at ho
          rw [Bool.or_eq_false_iff] at ho
          refine ⟨ho.1, fun h => ?_⟩
          have h2 := ho.2
          rw [h] at h2
          simp only [Bool.not_false, Bool.true_and, decide_eq_false_iff_not] at h2
          rw [cmpL_lt] at h2 ⊢
          by_cases e : picks r m = picks y m
          · exact .inl (hinj r y (by rw [hri]; exact getD_mem (by omega)) (by rw [hx]; exact getD_mem (by omega)) e)
          · right
            rcases Decidable.em (picks r m < picks y m) with h3 | h3
            · exact h3
            · exact absurd (List.le_antisymm (show picks r m ≤ picks y m from h2) (show picks y m ≤ picks r m from h3)) e
        · exact hb y ⟨j, by omega, hy⟩
      · rw [if_pos rfl]
        unfold over at ho
        have hxr : ∀ y, gt y r = false → gt y x = false := fun y hy => by
          cases h : gt y x
          · rfl
          · rw [Bool.or_eq_true] at ho
            rcases ho with h2 | h2
            · have := hg.tr _ _ _ h h2; rw [hy] at this; cases this
            · rw [Bool.and_eq_true] at h2
              -- x is as good as r
              have h3 : gt r x = false := by simpa using h2.1
              have := hg.ntr _ _ _ hy h3
              rw [h] at this; cases this
        refine ⟨⟨k, by omega, hx⟩, fun y ⟨j, hj, hy⟩ => ?_⟩
        by_cases hjk : j = k
        · subst hjk; rw [← hx] at hy; subst hy; exact ⟨hg.irr _, fun _ => .inl rfl⟩
        · obtain ⟨a1, a2⟩ := hb y ⟨j, by omega, hy⟩
          refine ⟨hxr y a1, fun h => ?_⟩
          rw [Bool.or_eq_true] at ho
          rcases ho with h2 | h2
          · have := hg.ntr _ _ _ h a1; rw [h2] at this; cases this
          · rw [Bool.and_eq_true] at h2
            have h3 : gt r x = false := by simpa using h2.1
            have h4 : cmpL (picks x m) (picks r m) < 0 := of_decide_eq_true h2.2
            have h5 := hg.ntr _ _ _ h3 h
            right
            rcases a2 h5 with e | e
            · rw [← e]; exact h4
            · rw [cmpL_lt] at *; exact List.lt_trans h4 e
/-- Both ways find the same. -/
theorem best_same {gt : Nat → Nat → Bool} (hg : Weak gt) {m : Nat} {l d : List Nat} (hinj : ∀ x y, x ∈ l → y ∈ l → picks x m = picks y m → x = y) (hl : 0 < l.length) (hp : ∀ x, x ∈ d ↔ x ∈ l) (hdl : 0 < d.length) (hs : ∀ i j, i < j → j < d.length → cmpL (picks (d.getD i 0) m) (picks (d.getD j 0) m) < 0) :
    bestTo gt d d.length = bestTo (over gt m) l l.length := by
  have h1 := best_sorted_is hg hdl hs
  have h2 := best_over hg hinj l.length hl (Nat.le_refl _)
  refine best_unique h1 ⟨?_, fun y hy => h2.2 y ?_⟩
  · obtain ⟨j, hj, e⟩ := h2.1
    rw [hp, e]; exact getD_mem hj
  · obtain ⟨j, hj⟩ := List.getElem?_of_mem ((hp y).1 hy)
    have hjl : j < l.length := by
      rcases Nat.lt_or_ge j l.length with h | h
      · exact h
      · rw [List.getElem?_eq_none h] at hj; cases hj
    exact ⟨j, hjl, by rw [List.getD_eq_getElem?_getD, hj]; rfl⟩
end Go.Proofs.YtokdpmpgonafmaaGreat
