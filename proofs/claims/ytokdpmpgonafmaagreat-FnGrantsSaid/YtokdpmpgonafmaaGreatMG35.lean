import Derived.Test.YtokdpmpgonafmaaGreatMG25
import Derived.Test.YtokdpmpgonafmaaGreatMG22
/- Lists of numbers that a caller hands in: opened, copied, compared. -/
namespace Go.Proofs.YtokdpmpgonafmaaGreat
open Go.ChangeShapes Go.WideShapes Go.ChangeAt Go.RowKit
set_option linter.unusedVariables false
set_option linter.unusedSimpArgs false

/-- The slice v holds n numbers, f. -/
def ISl (w : World) (v : Value) (n : Nat) (f : Nat → Int) : Prop :=
  ∃ a cap, v = .slice a n cap ∧ n ≤ cap ∧ cap ≤ maxLen ∧ (n = 0 ∨ ∃ b o, a = some ⟨b, o, none⟩ ∧ b < w.heap.size ∧ ∀ i, i < n → w.cell? ⟨b, o + i, none⟩ = some (.int .i64 (f i)))
theorem ISl.below {w w' : World} {v : Value} {n : Nat} {f : Nat → Int} (h : ISl w v n f) (hb : Below w.heap.size w w') : ISl w' v n f := by
  obtain ⟨a, cap, rfl, h1, h2, h3⟩ := h
  refine ⟨a, cap, rfl, h1, h2, ?_⟩
  rcases h3 with h3 | ⟨b, o, rfl, hlt, hc⟩
  · exact .inl h3
  · exact .inr ⟨b, o, rfl, Nat.lt_of_lt_of_le hlt hb.size, fun i hi => (hb.cell (p := ⟨b, _, none⟩) hlt).trans (hc i hi)⟩
theorem Own.isl {w : World} {g : Nat} {e : TypeId} {v : Value} {n : Nat} {xs : List Value} {f : Nat → Int} (h : Own w g e 1 v n xs) (hx : ∀ i, i < n → xs[i]? = some (.int .i64 (f i))) : ISl w v n f := by
  obtain ⟨cap, rfl, h1, h2⟩ := h.form
  exact ⟨_, cap, rfl, h1, h2, .inr ⟨g, 0, rfl, h.lt, fun i hi => by rw [Nat.zero_add, h.cell _ (by omega)]; exact hx i hi⟩⟩

section
variable {H : Type} {enc : TypeId × Value → H} {W : World} {r : Reach} {b0 : Nat}
set_option maxRecDepth 100000 in
theorem ints_of_trod {fuel : Nat} {v : Value} {x : DataW H × List MemPlace} (h : DataW.trod enc Tryz.prog W 0 (fun _ => true) true fuel 34 [v] = some x) : ∃ n f, ISl W v n f ∧ n ≤ maxLen := by
  rcases Go.Deep.open_slice Tryz.underlying34 h with ⟨h1, _⟩ | ⟨a, len, cap, m, k, D, Pl, h1, _, hl, hm, hmm, _, hx⟩
  · obtain rfl : v = .slice none 0 0 := by simpa using h1
    exact ⟨0, fun _ => 0, ⟨none, 0, rfl, Nat.le_refl _, Nat.zero_le _, .inl rfl⟩, Nat.zero_le _⟩
  obtain rfl : v = .slice (some a) len cap := by simpa using h1
  have c1 : Tryz.prog.cellsOf 2 = 1 := by kernel_rfl
  have hlm : len ≤ m := by rw [hmm]; split <;> omega
  rw [c1] at hx
  obtain ⟨f, hf⟩ := Go.Deep.choose_lt (n := len) (p := fun i (q : Int) => W.cell? ((a.add (i * 1)).add 0) = some (.int .i64 q)) (fun i hi => by
    obtain ⟨cs', g1, g2⟩ := hx i (by omega)
    obtain ⟨q, hq, _, _⟩ := DataW.trod_int Tryz.underlying2 g2
    obtain ⟨_, hlen, hcell⟩ := World.cells?_some g1
    refine ⟨q, ?_⟩
    rw [hcell 0 (by omega), hq]; simp)
  refine ⟨len, f, ⟨some a, cap, rfl, hl, hm, ?_⟩, Nat.le_trans hl hm⟩
  by_cases h0 : len = 0
  · exact .inl h0
  · have hc0 := hf 0 (by omega)
    obtain ⟨b, o, spot⟩ := a
    have hspot : spot = none := by simpa [Addr.add] using World.cell?_spot hc0
    subst hspot
    refine .inr ⟨b, o, rfl, ?_, fun i hi => ?_⟩
    · have := lt_of_cell hc0
      simpa [add_plain] using this
    · have := hf i hi
      rw [add_plain, add_plain] at this
      simpa using this
set_option maxRecDepth 100000 in
theorem open_i64s {v : Value} {d : DataW H} {ps : List MemPlace} (hval : Value.okWide Tryz.prog W r b0 34 v) (h : DataW.Trod enc Tryz.prog W 0 (fun _ => true) true 34 v d ps) : ∃ p : Nat × (Nat → Int), ISl W v p.1 p.2 ∧ p.1 ≤ maxLen := by
  obtain ⟨a, len, cap, rfl⟩ := okWide_slice Tryz.underlying34 hval
  obtain ⟨fuel, hf⟩ := h
  obtain ⟨n, f, h1⟩ := ints_of_trod hf
  exact ⟨(n, f), h1⟩
end

@[irreducible] def zi (n : Nat) : Array Value := madeCells #[.int .i64 0] n
theorem zi_size (n : Nat) : (zi n).size = n := by unfold zi; rw [size_madeCells]
theorem run_makeI (n : Nat) (hn : n ≤ 1048576) (w : World) : (Instr.makeSlice 34 (.int .i64 n) (.int .i64 n)).run Tryz.prog w = .ok (.slice (some ⟨w.heap.size, 0, none⟩) n n) (w.alloc (.cells (zi n) 2)) := by
  obtain ⟨ht, i, z, hi, hz, hs, hb, hzs⟩ := elI64
  have hz2 : z.cells = #[.int .i64 0] := by
    have h0 : (Tryz.prog.info? 2).map (·.zero) = some (some (.int .i64 0)) := by kernel_rfl
    rw [hi] at h0
    simp [hz] at h0
    rw [h0]; rfl
  have hr := run_make (P := Tryz.prog) w _ _ i z ht hi hz .i64 .i64 n n (by omega) (Int.le_refl _) (by rw [hb]; omega) (by omega)
  rw [hr, hz2]
  simp [zi, hs]
attribute [local irreducible] Calls

/-- Are two lists of numbers the same? -/
def sameIL (n n' : Nat) (f f' : Nat → Int) : Bool := (n == n') && !anyTo (fun i => f i != f' i) (fun i => i) n

set_option maxRecDepth 100000 in
set_option maxHeartbeats 400000 in
theorem l00Same_any (n n' : Nat) (f f' : Nat → Int) (v u : Value) (w : World) (hv : ISl w v n f) (hu : ISl w u n' f') :
    Calls Tryz.prog 55 #[v, u] w fun e w' => e = .returned (.bool (sameIL n n' f f')) ∧ ∃ q, w' = w.drewN q := by
  obtain ⟨a, c, rfl, hc1, hc2, hcell⟩ := hv
  obtain ⟨a', c', rfl, hc1', hc2', hcell'⟩ := hu
  unfold maxLen at hc2 hc2'
  have HC := Lib.hid hcell
  have HC' := Lib.hid hcell'
  clear hcell hcell'
  have bn : (n : Int) ≤ 9223372036854775807 := by omega
  have bn' : (n' : Int) ≤ 9223372036854775807 := by omega
  obtain ⟨R, hR⟩ : ∃ R, R = sameIL n n' f f' := ⟨_, rfl⟩
  rw [← hR]
  unfold sameIL at hR
  have HR := Lib.hid hR
  clear hR
  by_cases hnn : n = n'
  · subst hnn
    obtain ⟨N, hN⟩ : ∃ N, N = n := ⟨_, rfl⟩
    subst hN
    go_enter Tryz.func55, Tryz.ntmps55
    go_upto_region 4 with fail
    go_loopw [5] (fun i wr => ∃ k q : Nat, k ≤ N ∧ i = .int .i64 k ∧ Hid (∀ j, j < k → (f j != f' j) = false) ∧ wr = w.drewN q) (fun i _ => N - (intOf i).toNat)
    case atStart => exact ⟨0, 0, by omega, rfl, Lib.hid (fun j hj => by omega), rfl⟩
    case round =>
      obtain ⟨k, q, hk, rfl, hq, rfl⟩ := hrel
      by_cases hlt : k < N
      · obtain ⟨b1, o1, rfl, lg, hcell⟩ := HC.out.resolve_left (by omega)
        obtain ⟨b2, o2, rfl, lg', hcell'⟩ := HC'.out.resolve_left (by omega)
        have m1 : (w.drewN q).cell? ⟨b1, o1 + k, none⟩ = some (.int .i64 (f k)) := hcell k hlt
        have m2 : (w.drewN q).cell? ⟨b2, o2 + k, none⟩ = some (.int .i64 (f' k)) := hcell' k hlt
        have bj : (0 : Int) ≤ k := by omega
        have bm : (k : Int) < N := by omega
        clear hcell hcell'
        go_upto_region 6 with fail
        generalize hW1 : w.drewN q = W1 at *
        refine wp_loose (C := fun w' => ∃ n, w' = W1.drewN n) (R := fun _ _ => True) (F := fun _ dd vv => match dd, vv with
          | 17, vv => vv = .slice (some ⟨b1, o1, none⟩) N c
          | 18, vv => vv = .int .i64 k
          | 19, vv => vv = .pointer (some ⟨b1, o1 + k, none⟩)
          | 20, vv => vv = .int .i64 (f k)
          | 21, vv => vv = .slice (some ⟨b2, o2, none⟩) N c'
          | 22, vv => vv = .int .i64 k
          | 23, vv => vv = .pointer (some ⟨b2, o2 + k, none⟩)
          | 24, vv => vv = .int .i64 (f' k)
          | 25, vv => vv = .bool (f k != f' k)
          | _, _ => True) (fun _ _ _ _ _ h => h) (by kernel_rfl) (by kernel_rfl) (by kernel_rfl) ⟨1, rfl⟩ ?_ ?_
        · refine steps_cons (step_go rfl fun ev w1 hC kn => ?_) ?_
          · have e1 : ev (.tmp 0) = .slice (some ⟨b1, o1, none⟩) N c := kn.out 0 rfl rfl rfl
            exact good_of (v := .slice (some ⟨b1, o1, none⟩) N c) rfl (by simp [execOp, e1, kn.con, go_sem]) hC trivial rfl
          refine steps_cons (step_go rfl fun ev w1 hC kn => ?_) ?_
          · have e1 : ev (.tmp 5) = .int .i64 k := kn.out 5 rfl rfl rfl
            exact good_of (v := .int .i64 k) rfl (by simp [execOp, e1, kn.con, go_sem]) hC trivial rfl
          refine steps_cons (step_go rfl fun ev w1 hC kn => ?_) ?_
          · have e1 : ev (.tmp 17) = .slice (some ⟨b1, o1, none⟩) N c := kn.inn 17 rfl rfl
            have e2 : ev (.tmp 18) = .int .i64 k := kn.inn 18 rfl rfl
            exact good_of (v := .pointer (some ⟨b1, o1 + k, none⟩)) rfl (by simp [execOp, e1, e2, kn.con, go_sem, bj, bm]) hC trivial rfl
          refine steps_cons (step_go rfl fun ev w1 hC kn => ?_) ?_
          · have e1 : ev (.tmp 19) = .pointer (some ⟨b1, o1 + k, none⟩) := kn.inn 19 rfl rfl
            obtain ⟨nn, rfl⟩ := hC
            exact good_of (v := .int .i64 (f k)) rfl (by simp [execOp, e1, go_sem, m1]) ⟨nn, rfl⟩ trivial rfl
          refine steps_cons (step_go rfl fun ev w1 hC kn => ?_) ?_
          · have e1 : ev (.tmp 1) = .slice (some ⟨b2, o2, none⟩) N c' := kn.out 1 rfl rfl rfl
            exact good_of (v := .slice (some ⟨b2, o2, none⟩) N c') rfl (by simp [execOp, e1, kn.con, go_sem]) hC trivial rfl
          refine steps_cons (step_go rfl fun ev w1 hC kn => ?_) ?_
          · have e1 : ev (.tmp 5) = .int .i64 k := kn.out 5 rfl rfl rfl
            exact good_of (v := .int .i64 k) rfl (by simp [execOp, e1, kn.con, go_sem]) hC trivial rfl
          refine steps_cons (step_go rfl fun ev w1 hC kn => ?_) ?_
          · have e1 : ev (.tmp 21) = .slice (some ⟨b2, o2, none⟩) N c' := kn.inn 21 rfl rfl
            have e2 : ev (.tmp 22) = .int .i64 k := kn.inn 22 rfl rfl
            exact good_of (v := .pointer (some ⟨b2, o2 + k, none⟩)) rfl (by simp [execOp, e1, e2, kn.con, go_sem, bj, bm]) hC trivial rfl
          refine steps_cons (step_go rfl fun ev w1 hC kn => ?_) ?_
          · have e1 : ev (.tmp 23) = .pointer (some ⟨b2, o2 + k, none⟩) := kn.inn 23 rfl rfl
            obtain ⟨nn, rfl⟩ := hC
            exact good_of (v := .int .i64 (f' k)) rfl (by simp [execOp, e1, go_sem, m2]) ⟨nn, rfl⟩ trivial rfl
          refine steps_cons (step_go rfl fun ev w1 hC kn => ?_) ?_
          · have e1 : ev (.tmp 20) = .int .i64 (f k) := kn.inn 20 rfl rfl
            have e2 : ev (.tmp 24) = .int .i64 (f' k) := kn.inn 24 rfl rfl
            exact good_of (v := .bool (f k != f' k)) rfl (by simp [execOp, e1, e2, kn.con, go_sem]) hC trivial rfl
          exact steps_nil
        rintro xv w1 hxv hC
        have y25 : xv 25 = .bool (f k != f' k) := hxv 25 (by decide)
        obtain ⟨n, rfl⟩ := hC
        simp only [fill, dstsOf, List.filterMap_cons, List.filterMap_nil, List.foldl_cons, List.foldl_nil, List.set_cons_succ, List.set_cons_zero, y25]
        clear hxv y25
        cases hv : (f k != f' k)
        · have HV := Lib.hid hv
          clear hv
          go_wp2_with fail
          go_roundw
          case rel => exact ⟨k + 1, q + n, by omega, by go_num, Lib.hid (fun j hj => by
            by_cases hjk : j < k
            · exact hq.out j hjk
            · obtain rfl : j = k := by omega
              exact HV.out), by rw [← hW1]; simp⟩
          case measure => simp [intOf]; omega
        · have HV := Lib.hid hv
          clear hv
          go_wp2_with fail
          go_ret
          exact ⟨bool_eq (by rw [HR.out, anyTo_true (q := fun i => f i != f' i) (P := fun i : Nat => i) (i := k) hlt HV.out]; simp), q + n, by rw [← hW1]; simp⟩
      · obtain rfl : k = N := by omega
        go_wp2_with fail
        go_ret
        exact ⟨bool_eq (by rw [HR.out, (anyTo_false (q := fun i => f i != f' i) (P := fun i : Nat => i)).2 hq.out]; simp), q, rfl⟩
  · have h1 : ((n : Int) != n') = true := by simp; omega
    go_enter Tryz.func55, Tryz.ntmps55
    go_wp2_with fail
    go_ret
    exact ⟨bool_eq (by rw [HR.out]; simp [hnn]), 0, rfl⟩

set_option maxRecDepth 100000 in
set_option maxHeartbeats 400000 in
theorem equal_any (n n' : Nat) (f f' : Nat → Int) (v u : Value) (w : World) (hv : ISl w v n f) (hu : ISl w u n' f') :
    Calls Tryz.prog 53 #[v, u] w fun e w' => e = .returned (.bool (sameIL n n' f f')) ∧ ∃ q, w' = w.drewN q := by
  obtain ⟨a, c, rfl, hc1, hc2, hcell⟩ := hv
  obtain ⟨a', c', rfl, hc1', hc2', hcell'⟩ := hu
  unfold maxLen at hc2 hc2'
  have HC := Lib.hid hcell
  have HC' := Lib.hid hcell'
  clear hcell hcell'
  have bn : (n : Int) ≤ 9223372036854775807 := by omega
  have bn' : (n' : Int) ≤ 9223372036854775807 := by omega
  obtain ⟨R, hR⟩ : ∃ R, R = sameIL n n' f f' := ⟨_, rfl⟩
  rw [← hR]
  unfold sameIL at hR
  have HR := Lib.hid hR
  clear hR
  by_cases hnn : n = n'
  · subst hnn
    obtain ⟨N, hN⟩ : ∃ N, N = n := ⟨_, rfl⟩
    subst hN
    go_enter Tryz.func53, Tryz.ntmps53
    go_upto_region 4 with fail
    go_loopw [13] (fun i wr => ∃ k q : Nat, k ≤ N ∧ i = .int .i64 k ∧ Hid (∀ j, j < k → (f j != f' j) = false) ∧ wr = w.drewN q) (fun i _ => N - (intOf i).toNat)
    case atStart => exact ⟨0, 0, by omega, rfl, Lib.hid (fun j hj => by omega), rfl⟩
    case round =>
      obtain ⟨k, q, hk, rfl, hq, rfl⟩ := hrel
      by_cases hlt : k < N
      · obtain ⟨b1, o1, rfl, lg, hcell⟩ := HC.out.resolve_left (by omega)
        obtain ⟨b2, o2, rfl, lg', hcell'⟩ := HC'.out.resolve_left (by omega)
        have m1 : (w.drewN q).cell? ⟨b1, o1 + k, none⟩ = some (.int .i64 (f k)) := hcell k hlt
        have m2 : (w.drewN q).cell? ⟨b2, o2 + k, none⟩ = some (.int .i64 (f' k)) := hcell' k hlt
        have bj : (0 : Int) ≤ k := by omega
        have bm : (k : Int) < N := by omega
        clear hcell hcell'
        go_upto_region 6 with fail
        generalize hW1 : w.drewN q = W1 at *
        refine wp_loose (C := fun w' => ∃ n, w' = W1.drewN n) (R := fun _ _ => True) (F := fun _ dd vv => match dd, vv with
          | 16, vv => vv = .slice (some ⟨b1, o1, none⟩) N c
          | 17, vv => vv = .int .i64 k
          | 18, vv => vv = .pointer (some ⟨b1, o1 + k, none⟩)
          | 19, vv => vv = .int .i64 (f k)
          | 20, vv => vv = .slice (some ⟨b2, o2, none⟩) N c'
          | 21, vv => vv = .int .i64 k
          | 22, vv => vv = .pointer (some ⟨b2, o2 + k, none⟩)
          | 23, vv => vv = .int .i64 (f' k)
          | 24, vv => vv = .bool (f k != f' k)
          | _, _ => True) (fun _ _ _ _ _ h => h) (by kernel_rfl) (by kernel_rfl) (by kernel_rfl) ⟨1, rfl⟩ ?_ ?_
        · refine steps_cons (step_go rfl fun ev w1 hC kn => ?_) ?_
          · have e1 : ev (.tmp 0) = .slice (some ⟨b1, o1, none⟩) N c := kn.out 0 rfl rfl rfl
            exact good_of (v := .slice (some ⟨b1, o1, none⟩) N c) rfl (by simp [execOp, e1, kn.con, go_sem]) hC trivial rfl
          refine steps_cons (step_go rfl fun ev w1 hC kn => ?_) ?_
          · have e1 : ev (.tmp 5) = .int .i64 k := kn.out 5 rfl rfl rfl
            exact good_of (v := .int .i64 k) rfl (by simp [execOp, e1, kn.con, go_sem]) hC trivial rfl
          refine steps_cons (step_go rfl fun ev w1 hC kn => ?_) ?_
          · have e1 : ev (.tmp 16) = .slice (some ⟨b1, o1, none⟩) N c := kn.inn 16 rfl rfl
            have e2 : ev (.tmp 17) = .int .i64 k := kn.inn 17 rfl rfl
            exact good_of (v := .pointer (some ⟨b1, o1 + k, none⟩)) rfl (by simp [execOp, e1, e2, kn.con, go_sem, bj, bm]) hC trivial rfl
          refine steps_cons (step_go rfl fun ev w1 hC kn => ?_) ?_
          · have e1 : ev (.tmp 18) = .pointer (some ⟨b1, o1 + k, none⟩) := kn.inn 18 rfl rfl
            obtain ⟨nn, rfl⟩ := hC
            exact good_of (v := .int .i64 (f k)) rfl (by simp [execOp, e1, go_sem, m1]) ⟨nn, rfl⟩ trivial rfl
          refine steps_cons (step_go rfl fun ev w1 hC kn => ?_) ?_
          · have e1 : ev (.tmp 1) = .slice (some ⟨b2, o2, none⟩) N c' := kn.out 1 rfl rfl rfl
            exact good_of (v := .slice (some ⟨b2, o2, none⟩) N c') rfl (by simp [execOp, e1, kn.con, go_sem]) hC trivial rfl
          refine steps_cons (step_go rfl fun ev w1 hC kn => ?_) ?_
          · have e1 : ev (.tmp 5) = .int .i64 k := kn.out 5 rfl rfl rfl
            exact good_of (v := .int .i64 k) rfl (by simp [execOp, e1, kn.con, go_sem]) hC trivial rfl
          refine steps_cons (step_go rfl fun ev w1 hC kn => ?_) ?_
          · have e1 : ev (.tmp 20) = .slice (some ⟨b2, o2, none⟩) N c' := kn.inn 20 rfl rfl
            have e2 : ev (.tmp 21) = .int .i64 k := kn.inn 21 rfl rfl
            exact good_of (v := .pointer (some ⟨b2, o2 + k, none⟩)) rfl (by simp [execOp, e1, e2, kn.con, go_sem, bj, bm]) hC trivial rfl
          refine steps_cons (step_go rfl fun ev w1 hC kn => ?_) ?_
          · have e1 : ev (.tmp 22) = .pointer (some ⟨b2, o2 + k, none⟩) := kn.inn 22 rfl rfl
            obtain ⟨nn, rfl⟩ := hC
            exact good_of (v := .int .i64 (f' k)) rfl (by simp [execOp, e1, go_sem, m2]) ⟨nn, rfl⟩ trivial rfl
          refine steps_cons (step_go rfl fun ev w1 hC kn => ?_) ?_
          · have e1 : ev (.tmp 19) = .int .i64 (f k) := kn.inn 19 rfl rfl
            have e2 : ev (.tmp 23) = .int .i64 (f' k) := kn.inn 23 rfl rfl
            exact good_of (v := .bool (f k != f' k)) rfl (by simp [execOp, e1, e2, kn.con, go_sem]) hC trivial rfl
          exact steps_nil
        rintro xv w1 hxv hC
        have y24 : xv 24 = .bool (f k != f' k) := hxv 24 (by decide)
        obtain ⟨n, rfl⟩ := hC
        simp only [fill, dstsOf, List.filterMap_cons, List.filterMap_nil, List.foldl_cons, List.foldl_nil, List.set_cons_succ, List.set_cons_zero, y24]
        clear hxv y24
        cases hv : (f k != f' k)
        · have HV := Lib.hid hv
          clear hv
          go_wp2_with fail
          go_roundw
          case rel => exact ⟨k + 1, q + n, by omega, by go_num, Lib.hid (fun j hj => by
            by_cases hjk : j < k
            · exact hq.out j hjk
            · obtain rfl : j = k := by omega
              exact HV.out), by rw [← hW1]; simp⟩
          case measure => simp [intOf]; omega
        · have HV := Lib.hid hv
          clear hv
          go_wp2_with fail
          go_ret
          exact ⟨bool_eq (by rw [HR.out, anyTo_true (q := fun i => f i != f' i) (P := fun i : Nat => i) (i := k) hlt HV.out]; simp), q + n, by rw [← hW1]; simp⟩
      · obtain rfl : k = N := by omega
        go_wp2_with fail
        go_ret
        exact ⟨bool_eq (by rw [HR.out, (anyTo_false (q := fun i => f i != f' i) (P := fun i : Nat => i)).2 hq.out]; simp), q, rfl⟩
  · have h1 : ((n : Int) != n') = true := by simp; omega
    go_enter Tryz.func53, Tryz.ntmps53
    go_wp2_with fail
    go_ret
    exact ⟨bool_eq (by rw [HR.out]; simp [hnn]), 0, rfl⟩

set_option maxRecDepth 100000 in
set_option maxHeartbeats 400000 in
theorem eqIS_any (n n' : Nat) (f f' : Nat → Int) (v u : Value) (w : World) (hv : ISl w v n f) (hu : ISl w u n' f') :
    Calls Tryz.prog 12 #[v, u] w fun e w' => e = .returned (.bool (sameIL n n' f f')) ∧ ∃ q, w' = w.drewN q := by
  obtain ⟨a, c, rfl, hc1, hc2, hcell⟩ := hv
  obtain ⟨a', c', rfl, hc1', hc2', hcell'⟩ := hu
  unfold maxLen at hc2 hc2'
  have HC := Lib.hid hcell
  have HC' := Lib.hid hcell'
  clear hcell hcell'
  have bn : (n : Int) ≤ 9223372036854775807 := by omega
  have bn' : (n' : Int) ≤ 9223372036854775807 := by omega
  obtain ⟨R, hR⟩ : ∃ R, R = sameIL n n' f f' := ⟨_, rfl⟩
  rw [← hR]
  unfold sameIL at hR
  have HR := Lib.hid hR
  clear hR
  by_cases hnn : n = n'
  · subst hnn
    obtain ⟨N, hN⟩ : ∃ N, N = n := ⟨_, rfl⟩
    subst hN
    go_enter Tryz.func12, Tryz.ntmps12
    go_upto_region 4 with fail
    go_loopw [5] (fun i wr => ∃ k q : Nat, k ≤ N ∧ i = .int .i64 k ∧ Hid (∀ j, j < k → (f j != f' j) = false) ∧ wr = w.drewN q) (fun i _ => N - (intOf i).toNat)
    case atStart => exact ⟨0, 0, by omega, rfl, Lib.hid (fun j hj => by omega), rfl⟩
    case round =>
      obtain ⟨k, q, hk, rfl, hq, rfl⟩ := hrel
      by_cases hlt : k < N
      · obtain ⟨b1, o1, rfl, lg, hcell⟩ := HC.out.resolve_left (by omega)
        obtain ⟨b2, o2, rfl, lg', hcell'⟩ := HC'.out.resolve_left (by omega)
        have m1 : (w.drewN q).cell? ⟨b1, o1 + k, none⟩ = some (.int .i64 (f k)) := hcell k hlt
        have m2 : (w.drewN q).cell? ⟨b2, o2 + k, none⟩ = some (.int .i64 (f' k)) := hcell' k hlt
        have bj : (0 : Int) ≤ k := by omega
        have bm : (k : Int) < N := by omega
        clear hcell hcell'
        go_upto_region 6 with fail
        generalize hW1 : w.drewN q = W1 at *
        refine wp_loose (C := fun w' => ∃ n, w' = W1.drewN n) (R := fun _ _ => True) (F := fun _ dd vv => match dd, vv with
          | 17, vv => vv = .slice (some ⟨b1, o1, none⟩) N c
          | 18, vv => vv = .int .i64 k
          | 19, vv => vv = .pointer (some ⟨b1, o1 + k, none⟩)
          | 20, vv => vv = .int .i64 (f k)
          | 21, vv => vv = .slice (some ⟨b2, o2, none⟩) N c'
          | 22, vv => vv = .int .i64 k
          | 23, vv => vv = .pointer (some ⟨b2, o2 + k, none⟩)
          | 24, vv => vv = .int .i64 (f' k)
          | 25, vv => vv = .bool (f k != f' k)
          | _, _ => True) (fun _ _ _ _ _ h => h) (by kernel_rfl) (by kernel_rfl) (by kernel_rfl) ⟨1, rfl⟩ ?_ ?_
        · refine steps_cons (step_go rfl fun ev w1 hC kn => ?_) ?_
          · have e1 : ev (.tmp 0) = .slice (some ⟨b1, o1, none⟩) N c := kn.out 0 rfl rfl rfl
            exact good_of (v := .slice (some ⟨b1, o1, none⟩) N c) rfl (by simp [execOp, e1, kn.con, go_sem]) hC trivial rfl
          refine steps_cons (step_go rfl fun ev w1 hC kn => ?_) ?_
          · have e1 : ev (.tmp 5) = .int .i64 k := kn.out 5 rfl rfl rfl
            exact good_of (v := .int .i64 k) rfl (by simp [execOp, e1, kn.con, go_sem]) hC trivial rfl
          refine steps_cons (step_go rfl fun ev w1 hC kn => ?_) ?_
          · have e1 : ev (.tmp 17) = .slice (some ⟨b1, o1, none⟩) N c := kn.inn 17 rfl rfl
            have e2 : ev (.tmp 18) = .int .i64 k := kn.inn 18 rfl rfl
            exact good_of (v := .pointer (some ⟨b1, o1 + k, none⟩)) rfl (by simp [execOp, e1, e2, kn.con, go_sem, bj, bm]) hC trivial rfl
          refine steps_cons (step_go rfl fun ev w1 hC kn => ?_) ?_
          · have e1 : ev (.tmp 19) = .pointer (some ⟨b1, o1 + k, none⟩) := kn.inn 19 rfl rfl
            obtain ⟨nn, rfl⟩ := hC
            exact good_of (v := .int .i64 (f k)) rfl (by simp [execOp, e1, go_sem, m1]) ⟨nn, rfl⟩ trivial rfl
          refine steps_cons (step_go rfl fun ev w1 hC kn => ?_) ?_
          · have e1 : ev (.tmp 1) = .slice (some ⟨b2, o2, none⟩) N c' := kn.out 1 rfl rfl rfl
            exact good_of (v := .slice (some ⟨b2, o2, none⟩) N c') rfl (by simp [execOp, e1, kn.con, go_sem]) hC trivial rfl
          refine steps_cons (step_go rfl fun ev w1 hC kn => ?_) ?_
          · have e1 : ev (.tmp 5) = .int .i64 k := kn.out 5 rfl rfl rfl
            exact good_of (v := .int .i64 k) rfl (by simp [execOp, e1, kn.con, go_sem]) hC trivial rfl
          refine steps_cons (step_go rfl fun ev w1 hC kn => ?_) ?_
          · have e1 : ev (.tmp 21) = .slice (some ⟨b2, o2, none⟩) N c' := kn.inn 21 rfl rfl
            have e2 : ev (.tmp 22) = .int .i64 k := kn.inn 22 rfl rfl
            exact good_of (v := .pointer (some ⟨b2, o2 + k, none⟩)) rfl (by simp [execOp, e1, e2, kn.con, go_sem, bj, bm]) hC trivial rfl
          refine steps_cons (step_go rfl fun ev w1 hC kn => ?_) ?_
          · have e1 : ev (.tmp 23) = .pointer (some ⟨b2, o2 + k, none⟩) := kn.inn 23 rfl rfl
            obtain ⟨nn, rfl⟩ := hC
            exact good_of (v := .int .i64 (f' k)) rfl (by simp [execOp, e1, go_sem, m2]) ⟨nn, rfl⟩ trivial rfl
          refine steps_cons (step_go rfl fun ev w1 hC kn => ?_) ?_
          · have e1 : ev (.tmp 20) = .int .i64 (f k) := kn.inn 20 rfl rfl
            have e2 : ev (.tmp 24) = .int .i64 (f' k) := kn.inn 24 rfl rfl
            exact good_of (v := .bool (f k != f' k)) rfl (by simp [execOp, e1, e2, kn.con, go_sem]) hC trivial rfl
          exact steps_nil
        rintro xv w1 hxv hC
        have y25 : xv 25 = .bool (f k != f' k) := hxv 25 (by decide)
        obtain ⟨n, rfl⟩ := hC
        simp only [fill, dstsOf, List.filterMap_cons, List.filterMap_nil, List.foldl_cons, List.foldl_nil, List.set_cons_succ, List.set_cons_zero, y25]
        clear hxv y25
        cases hv : (f k != f' k)
        · have HV := Lib.hid hv
          clear hv
          go_wp2_with fail
          go_roundw
          case rel => exact ⟨k + 1, q + n, by omega, by go_num, Lib.hid (fun j hj => by
            by_cases hjk : j < k
            · exact hq.out j hjk
            · obtain rfl : j = k := by omega
              exact HV.out), by rw [← hW1]; simp⟩
          case measure => simp [intOf]; omega
        · have HV := Lib.hid hv
          clear hv
          go_wp2_with fail
          go_ret
          exact ⟨bool_eq (by rw [HR.out, anyTo_true (q := fun i => f i != f' i) (P := fun i : Nat => i) (i := k) hlt HV.out]; simp), q + n, by rw [← hW1]; simp⟩
      · obtain rfl : k = N := by omega
        go_wp2_with fail
        go_ret
        exact ⟨bool_eq (by rw [HR.out, (anyTo_false (q := fun i => f i != f' i) (P := fun i : Nat => i)).2 hq.out]; simp), q, rfl⟩
  · have h1 : ((n : Int) != n') = true := by simp; omega
    go_enter Tryz.func12, Tryz.ntmps12
    go_wp2_with fail
    go_ret
    exact ⟨bool_eq (by rw [HR.out]; simp [hnn]), 0, rfl⟩
end Go.Proofs.YtokdpmpgonafmaaGreat
/- CheckGrant, in the program and in the reference. -/
namespace Go.Proofs.YtokdpmpgonafmaaGreat
open Go.ChangeShapes Go.WideShapes Go.ChangeAt Go.RowKit
set_option linter.unusedVariables false
set_option linter.unusedSimpArgs false
attribute [local irreducible] Calls

def cgT (g : Gr) (n : Nat) (P : Nat → Wt) (m : Nat) (Q : Nat → Pm) (l : Nat) (f : Nat → Int) : Bool × Int :=
  if validP g n P m Q then (sameIL (grantTo (grK g n P Q) m).length l (fun i => ((grantTo (grK g n P Q) m).getD i 0 : Nat)) f, 0) else (false, 1)
theorem ils_at (L : List Nat) : ∀ i, i < L.length → (ils L)[i]? = some (.int .i64 ((L.getD i 0 : Nat) : Int)) := fun i hi => by
  rw [ils_get L i L[i] (List.getElem?_eq_getElem hi)]
  simp [List.getD_eq_getElem?_getD, List.getElem?_eq_getElem hi]

set_option maxRecDepth 100000 in
set_option maxHeartbeats 400000 in
theorem checkGrant_any (g : Gr) (v u y : Value) (n m l : Nat) (P : Nat → Wt) (Q : Nat → Pm) (f : Nat → Int) (hg : g.ok) (hP : ∀ i, i < n → (P i).ok) (hQ : ∀ i, i < m → (Q i).ok) (w : World) (hv : WSl w v n P) (hu : PSl w u m Q) (hy : ISl w y l f) :
    Calls Tryz.prog 26 #[.agg (ofc g v), u, y] w fun e w' => e = .returned (.tuple #[.bool (cgT g n P m Q l f).1, .int .i64 (cgT g n P m Q l f).2]) ∧ Below w.heap.size w w' := by
  obtain ⟨R, hR⟩ : ∃ R, R = (cgT g n P m Q l f).1 := ⟨_, rfl⟩
  obtain ⟨V, hV⟩ : ∃ V, V = (cgT g n P m Q l f).2 := ⟨_, rfl⟩
  rw [← hR, ← hV]
  unfold cgT at hR hV
  obtain ⟨a, c, rfl, hform⟩ := id hu
  obtain ⟨a2, c2, rfl, hform2⟩ := id hy
  clear hform hform2
  go_enter Tryz.func26, Tryz.ntmps26
  go_upto_region 1 with (refine wpList_box_as rfl rfl rfl ?_)
  have hA := Blk.new w (ofc g v) 42
  have hbel := below1 w (.cells (ofc g v) 42)
  generalize w.alloc (.cells (ofc g v) 42) = W at *
  have lA := hA.lt
  have hu := hu.below hbel
  have hv := hv.below hbel
  have hy := hy.below hbel
  have hvp := validPermits_any g v _ n m P Q hg hP hQ W hv hu
  cases hvd : validP g n P m Q <;> rw [hvd] at hvp hR hV
  · have HF := Lib.hid (And.intro hR hV)
    clear hR hV hvd
    go_wp2_with (first | (refine wpList_load_blk rfl rfl rfl row76 hA (ofc_size _ _) ?_) | (go_at_call 50; refine hvp.mono ?_; rintro e w2 ⟨rfl, hb2⟩; have hA2 := hA.below hb2 lA))
    go_ret2
    exact ⟨by rw [HF.out.1, HF.out.2]; rfl, hbel.trans (hb2.mono hbel.size)⟩
  · have HF := Lib.hid (And.intro hR hV)
    obtain ⟨hvg, hvo, hci, hm6, _⟩ := validP_use hvd
    have hke := fun w' (h1 : Blk w' w.heap.size (ofc g v) 42) h2 (h3 : PSl w' (.slice a m c) m Q) => inOrder_any g w.heap.size v _ n m P Q hg hvg hci (validO_watch hvo) hm6 w' h1 h2 h3
    clear hR hV hvd
    generalize grantTo (grK g n P Q) m = L at *
    have hsm := fun x w' (h1 : ISl w' x L.length (fun i => ((L.getD i 0 : Nat) : Int))) (h2 : ISl w' (.slice a2 l c2) l f) => equal_any L.length l _ f x _ w' h1 h2
    generalize sameIL L.length l (fun i => ((L.getD i 0 : Nat) : Int)) f = S at *
    go_wp2_with (first | (refine wpList_load_blk rfl rfl rfl row76 hA (ofc_size _ _) ?_) | (go_at_call 50; refine hvp.mono ?_; rintro e w2 ⟨rfl, hb2⟩; have hA2 := hA.below hb2 lA) | (go_at_call 51; refine (hke _ hA2 (hv.below hb2) (hu.below hb2)).mono ?_; rintro e w3 ⟨x, r, rfl, hr, hx, hb3⟩; have hy3 := (hy.below hb2).below hb3) | (go_at_call 53; refine (hsm _ _ (hx.isl (ils_at L)) hy3).mono ?_; rintro e w4 ⟨rfl, q4, rfl⟩))
    have hbel2 := hbel.trans (hb2.mono hbel.size)
    go_ret2
    exact ⟨by rw [HF.out.1, HF.out.2]; rfl, below_drewN (hbel2.trans (hb3.mono hbel2.size)) _⟩

end Go.Proofs.YtokdpmpgonafmaaGreat
