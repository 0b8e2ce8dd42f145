import Derived.Test.YtokdpmpgonafmaaGreatMG05
import Derived.IntWalk
import Derived.Test.YtokdpmpgonafmaaGreatMG21
import Derived.OwnWalk
import Derived.Deep.Strs
import Derived.Test.YtokdpmpgonafmaaGreatMG19
import Derived.Test.YtokdpmpgonafmaaGreatMG08
/- The permits' rates, scaled; marks that a caller leaves in a list: the walks that FnExactScaledPermits needs. -/
namespace Go.Proofs.YtokdpmpgonafmaaGreat
open Go.ChangeShapes Go.WideShapes Go.ChangeAt Go.RowKit
set_option linter.unusedVariables false

theorem Own.setCell {w : World} {g : Nat} {e : TypeId} {s : Nat} {v : Value} {n : Nat} {xs : List Value} (h : Own w g e s v n xs) (j : Nat) (u : Value) : Own (w.setCell ⟨g, j, none⟩ u) g e s v n (xs.set j u) := by
  obtain ⟨h1, cap, cur, rfl, hb, h2, h3, h4, h5⟩ := h
  refine ⟨by simpa using h1, cap, _, rfl, hb.setCell j u, h2, h3, by simpa using h4, ?_⟩
  have hle : n * s ≤ cur.size := by rw [h4]; exact Nat.mul_le_mul_right s h2
  rw [Array.toList_setIfInBounds, ← h5]
  apply List.ext_getElem?
  intro i
  simp only [List.getElem?_take, List.getElem?_set, List.length_take, Array.length_toList]
  by_cases hi : i < n * s
  · by_cases hj : j = i
    · subst hj; simp [hi, show j < cur.size by omega]; omega
    · simp [hi, hj]
  · by_cases hj : j = i
    · subst hj; simp [hi]; omega
    · simp [hi, hj]
theorem own_full {w : World} {g : Nat} {e : TypeId} {s n : Nat} {xs : List Value} (h : Own w g e s (.slice (some ⟨g, 0, none⟩) n n) n xs) : Blk w g xs.toArray e := by
  obtain ⟨h1, cap, cur, hv, hb, h2, h3, h4, h5⟩ := h
  have hc : cap = n := by injection hv with _ _ h; exact h.symm
  subst hc
  rw [← h5, List.take_of_length_le (by simp [h4])]
  exact hb

/-- P with another permit at i. -/
def updP (P : Nat → Pm) (i : Nat) (p : Pm) : Nat → Pm := fun j => if j = i then p else P j
theorem updP_same (P : Nat → Pm) (i : Nat) (p : Pm) : updP P i p i = p := by simp [updP]
theorem updP_other (P : Nat → Pm) (i : Nat) (p : Pm) (j : Nat) (h : j ≠ i) : updP P i p j = P j := by simp [updP, h]
theorem pls_set (n : Nat) (P : Nat → Pm) (i c : Nat) (u : Value) (p : Pm) (hi : i < n) (hc : c < 3) (hp : (P i).cells.toList.set c u = p.cells.toList) : (pls n P).set (i * 3 + c) u = pls n (updP P i p) := by
  apply List.ext_getElem?
  intro j
  by_cases hj : j < n * 3
  · obtain ⟨k, d, hd, rfl⟩ : ∃ k d, d < 3 ∧ j = k * 3 + d := ⟨j / 3, j % 3, Nat.mod_lt _ (by decide), by omega⟩
    have hk : k < n := by omega
    rw [pls_get n _ k d hk hd, List.getElem?_set, pls_length]
    by_cases hki : k = i
    · subst hki
      rw [updP_same]
      have := congrArg (fun l : List Value => l[d]?) hp
      simp only [List.getElem?_set, Array.getElem?_toList, Array.length_toList, Pm.cells_size] at this
      rw [← this]
      by_cases hcd : c = d
      · subst hcd; simp [hc, hj]
      · rw [if_neg (by omega), if_neg hcd, pls_get n P k d hk hd]
    · rw [updP_other P i p k hki, if_neg (by omega), pls_get n P k d hk hd]
  · rw [List.getElem?_eq_none (by simp [pls_length]; omega), List.getElem?_eq_none (by simp [pls_length]; omega)]

/-- Nothing but block g has turned. -/
structure Only (g : Nat) (w w' : World) : Prop where
  os : w'.os = w.os
  tape : w'.tape = w.tape
  output : w'.output = w.output
  size : w'.heap.size = w.heap.size
  block : ∀ b, b ≠ g → w'.heap[b]? = w.heap[b]?
theorem Only.refl (g : Nat) (w : World) : Only g w w := ⟨rfl, rfl, rfl, rfl, fun _ _ => rfl⟩
theorem Only.setCell {g : Nat} {w w' : World} (h : Only g w w') (j : Nat) (u : Value) : Only g w (w'.setCell ⟨g, j, none⟩ u) :=
  ⟨h.os, h.tape, h.output, by rw [← h.size]; simp [World.setCell], fun b hb => (heap_setCell_other w' ⟨g, j, none⟩ b u hb).trans (h.block b hb)⟩
theorem Only.drew {g : Nat} {w w' : World} (h : Only g w w') : Only g w w'.drew := ⟨h.os, h.tape, h.output, h.size, h.block⟩
theorem Only.drewN {g : Nat} {w w' : World} (h : Only g w w') (k : Nat) : Only g w (w'.drewN k) := ⟨h.os, h.tape, h.output, h.size, h.block⟩
theorem below_only {B g : Nat} {w0 w w' : World} (h : Below B w0 w) (ho : Only g w w') (hg : B ≤ g) : Below B w0 w' :=
  ⟨ho.os.trans h.os, ho.tape.trans h.tape, ho.output.trans h.output, by rw [ho.size]; exact h.size, fun b hb => (ho.block b (by omega)).trans (h.block b hb)⟩

/-- A list of permits that a call has made, or none. -/
def Res (w : World) (g : Nat) (v : Value) (n : Nat) (P : Nat → Pm) : Prop := (n = 0 ∧ ∃ a cap, v = .slice a 0 cap ∧ cap ≤ maxLen) ∨ Own w g 64 3 v n (pls n P)
theorem Res.psl {w : World} {g : Nat} {v : Value} {n : Nat} {P : Nat → Pm} (h : Res w g v n P) : PSl w v n P := by
  rcases h with ⟨rfl, a, cap, rfl, h⟩ | h
  · exact ⟨a, cap, rfl, Nat.zero_le _, h, .inl rfl⟩
  · exact h.psl
theorem Res.below {w w' : World} {g : Nat} {v : Value} {n : Nat} {P : Nat → Pm} (h : Res w g v n P) (hb : Below w.heap.size w w') : Res w' g v n P := by
  rcases h with h | h
  · exact .inl h
  · exact .inr (h.below hb h.lt)
theorem Res.only {w w' : World} {g k : Nat} {v : Value} {n : Nat} {P : Nat → Pm} (h : Res w g v n P) (hb : Only k w w') (hk : n = 0 ∨ g ≠ k) : Res w' g v n P := by
  rcases h with h | h
  · exact .inl h
  · rcases hk with rfl | hk
    · obtain ⟨cap, rfl, _, hc⟩ := h.form
      exact .inl ⟨rfl, _, cap, rfl, hc⟩
    · exact .inr (h.move (hb.block g hk))
theorem Res.ne {w : World} {g : Nat} {v : Value} {n : Nat} {P : Nat → Pm} (h : Res w g v n P) {k : Nat} (hk : w.heap.size ≤ k) : n = 0 ∨ g ≠ k := by
  rcases h with h | h
  · exact .inl h.1
  · have := h.lt; exact .inr (by omega)

/-- The marks that a list's cells get, from m on. -/
def markP (m : Int) (i : Nat) : Pm := ⟨IntKind.i8.wrap (m + 3 * i), IntKind.i8.wrap (m + 3 * i + 1), IntKind.i16.wrap (m + 3 * i + 2)⟩
/-- .. after k rounds. -/
def marked (m : Int) (P : Nat → Pm) (k : Nat) : Nat → Pm := fun i => if i < k then markP m i else P i

set_option maxRecDepth 100000 in
set_option maxHeartbeats 400000 in
theorem mark_any (n g : Nat) (P : Nat → Pm) (v : Value) (m : Int) (hm : 0 ≤ m ∧ m ≤ 1048576) (hn : n ≤ 1048576) (w : World) (hv : Res w g v n P) :
    Calls Tryz.prog 16 #[v, .int .i64 m] w fun e w' => e = .returned (.int .i64 (m + 3 * n)) ∧ Res w' g v n (markP m) ∧ Only g w w' := by
  rcases hv with ⟨rfl, a, cap, rfl, hc⟩ | hown
  · go_enter Tryz.func16, Tryz.ntmps16
    go_wp2_with fail
    go_loop [1, 5] (fun q i => q = .int .i64 m ∧ i = .int .i64 0) (fun _ _ => 0)
    case atStart => exact ⟨rfl, rfl⟩
    case round =>
      obtain ⟨rfl, rfl⟩ := hrel
      go_wp2_with fail
      go_ret
      exact ⟨by simp, .inl ⟨rfl, a, cap, rfl, hc⟩, Only.refl _ _⟩
  · obtain ⟨cap, rfl, hc1, hc2⟩ := hown.form
    unfold maxLen at hc2
    go_enter Tryz.func16, Tryz.ntmps16
    go_wp2_with fail
    go_loopw [1, 5] (fun q i wr => ∃ k : Nat, k ≤ n ∧ i = .int .i64 k ∧ q = .int .i64 (m + 3 * k) ∧ Own wr g 64 3 (.slice (some ⟨g, 0, none⟩) n cap) n (pls n (marked m P k)) ∧ Only g w wr) (fun _ i _ => n - (intOf i).toNat)
    case atStart => exact ⟨0, by omega, rfl, by simp, by rw [show marked m P 0 = P from funext fun i => by simp [marked]]; exact hown, Only.refl _ _⟩
    case round =>
      clear hown
      obtain ⟨k, hk, rfl, rfl, hown, honly⟩ := hrel
      by_cases hlt : k < n
      · have f0 := hown.free (k * 3)
        have f1 := fun u => (hown.setCell (k * 3) u).free (k * 3 + 1)
        have f2 := fun u u' => ((hown.setCell (k * 3) u).setCell (k * 3 + 1) u').free (k * 3 + 2)
        have bk : (0 : Int) ≤ k := by omega
        have bl : (k : Int) < n := by omega
        have hmk : marked m P k k = P k := by simp [marked]
        have e0 : wr.cell? ⟨g, k * 3, none⟩ = some (.int .i8 (P k).own) := by rw [hown.cell _ (by omega), show k * 3 = k * 3 + 0 from rfl, pls_get n _ k 0 hlt (by omega), hmk, Pm.get0]
        have e1 : wr.cell? ⟨g, k * 3 + 1, none⟩ = some (.int .i8 (P k).cel) := by rw [hown.cell _ (by omega), pls_get n _ k 1 hlt (by omega), hmk, Pm.get1]
        have e2 : wr.cell? ⟨g, k * 3 + 2, none⟩ = some (.int .i16 (P k).rat) := by rw [hown.cell _ (by omega), pls_get n _ k 2 hlt (by omega), hmk, Pm.get2]
        go_wp2_with fail
        go_roundw
        case rel =>
          refine ⟨k + 1, by omega, by go_num, by go_num, ?_, ((honly.setCell _ _).setCell _ _).setCell _ _⟩
          have hset := ((hown.setCell (k * 3) (.int .i8 (IntKind.i8.wrap (m + 3 * k)))).setCell (k * 3 + 1) (.int .i8 (IntKind.i8.wrap (m + 3 * k + 1)))).setCell (k * 3 + 2) (.int .i16 (IntKind.i16.wrap (m + 3 * k + 1 + 1)))
          rw [show k * 3 = k * 3 + 0 from rfl, pls_set n _ k 0 _ ⟨IntKind.i8.wrap (m + 3 * k), (P k).cel, (P k).rat⟩ hlt (by omega) (by rw [hmk, Pm.cells_eq, Pm.cells_eq]; rfl),
            pls_set n _ k 1 _ ⟨IntKind.i8.wrap (m + 3 * k), IntKind.i8.wrap (m + 3 * k + 1), (P k).rat⟩ hlt (by omega) (by rw [updP_same, Pm.cells_eq, Pm.cells_eq]; rfl),
            pls_set n _ k 2 _ (markP m k) hlt (by omega) (by rw [updP_same, Pm.cells_eq, Pm.cells_eq]; simp [markP]; congr 1; omega)] at hset
          rw [pls_congr (P' := marked m P (k + 1)) (fun i hi => by
            by_cases hik : i = k
            · subst hik; rw [updP_same]; simp [marked]
            · rw [updP_other _ _ _ _ hik, updP_other _ _ _ _ hik, updP_other _ _ _ _ hik]; simp only [marked, show i < k + 1 ↔ i < k by omega])] at hset
          exact hset
        case measure => simp [intOf]; omega
      · obtain rfl : k = n := by omega
        go_wp2_with fail
        go_ret
        exact ⟨rfl, .inr (by rw [pls_congr (P' := marked m P k) (fun i hi => by simp [marked, hi])]; exact hown), honly⟩
/-- The rate of a permit, scaled. -/
def scl (pc : Int) (p : Pm) : Pm := ⟨p.own, p.cel, p.rat * pc / 100⟩
def scaledTo (pc : Int) (P : Nat → Pm) (k : Nat) : Nat → Pm := fun i => if i < k then scl pc (P i) else P i
theorem elPm' : ElemTy Tryz.prog 44 64 3 4 := elPm

set_option maxRecDepth 100000 in
set_option maxHeartbeats 400000 in
theorem specScaled_any (n g : Nat) (P : Nat → Pm) (pc : Int) (hpc : 0 ≤ pc ∧ pc ≤ 100) (hP : ∀ i, i < n → 0 ≤ (P i).rat ∧ (P i).rat ≤ 400) (hn : n ≤ 6) (w : World) (hv : Own w g 64 3 (.slice (some ⟨g, 0, none⟩) n n) n (pls n P)) :
    Calls Tryz.prog 58 #[.slice (some ⟨g, 0, none⟩) n n, .int .i64 pc] w fun e w' => ∃ v r, e = .returned v ∧ w.heap.size ≤ r ∧ Res w' r v n (fun i => scl pc (P i)) ∧ Below w.heap.size w w' := by
  have HP := Lib.hid hP
  clear hP
  go_enter Tryz.func58, Tryz.ntmps58
  have hF := (own_full hv).alloc (.cells #[] 64)
  have hE : Own (w.alloc (.cells #[] 64)) w.heap.size 64 3 (.slice (some ⟨w.heap.size, 0, none⟩) 0 0) 0 [] := own_blk (Blk.new _ _ _) rfl (by decide) rfl
  have hbel := below1 w (.cells #[] 64)
  go_wp2_with (at_builtin; refine wpList_app elPm rfl rfl rfl rfl (by decide) hE hF (by simp [pls_length]) ?_ ?_ ?_ ?_; (· intro u hu; exact pls_one n P u (by simpa using hu)); (· unfold maxLen; omega); (· omega); intro v1 w1 g1 hown hgr hg1)
  simp only [Nat.zero_add, List.nil_append] at hown
  have hb1 : Below w.heap.size w w1 := hbel.grown hgr (by simp) (fun k hk => by injection hk with hk; omega)
  have hg1' : w.heap.size ≤ g1 := by simp at hg1; omega
  clear hF hE hbel hgr hg1 hv
  obtain ⟨cap, rfl, hc1, hc2⟩ := hown.form
  unfold maxLen at hc2
  go_loopw [6] (fun i wr => ∃ k : Nat, k ≤ n ∧ i = .int .i64 k ∧ Own wr g1 64 3 (.slice (some ⟨g1, 0, none⟩) n cap) n (pls n (scaledTo pc P k)) ∧ Below w.heap.size w wr) (fun i _ => n - (intOf i).toNat)
  case atStart => exact ⟨0, by omega, rfl, by rw [show scaledTo pc P 0 = P from funext fun i => by simp [scaledTo]]; exact hown, hb1⟩
  case round =>
    clear hown hb1
    obtain ⟨k, hk, rfl, hown, hbel⟩ := hrel
    by_cases hlt : k < n
    · have bk : (0 : Int) ≤ k := by omega
      have bl : (k : Int) < n := by omega
      have hmk : scaledTo pc P k k = P k := by simp [scaledTo]
      have e2 : wr.cell? ⟨g1, k * 3 + 2, none⟩ = some (.int .i16 (P k).rat) := by rw [hown.cell _ (by omega), pls_get n _ k 2 hlt (by omega), hmk, Pm.get2]
      have f2 := hown.free (k * 3 + 2)
      have ⟨r1, r2⟩ := HP.out k hlt
      have m1 : 0 ≤ (P k).rat * pc := Int.mul_nonneg r1 hpc.1
      have m2 : (P k).rat * pc ≤ 400 * 100 := Int.mul_le_mul r2 hpc.2 hpc.1 (by decide)
      go_wp2_with fail
      go_roundw
      case rel =>
        refine ⟨k + 1, by omega, by go_num, ?_, hbel.setCell (p := ⟨g1, k * 3 + 2, none⟩) hg1' _⟩
        have hset := hown.setCell (k * 3 + 2) (.int .i16 ((P k).rat * pc / 100))
        rw [pls_set n _ k 2 _ (scl pc (P k)) hlt (by omega) (by rw [hmk, Pm.cells_eq, Pm.cells_eq]; rfl)] at hset
        rw [pls_congr (P' := scaledTo pc P (k + 1)) (fun i hi => by
          by_cases hik : i = k
          · subst hik; rw [updP_same]; simp [scaledTo]
          · rw [updP_other _ _ _ _ hik]; simp only [scaledTo, show i < k + 1 ↔ i < k by omega])] at hset
        exact hset
      case measure => simp [intOf]; omega
    · obtain rfl : k = n := by omega
      go_wp2_with fail
      go_ret
      exact ⟨_, g1, rfl, hg1', .inr (by rw [pls_congr (P' := scaledTo pc P k) (fun i hi => by simp [scaledTo, hi])]; exact hown), hbel⟩

set_option maxRecDepth 100000 in
set_option maxHeartbeats 400000 in
theorem clone_any (n g : Nat) (P : Nat → Pm) (hn : n ≤ 1048576) (w : World) (hv : Own w g 64 3 (.slice (some ⟨g, 0, none⟩) n n) n (pls n P)) :
    Calls Tryz.prog 80 #[.slice (some ⟨g, 0, none⟩) n n] w fun e w' => ∃ cap r, e = .returned (.slice (some ⟨r, 0, none⟩) n cap) ∧ w.heap.size ≤ r ∧ Own w' r 64 3 (.slice (some ⟨r, 0, none⟩) n cap) n (pls n P) ∧ Below w.heap.size w w' := by
  have he : ∀ w : World, (binOp .eql 44 (.slice (some ⟨g, 0, none⟩) n n) (.slice none 0 0)).run Tryz.prog w = .ok (.bool false) w := fun _ => rfl
  go_enter Tryz.func80, Tryz.ntmps80
  have hF := (own_full hv).alloc (.cells #[] 64)
  have hE : Own (w.alloc (.cells #[] 64)) w.heap.size 64 3 (.slice (some ⟨w.heap.size, 0, none⟩) 0 0) 0 [] := own_blk (Blk.new _ _ _) rfl (by decide) rfl
  have hbel := below1 w (.cells #[] 64)
  go_wp2_with (at_builtin; refine wpList_app elPm rfl rfl rfl rfl (by decide) hE hF (by simp [pls_length]) ?_ ?_ ?_ ?_; (· intro u hu; exact pls_one n P u (by simpa using hu)); (· unfold maxLen; omega); (· omega); intro v1 w1 g1 hown hgr hg1)
  simp only [Nat.zero_add, List.nil_append] at hown
  obtain ⟨cap, rfl, hc1, hc2⟩ := hown.form
  go_ret
  exact ⟨cap, g1, rfl, by simp at hg1; omega, hown, hbel.grown hgr (by simp) (fun k hk => by injection hk with hk; omega)⟩

set_option maxRecDepth 100000 in
set_option maxHeartbeats 400000 in
theorem scaled_any (n g : Nat) (P : Nat → Pm) (pc : Int) (hpc : 0 ≤ pc ∧ pc ≤ 100) (hP : ∀ i, i < n → 0 ≤ (P i).rat ∧ (P i).rat ≤ 400) (hn : n ≤ 6) (w : World) (hv : Own w g 64 3 (.slice (some ⟨g, 0, none⟩) n n) n (pls n P)) :
    Calls Tryz.prog 56 #[.slice (some ⟨g, 0, none⟩) n n, .int .i64 pc] w fun e w' => ∃ v r, e = .returned v ∧ w.heap.size ≤ r ∧ Res w' r v n (fun i => scl pc (P i)) ∧ Below w.heap.size w w' := by
  have HP := Lib.hid hP
  clear hP
  have hcl := clone_any n g P (by omega) w hv
  go_enter Tryz.func56, Tryz.ntmps56
  go_wp2_with (go_at_call 80; refine hcl.mono ?_; rintro e w1 ⟨cap, g1, rfl, hg1', hown, hb1⟩)
  clear hcl hv
  obtain ⟨cap', hcap, hc1, hc2⟩ := hown.form
  have hcc : cap = cap' := by injection hcap
  subst hcc
  unfold maxLen at hc2
  go_loopw [11] (fun i wr => ∃ k : Nat, k ≤ n ∧ i = .int .i64 k ∧ Own wr g1 64 3 (.slice (some ⟨g1, 0, none⟩) n cap) n (pls n (scaledTo pc P k)) ∧ Below w.heap.size w wr) (fun i _ => n - (intOf i).toNat)
  case atStart => exact ⟨0, by omega, rfl, by rw [show scaledTo pc P 0 = P from funext fun i => by simp [scaledTo]]; exact hown, hb1⟩
  case round =>
    clear hown hb1
    obtain ⟨k, hk, rfl, hown, hbel⟩ := hrel
    by_cases hlt : k < n
    · have bk : (0 : Int) ≤ k := by omega
      have bl : (k : Int) < n := by omega
      have hmk : scaledTo pc P k k = P k := by simp [scaledTo]
      have e2 : wr.cell? ⟨g1, k * 3 + 2, none⟩ = some (.int .i16 (P k).rat) := by rw [hown.cell _ (by omega), pls_get n _ k 2 hlt (by omega), hmk, Pm.get2]
      have f2 := hown.free (k * 3 + 2)
      have ⟨r1, r2⟩ := HP.out k hlt
      have m1 : 0 ≤ (P k).rat * pc := Int.mul_nonneg r1 hpc.1
      have m2 : (P k).rat * pc ≤ 400 * 100 := Int.mul_le_mul r2 hpc.2 hpc.1 (by decide)
      go_wp2_with fail
      go_roundw
      case rel =>
        refine ⟨k + 1, by omega, by go_num, ?_, hbel.setCell (p := ⟨g1, k * 3 + 2, none⟩) hg1' _⟩
        have hset := hown.setCell (k * 3 + 2) (.int .i16 ((P k).rat * pc / 100))
        rw [pls_set n _ k 2 _ (scl pc (P k)) hlt (by omega) (by rw [hmk, Pm.cells_eq, Pm.cells_eq]; rfl)] at hset
        rw [pls_congr (P' := scaledTo pc P (k + 1)) (fun i hi => by
          by_cases hik : i = k
          · subst hik; rw [updP_same]; simp [scaledTo]
          · rw [updP_other _ _ _ _ hik]; simp only [scaledTo, show i < k + 1 ↔ i < k by omega])] at hset
        exact hset
      case measure => simp [intOf]; omega
    · obtain rfl : k = n := by omega
      go_wp2_with fail
      go_ret
      exact ⟨_, g1, rfl, hg1', .inr (by rw [pls_congr (P' := scaledTo pc P k) (fun i hi => by simp [scaledTo, hi])]; exact hown), hbel⟩

/-- What both functions return: how many permits, which, and the code. -/
def scN (n : Nat) (P : Nat → Pm) (pc : Int) : Nat := if ratesAre n P && (decide (0 ≤ pc) && decide (pc ≤ 100)) then n else 0
def scC (n : Nat) (P : Nat → Pm) (pc : Int) : Int := if ratesAre n P then (if decide (0 ≤ pc) && decide (pc ≤ 100) then 0 else 2) else 1
theorem rates_bd {n : Nat} {P : Nat → Pm} (h : ratesAre n P = true) : n ≤ 6 ∧ ∀ i, i < n → 0 ≤ (P i).rat ∧ (P i).rat ≤ 400 := by
  simp [ratesAre] at h
  refine ⟨h.1, fun i hi => ?_⟩
  have h2 := anyTo_false.1 h.2 i hi
  simp [badRate] at h2
  omega

set_option maxRecDepth 100000 in
set_option maxHeartbeats 400000 in
theorem scaledPermits_any (n g : Nat) (P : Nat → Pm) (hP : ∀ i, i < n → (P i).ok) (pc : Int) (w : World) (hv : Own w g 64 3 (.slice (some ⟨g, 0, none⟩) n n) n (pls n P)) :
    Calls Tryz.prog 31 #[.slice (some ⟨g, 0, none⟩) n n, .int .i64 pc] w fun e w' => ∃ v, e = .returned (.tuple #[v, .int .i64 (scC n P pc)]) ∧ ∃ r, w.heap.size ≤ r ∧ Res w' r v (scN n P pc) (fun i => scl pc (P i)) ∧ Below w.heap.size w w' := by
  have hr := ratesOk_any n P hP _ w hv.psl
  have hlt := hv.lt
  unfold scN scC
  cases hR : ratesAre n P
  · rw [hR] at hr
    go_enter Tryz.func31, Tryz.ntmps31
    go_wp2_with (go_at_call 59; refine hr.mono ?_; rintro e w1 ⟨rfl, hb1⟩)
    go_ret2
    exact ⟨_, rfl, w.heap.size, Nat.le_refl _, .inl ⟨rfl, _, _, rfl, by decide⟩, hb1⟩
  · rw [hR] at hr
    obtain ⟨hn, hbd⟩ := rates_bd hR
    cases hq : (decide (0 ≤ pc) && decide (pc ≤ 100))
    · go_enter Tryz.func31, Tryz.ntmps31
      go_wp2_with (first | (go_at_call 59; refine hr.mono ?_; rintro e w1 ⟨rfl, hb1⟩) | (go_at_call 60; refine (in_any _ _ _ _).mono ?_; rw [hq]; rintro e w2 ⟨rfl, hw⟩; rw [hw]; clear hw w2))
      go_ret2
      exact ⟨_, rfl, w.heap.size, Nat.le_refl _, .inl ⟨rfl, _, _, rfl, by decide⟩, hb1⟩
    · have hsc := fun w' hb => scaled_any n g P pc (by simp at hq; exact hq) hbd hn w' (hv.below (B := w.heap.size) hb hlt)
      go_enter Tryz.func31, Tryz.ntmps31
      go_wp2_with (first | (go_at_call 59; refine hr.mono ?_; rintro e w1 ⟨rfl, hb1⟩) | (go_at_call 60; refine (in_any _ _ _ _).mono ?_; rw [hq]; rintro e w2 ⟨rfl, hw⟩; rw [hw]; clear hw w2) | (go_at_call 56; refine (hsc _ hb1).mono ?_; rintro e w3 ⟨v1, r1, rfl, h1, h2, h3⟩))
      go_ret2
      exact ⟨_, rfl, r1, Nat.le_trans hb1.size h1, by simpa using h2, hb1.trans (h3.mono hb1.size)⟩
end Go.Proofs.YtokdpmpgonafmaaGreat
/- LevelsWith, in the program and in the reference; lists that a call has made, or none. -/
namespace Go.Proofs.YtokdpmpgonafmaaGreat
open Go.ChangeShapes Go.WideShapes Go.ChangeAt Go.RowKit
set_option linter.unusedVariables false
set_option linter.unusedSimpArgs false
attribute [local irreducible] Calls

/-- A list of single cells that a call has made, or none. -/
def Rs (e : TypeId) (w : World) (g : Nat) (v : Value) (n : Nat) (xs : List Value) : Prop := (n = 0 ∧ ∃ a cap, v = .slice a 0 cap ∧ cap ≤ maxLen) ∨ Own w g e 1 v n xs
theorem Rs.form {e : TypeId} {w : World} {g : Nat} {v : Value} {n : Nat} {xs : List Value} (h : Rs e w g v n xs) : ∃ a cap, v = .slice a n cap ∧ n ≤ cap ∧ cap ≤ maxLen ∧ (n = 0 ∨ (a = some ⟨g, 0, none⟩ ∧ g < w.heap.size ∧ ∀ j, j < n → w.cell? ⟨g, j, none⟩ = xs[j]?)) := by
  rcases h with ⟨rfl, a, cap, rfl, h⟩ | h
  · exact ⟨a, cap, rfl, Nat.zero_le _, h, .inl rfl⟩
  · obtain ⟨cap, rfl, h1, h2⟩ := h.form
    exact ⟨_, cap, rfl, h1, h2, .inr ⟨rfl, h.lt, fun j hj => h.cell j (by omega)⟩⟩
theorem Rs.below {e : TypeId} {w w' : World} {g : Nat} {v : Value} {n : Nat} {xs : List Value} (h : Rs e w g v n xs) (hb : Below w.heap.size w w') : Rs e w' g v n xs := by
  rcases h with h | h
  · exact .inl h
  · exact .inr (h.below hb h.lt)
theorem Rs.only {e : TypeId} {w w' : World} {g k : Nat} {v : Value} {n : Nat} {xs : List Value} (h : Rs e w g v n xs) (hb : Only k w w') (hk : n = 0 ∨ g ≠ k) : Rs e w' g v n xs := by
  rcases h with h | h
  · exact .inl h
  · rcases hk with rfl | hk
    · obtain ⟨cap, rfl, _, hc⟩ := h.form
      exact .inl ⟨rfl, _, cap, rfl, hc⟩
    · exact .inr (h.move (hb.block g hk))
theorem Rs.ne {e : TypeId} {w : World} {g : Nat} {v : Value} {n : Nat} {xs : List Value} (h : Rs e w g v n xs) {k : Nat} (hk : w.heap.size ≤ k) : n = 0 ∨ g ≠ k := by
  rcases h with h | h
  · exact .inl h.1
  · have := h.lt; exact .inr (by omega)
def lvF (G : Gr) (P : Nat → Wt) (i : Nat) : Nat := G.hea (P i).cel.toNat
def lvN (g : Gr) (n : Nat) (P : Nat → Wt) (m : Nat) (Q : Nat → Pm) : Nat := if (gwT g n P m Q).2 = 0 then n else 0
theorem gwT_watch' {g : Gr} {n m : Nat} {P : Nat → Wt} {Q : Nat → Pm} (h : (gwT g n P m Q).2 = 0) : watchIn n P ∧ n ≤ 6 := by
  unfold gwT at h
  cases hv : validP g n P m Q
  · rw [hv] at h; simp at h
  · have h0 := (validP_use hv).2.1
    refine ⟨validO_watch h0, ?_⟩
    unfold validO at h0
    simp only [Bool.and_eq_true, decide_eq_true_eq] at h0
    exact h0.2.1

end Go.Proofs.YtokdpmpgonafmaaGreat
/- Permits that a caller hands in, opened. -/
namespace Go.Proofs.YtokdpmpgonafmaaGreat
open Go.ChangeShapes Go.WideShapes Go.ChangeAt Go.RowKit
set_option linter.unusedVariables false
theorem lt_of_cell {w : World} {a : Addr} {v : Value} (h : w.cell? a = some v) : a.block < w.heap.size := by
  unfold World.cell? at h
  by_cases hb : a.block < w.heap.size
  · exact hb
  · rw [Array.getElem?_eq_none (by omega)] at h; simp at h
section
variable {H : Type} {enc : TypeId × Value → H} {W : World} {r : Reach} {b0 : Nat}
set_option maxRecDepth 100000 in
theorem permit_of_trod {fuel : Nat} {cs : List Value} {x : DataW H × List MemPlace} (h : DataW.trod enc Tryz.prog W 0 (fun _ => true) true fuel 79 cs = some x) : ∃ p : Pm, p.ok ∧ cs = p.cells.toList := by
  obtain ⟨y0, y1, y2, n, _, hl, h0, h1, h2⟩ := Go.Deep.trod_struct3 Tryz.underlying79 h
  have hl' : cs.length = 3 := hl.trans (by kernel_rfl)
  match cs, hl' with
  | [v0, v1, v2], _ =>
    obtain ⟨q0, e0, _, w0⟩ := DataW.trod_int Tryz.underlying22 h0
    obtain ⟨q1, e1, _, w1⟩ := DataW.trod_int Tryz.underlying22 h1
    obtain ⟨q2, e2, _, w2⟩ := DataW.trod_int Tryz.underlying62 h2
    have c8 : Tryz.prog.cellsOf 22 = 1 := by kernel_rfl
    have c16 : Tryz.prog.cellsOf 62 = 1 := by kernel_rfl
    simp [c8] at e0 e1
    simp [c16] at e2
    subst e0 e1 e2
    refine ⟨⟨q0, q1, q2⟩, ?_, by rw [Pm.cells_eq]⟩
    simp [Lit.wf, IntKind.min, IntKind.max, IntKind.signed, IntKind.bits] at w0 w1 w2
    show (-128 ≤ q0 ∧ q0 ≤ 127) ∧ (-128 ≤ q1 ∧ q1 ≤ 127) ∧ (-32768 ≤ q2 ∧ q2 ≤ 32767)
    omega
set_option maxRecDepth 100000 in
theorem permits_of_trod {fuel : Nat} {v : Value} {x : DataW H × List MemPlace} (h : DataW.trod enc Tryz.prog W 0 (fun _ => true) true fuel 31 [v] = some x) : ∃ n P, PSl W v n P ∧ (∀ i, i < n → (P i).ok) ∧ n ≤ maxLen := by
  rcases Go.Deep.open_slice Tryz.underlying31 h with ⟨h1, _⟩ | ⟨a, len, cap, m, k, D, Pl, h1, _, hl, hm, hmm, _, hx⟩
  · obtain rfl : v = .slice none 0 0 := by simpa using h1
    exact ⟨0, fun _ => ⟨0, 0, 0⟩, ⟨none, 0, rfl, Nat.le_refl _, Nat.zero_le _, .inl rfl⟩, fun i hi => by omega, Nat.zero_le _⟩
  obtain rfl : v = .slice (some a) len cap := by simpa using h1
  have c3 : Tryz.prog.cellsOf 79 = 3 := by kernel_rfl
  have hlm : len ≤ m := by rw [hmm]; split <;> omega
  rw [c3] at hx
  letI : Inhabited Pm := ⟨⟨0, 0, 0⟩⟩
  obtain ⟨P, hP⟩ := Go.Deep.choose_lt (n := len) (p := fun i (p : Pm) => p.ok ∧ ∀ c, c < 3 → W.cell? ((a.add (i * 3)).add c) = p.cells[c]?) (fun i hi => by
    obtain ⟨cs', g1, g2⟩ := hx i (by omega)
    obtain ⟨p, hp, hcs⟩ := permit_of_trod g2
    obtain ⟨_, hlen, hcell⟩ := World.cells?_some g1
    refine ⟨p, hp, fun c hc => ?_⟩
    rw [hcell c hc, hcs]; simp)
  refine ⟨len, P, ⟨some a, cap, rfl, hl, hm, ?_⟩, fun i hi => (hP i hi).1, Nat.le_trans hl hm⟩
  by_cases h0 : len = 0
  · exact .inl h0
  · have hc0 := (hP 0 (by omega)).2 0 (by omega)
    rw [(P 0).get0] at hc0
    obtain ⟨b, o, spot⟩ := a
    have hspot : spot = none := by simpa [Addr.add] using World.cell?_spot hc0
    subst hspot
    refine .inr ⟨b, o, rfl, ?_, fun i c hi hc => ?_⟩
    · have := lt_of_cell hc0
      simpa [add_plain] using this
    · have := (hP i hi).2 c hc
      rwa [add_plain, add_plain] at this
set_option maxRecDepth 100000 in
theorem open_permits {v : Value} {d : DataW H} {ps : List MemPlace} (hval : Value.okWide Tryz.prog W r b0 31 v) (h : DataW.Trod enc Tryz.prog W 0 (fun _ => true) true 31 v d ps) : ∃ p : Nat × (Nat → Pm), PSl W v p.1 p.2 ∧ (∀ i, i < p.1 → (p.2 i).ok) ∧ p.1 ≤ maxLen := by
  obtain ⟨a, len, cap, rfl⟩ := okWide_slice Tryz.underlying31 hval
  obtain ⟨fuel, hf⟩ := h
  obtain ⟨n, P, h1⟩ := permits_of_trod hf
  exact ⟨(n, P), h1⟩
end
end Go.Proofs.YtokdpmpgonafmaaGreat
/- The law over ValidOffice: the walk through the law's own function; offices that a caller hands in, opened. -/
namespace Go.Proofs.YtokdpmpgonafmaaGreat
open Go.ChangeShapes Go.WideShapes Go.ChangeAt Go.RowKit
set_option linter.unusedVariables false
set_option linter.unusedSimpArgs false
attribute [local irreducible] Calls

set_option maxRecDepth 100000 in
set_option maxHeartbeats 400000 in
theorem eqOffice_same (g : Gr) (v u : Value) (n : Nat) (P : Nat → Wt) (w : World) (hv : WSl w v n P) (hu : WSl w u n P) :
    Calls Tryz.prog 13 #[.agg (ofc g v), .agg (ofc g u)] w fun e w' => e = .returned (.bool true) ∧ Below w.heap.size w w' := by
  obtain ⟨a, c, rfl, hf1⟩ := id hv
  obtain ⟨a', c', rfl, hf2⟩ := id hu
  clear hf1 hf2
  have heq := fun w' => eqGround_alike g g (GrEq.refl g) w'
  go_enter Tryz.func13, Tryz.ntmps13
  go_upto_region 1 with (refine wpList_box_as rfl rfl rfl ?_)
  have hA : Blk ((w.alloc (.cells (ofc g (.slice a n c)) 42)).alloc (.cells (ofc g (.slice a' n c')) 42)) w.heap.size (ofc g (.slice a n c)) 42 := (Blk.new _ _ _).alloc _
  have hB : Blk ((w.alloc (.cells (ofc g (.slice a n c)) 42)).alloc (.cells (ofc g (.slice a' n c')) 42)) (w.heap.size + 1) (ofc g (.slice a' n c')) 42 := Blk.new1 _ _ _ _
  have hbel := below2 w (.cells (ofc g (.slice a n c)) 42) (.cells (ofc g (.slice a' n c')) 42)
  generalize ((w.alloc (.cells (ofc g (.slice a n c)) 42)).alloc (.cells (ofc g (.slice a' n c')) 42)) = W at *
  have lA := hA.lt
  have lB := hB.lt
  go_upto_region 3 with (first
    | (refine wpList_load_part rfl rfl rfl row66 hA (by rw [ofc_size]; omega) ?_; rw [Nat.zero_add, ofc_ext])
    | (refine wpList_load_part rfl rfl rfl row66 hB (by rw [ofc_size]; omega) ?_; rw [Nat.zero_add, ofc_ext])
    | (go_at_call 41; refine (heq _).mono ?_; rintro e W1 ⟨rfl, hb1⟩))
  have cA : W1.cell? ⟨w.heap.size, 195, none⟩ = some (.slice a n c) := ((hA.below hb1 lA).cell _).trans (ofc_last _ _)
  have cB : W1.cell? ⟨w.heap.size + 1, 195, none⟩ = some (.slice a' n c') := ((hB.below hb1 lB).cell _).trans (ofc_last _ _)
  have hbel := hbel.trans (hb1.mono hbel.size)
  have hw := eqWatchS_same n P _ _ W1 (hv.below hbel) (hu.below hbel)
  go_wp2_with (go_at_call 42; refine hw.mono ?_; rintro e W2 ⟨rfl, hb2⟩)
  go_ret
  exact ⟨rfl, hbel.trans (hb2.mono hbel.size)⟩

end Go.Proofs.YtokdpmpgonafmaaGreat
