import Derived.Test.YtcojgmgoiopboaaGreatDoorMR06
import Derived.Test.YtcojgmgoiopboaaGreatDoorMR08
import Derived.IntWalk
/- Wells in memory: lists of them, marks that a caller leaves in a list. Plain laws and the walks of the law's own functions. -/
namespace Go.Proofs.YtcojgmgoiopboaaGreatDoor
open Go.ChangeShapes Go.WideShapes Go.ChangeAt Go.RowKit
set_option linter.unusedVariables false

/-- A well's place and the bits of its rate. -/
structure Wl where
  px : Int
  py : Int
  rt : Nat
@[irreducible] def Wl.cells (p : Wl) : Array Value := #[.int .i8 p.px, .int .i8 p.py, .float .f32 p.rt]
theorem Wl.cells_eq (p : Wl) : p.cells = #[.int .i8 p.px, .int .i8 p.py, .float .f32 p.rt] := by unfold Wl.cells; rfl
theorem Wl.cells_size (p : Wl) : p.cells.size = 3 := by rw [p.cells_eq]; rfl
theorem Wl.get0 (p : Wl) : p.cells[0]? = some (.int .i8 p.px) := by rw [p.cells_eq]; rfl
theorem Wl.get1 (p : Wl) : p.cells[1]? = some (.int .i8 p.py) := by rw [p.cells_eq]; rfl
theorem Wl.get2 (p : Wl) : p.cells[2]? = some (.float .f32 p.rt) := by rw [p.cells_eq]; rfl
theorem Wl.one (p : Wl) : ∀ v ∈ p.cells.toList, v.oneCell' = true := by
  intro v hv; rw [p.cells_eq] at hv; simp at hv; rcases hv with rfl | rfl | rfl <;> rfl
/-- n permits, one behind the other. -/
@[irreducible] def wls (n : Nat) (P : Nat → Wl) : List Value := (List.range n).flatMap fun i => (P i).cells.toList
theorem wls_zero (P : Nat → Wl) : wls 0 P = [] := by simp [wls]
theorem wls_succ (n : Nat) (P : Nat → Wl) : wls (n + 1) P = wls n P ++ (P n).cells.toList := by simp [wls, List.range_succ, List.flatMap_append]
theorem wls_length (n : Nat) (P : Nat → Wl) : (wls n P).length = n * 3 := by
  induction n with
  | zero => simp [wls_zero]
  | succ n ih => rw [wls_succ, List.length_append, ih]; simp [Wl.cells_size]; omega
theorem wls_congr {P P' : Nat → Wl} : ∀ {n : Nat}, (∀ i, i < n → P i = P' i) → wls n P = wls n P'
  | 0, _ => by rw [wls_zero, wls_zero]
  | n + 1, h => by rw [wls_succ, wls_succ, wls_congr (fun i hi => h i (by omega)), h n (by omega)]
theorem wls_get (n : Nat) (P : Nat → Wl) (i c : Nat) (h : i < n) (hc : c < 3) : (wls n P)[i * 3 + c]? = (P i).cells[c]? := by
  induction n with
  | zero => omega
  | succ n ih =>
    rw [wls_succ, List.getElem?_append, wls_length]
    by_cases hi : i < n
    · rw [if_pos (by omega), ih hi]
    · obtain rfl : i = n := by omega
      rw [if_neg (by omega), show i * 3 + c - i * 3 = c by omega]; simp
theorem wls_one (n : Nat) (P : Nat → Wl) : ∀ v ∈ wls n P, v.oneCell' = true := by
  intro v hv; unfold wls at hv; simp only [List.mem_flatMap] at hv; obtain ⟨i, _, hi⟩ := hv; exact (P i).one v hi
theorem wls_drop (n : Nat) (P : Nat → Wl) (k : Nat) (h : k < n) : ((wls n P).drop (k * 3)).take 3 = (P k).cells.toList := by
  apply List.ext_getElem?
  intro c
  rw [List.getElem?_take]
  by_cases hc : c < 3
  · rw [if_pos hc, List.getElem?_drop, wls_get n P k c h hc]; simp
  · rw [if_neg hc, List.getElem?_eq_none]; simp [Wl.cells_size]; omega

/-- The slice v holds n permits, P. -/
def WSl (w : World) (v : Value) (n : Nat) (P : Nat → Wl) : Prop :=
  ∃ a cap, v = .slice a n cap ∧ n ≤ cap ∧ cap ≤ maxLen ∧ (n = 0 ∨ ∃ b o, a = some ⟨b, o, none⟩ ∧ b < w.heap.size ∧ ∀ i c, i < n → c < 3 → w.cell? ⟨b, o + i * 3 + c, none⟩ = (P i).cells[c]?)
theorem WSl.below {w w' : World} {v : Value} {n : Nat} {P : Nat → Wl} (h : WSl w v n P) (hb : Below w.heap.size w w') : WSl w' v n P := by
  obtain ⟨a, cap, rfl, h1, h2, h3⟩ := h
  refine ⟨a, cap, rfl, h1, h2, ?_⟩
  rcases h3 with h3 | ⟨b, o, rfl, hlt, hc⟩
  · exact .inl h3
  · exact .inr ⟨b, o, rfl, Nat.lt_of_lt_of_le hlt hb.size, fun i c hi h3 => (hb.cell (p := ⟨b, _, none⟩) hlt).trans (hc i c hi h3)⟩
theorem Own.wsl {w : World} {g : Nat} {e : TypeId} {v : Value} {n : Nat} {P : Nat → Wl} (h : Own w g e 3 v n (wls n P)) : WSl w v n P := by
  obtain ⟨cap, rfl, h1, h2⟩ := h.form
  exact ⟨_, cap, rfl, h1, h2, .inr ⟨g, 0, rfl, h.lt, fun i c hi hc => by rw [Nat.zero_add, h.cell _ (by omega), wls_get n P i c hi hc]⟩⟩

theorem rowWl : RowTy Tryz.prog 41 3 := ⟨_, Tryz.underlying41, rfl, by kernel_rfl⟩
theorem sizeWl : (Tryz.prog.info? 41).map (·.size) = some 3 := by kernel_rfl
theorem elWl : ElemTy Tryz.prog 22 41 3 8 := elem_of (z := .agg (Wl.cells ⟨0, 0, 0⟩)) Tryz.underlying22 (by unfold Wl.cells; kernel_rfl) (Wl.cells_size _)
set_option maxRecDepth 100000 in
set_option maxHeartbeats 400000 in
theorem eqWell_same (p : Wl) (hp : isN .f32 p.rt = false) (w : World) :
    Calls Tryz.prog 21 #[.agg p.cells, .agg p.cells] w fun e w' => e = .returned (.bool true) ∧ Below w.heap.size w w' := by
  have cw := fun (w : World) => run_widen_numW (P := Tryz.prog) 29 98 p.rt Tryz.underlying29 Tryz.underlying98 hp w
  have hs := fun w' => sameFloat_alike (widen p.rt) (widen p.rt) rfl w'
  rw [p.cells_eq]
  clear hp
  go_enter Tryz.func21, Tryz.ntmps21
  go_wp2_with (go_at_call 50; refine (hs _).mono ?_; rintro e w' ⟨rfl, hw⟩; rw [hw]; clear hw w')
  go_ret
  exact ⟨rfl, below2 _ _ _⟩

theorem isN_int' (n : Int) : isN .f32 (floatOfInt .f32 n) = false := by
  unfold floatOfInt FloatKind.nearest FloatKind.encode Ieee.Format.write
  exact isN_nearestW _ _ _
set_option maxRecDepth 100000 in
set_option maxHeartbeats 400000 in
theorem eqWellS_same (n : Nat) (P : Nat → Wl) (hP : ∀ i, i < n → isN .f32 (P i).rt = false) (v u : Value) (w : World) (hv : WSl w v n P) (hu : WSl w u n P) :
    Calls Tryz.prog 7 #[v, u] w fun e w' => e = .returned (.bool true) ∧ Below w.heap.size w w' := by
  obtain ⟨a, c, rfl, hc1, hc2, hcell⟩ := hv
  obtain ⟨a', c', rfl, hc1', hc2', hcell'⟩ := hu
  unfold maxLen at hc2 hc2'
  go_enter Tryz.func7, Tryz.ntmps7
  go_wp2_with fail
  go_loopw [5] (fun i wr => ∃ k : Nat, k ≤ n ∧ i = .int .i64 k ∧ Below w.heap.size w wr) (fun i _ => n - (intOf i).toNat)
  case atStart => exact ⟨0, by omega, rfl, Below.refl _ _⟩
  case round =>
    obtain ⟨k, hk, rfl, hbel⟩ := hrel
    by_cases hlt : k < n
    · obtain ⟨b, o, rfl, hb, hcell⟩ := hcell.resolve_left (by omega)
      obtain ⟨b', o', rfl, hb', hcell'⟩ := hcell'.resolve_left (by omega)
      have e0 : wr.cell? ⟨b, o + k * 3, none⟩ = some (.int .i8 (P k).px) := (hbel.cell (p := ⟨b, _, none⟩) hb).trans ((hcell k 0 hlt (by omega)).trans (P k).get0)
      have e1 : wr.cell? ⟨b, o + k * 3 + 1, none⟩ = some (.int .i8 (P k).py) := (hbel.cell (p := ⟨b, _, none⟩) hb).trans ((hcell k 1 hlt (by omega)).trans (P k).get1)
      have e2 : wr.cell? ⟨b, o + k * 3 + 2, none⟩ = some (.float .f32 (P k).rt) := (hbel.cell (p := ⟨b, _, none⟩) hb).trans ((hcell k 2 hlt (by omega)).trans (P k).get2)
      have e0' : wr.cell? ⟨b', o' + k * 3, none⟩ = some (.int .i8 (P k).px) := (hbel.cell (p := ⟨b', _, none⟩) hb').trans ((hcell' k 0 hlt (by omega)).trans (P k).get0)
      have e1' : wr.cell? ⟨b', o' + k * 3 + 1, none⟩ = some (.int .i8 (P k).py) := (hbel.cell (p := ⟨b', _, none⟩) hb').trans ((hcell' k 1 hlt (by omega)).trans (P k).get1)
      have e2' : wr.cell? ⟨b', o' + k * 3 + 2, none⟩ = some (.float .f32 (P k).rt) := (hbel.cell (p := ⟨b', _, none⟩) hb').trans ((hcell' k 2 hlt (by omega)).trans (P k).get2)
      clear hcell hcell'
      have ht := fun w' => eqWell_same (P k) (hP k hlt) w'
      rw [(P k).cells_eq] at ht
      go_wp2_with fail
      have r1 : ∀ w', Below wr.heap.size wr w' → w'.rangeAt b (o + k * 3) [.int .i8 (P k).px, .int .i8 (P k).py, .float .f32 (P k).rt] := fun w' hw' j u hu => by
        rw [hw'.cell (p := ⟨b, _, none⟩) (by have := hbel.size; show b < _; omega)]
        match j, hu with
        | 0, hu => rw [← hu]; exact e0
        | 1, hu => rw [← hu]; exact e1
        | 2, hu => rw [← hu]; exact e2
      have r2 : ∀ w', Below wr.heap.size wr w' → w'.rangeAt b' (o' + k * 3) [.int .i8 (P k).px, .int .i8 (P k).py, .float .f32 (P k).rt] := fun w' hw' j u hu => by
        rw [hw'.cell (p := ⟨b', _, none⟩) (by have := hbel.size; show b' < _; omega)]
        match j, hu with
        | 0, hu => rw [← hu]; exact e0'
        | 1, hu => rw [← hu]; exact e1'
        | 2, hu => rw [← hu]; exact e2'
      refine wp_region_below (by kernel_rfl) (by kernel_rfl) ?_
      refine quiet_move rfl rfl rfl rfl ?_
      refine quiet_move rfl rfl rfl rfl ?_
      refine quiet_index rfl rfl rfl rfl rfl Tryz.underlying22 sizeWl hlt ?_
      refine quiet_part rfl rfl rfl rfl rowWl rfl r1 ?_
      refine quiet_move rfl rfl rfl rfl ?_
      refine quiet_move rfl rfl rfl rfl ?_
      refine quiet_index rfl rfl rfl rfl rfl Tryz.underlying22 sizeWl hlt ?_
      refine quiet_part rfl rfl rfl rfl rowWl rfl r2 ?_
      refine quiet_call rfl rfl rfl Tryz.func21 (by kernel_rfl) (by kernel_rfl) rfl (fun w' hw' => (ht w').mono fun e w'' h => ⟨h.1, hw'.trans (h.2.mono hw'.size)⟩) ?_
      refine quiet_not rfl rfl rfl rfl ?_
      refine wpQuiet_nil ?_
      intro w1 hw1
      simp only [List.set_cons_succ, List.set_cons_zero]
      go_wp2_with fail
      go_roundw
      case rel => exact ⟨k + 1, by omega, by go_num, hbel.trans (hw1.mono hbel.size)⟩
      case measure => simp [intOf]; omega
    · go_wp2
      go_ret
      exact ⟨rfl, hbel⟩
/-- P with another permit at i. -/
def updL (P : Nat → Wl) (i : Nat) (p : Wl) : Nat → Wl := fun j => if j = i then p else P j
theorem updL_same (P : Nat → Wl) (i : Nat) (p : Wl) : updL P i p i = p := by simp [updL]
theorem updL_other (P : Nat → Wl) (i : Nat) (p : Wl) (j : Nat) (h : j ≠ i) : updL P i p j = P j := by simp [updL, h]
theorem wls_set (n : Nat) (P : Nat → Wl) (i c : Nat) (u : Value) (p : Wl) (hi : i < n) (hc : c < 3) (hp : (P i).cells.toList.set c u = p.cells.toList) : (wls n P).set (i * 3 + c) u = wls n (updL P i p) := by
  apply List.ext_getElem?
  intro j
  by_cases hj : j < n * 3
  · obtain ⟨k, d, hd, rfl⟩ : ∃ k d, d < 3 ∧ j = k * 3 + d := ⟨j / 3, j % 3, Nat.mod_lt _ (by decide), by omega⟩
    have hk : k < n := by omega
    rw [wls_get n _ k d hk hd, List.getElem?_set, wls_length]
    by_cases hki : k = i
    · subst hki
      rw [updL_same]
      have := congrArg (fun l : List Value => l[d]?) hp
      simp only [List.getElem?_set, Array.getElem?_toList, Array.length_toList, Wl.cells_size] at this
      rw [← this]
      by_cases hcd : c = d
      · subst hcd; simp [hc, hj]
      · rw [if_neg (by omega), if_neg hcd, wls_get n P k d hk hd]
    · rw [updL_other P i p k hki, if_neg (by omega), wls_get n P k d hk hd]
  · rw [List.getElem?_eq_none (by simp [wls_length]; omega), List.getElem?_eq_none (by simp [wls_length]; omega)]

/-- A list of permits that a call has made, or none. -/
def ResW (w : World) (g : Nat) (v : Value) (n : Nat) (P : Nat → Wl) : Prop := (n = 0 ∧ ∃ a cap, v = .slice a 0 cap ∧ cap ≤ maxLen) ∨ Own w g 41 3 v n (wls n P)
theorem ResW.wsl {w : World} {g : Nat} {v : Value} {n : Nat} {P : Nat → Wl} (h : ResW w g v n P) : WSl w v n P := by
  rcases h with ⟨rfl, a, cap, rfl, h⟩ | h
  · exact ⟨a, cap, rfl, Nat.zero_le _, h, .inl rfl⟩
  · exact h.wsl
theorem ResW.below {w w' : World} {g : Nat} {v : Value} {n : Nat} {P : Nat → Wl} (h : ResW w g v n P) (hb : Below w.heap.size w w') : ResW w' g v n P := by
  rcases h with h | h
  · exact .inl h
  · exact .inr (h.below hb h.lt)
theorem ResW.only {w w' : World} {g k : Nat} {v : Value} {n : Nat} {P : Nat → Wl} (h : ResW w g v n P) (hb : Only k w w') (hk : n = 0 ∨ g ≠ k) : ResW w' g v n P := by
  rcases h with h | h
  · exact .inl h
  · rcases hk with rfl | hk
    · obtain ⟨cap, rfl, _, hc⟩ := h.form
      exact .inl ⟨rfl, _, cap, rfl, hc⟩
    · exact .inr (h.move (hb.block g hk))
theorem ResW.ne {w : World} {g : Nat} {v : Value} {n : Nat} {P : Nat → Wl} (h : ResW w g v n P) {k : Nat} (hk : w.heap.size ≤ k) : n = 0 ∨ g ≠ k := by
  rcases h with h | h
  · exact .inl h.1
  · have := h.lt; exact .inr (by omega)

def markL (m : Int) (i : Nat) : Wl := ⟨IntKind.i8.wrap (m + 3 * i), IntKind.i8.wrap (m + 3 * i + 1), (floatOfInt .f32 (m + 3 * i + 2))⟩
/-- .. after k rounds. -/
def markedL (m : Int) (P : Nat → Wl) (k : Nat) : Nat → Wl := fun i => if i < k then markL m i else P i

set_option maxRecDepth 100000 in
set_option maxHeartbeats 400000 in
theorem markL_any (n g : Nat) (P : Nat → Wl) (v : Value) (m : Int) (hm : 0 ≤ m ∧ m ≤ 1048576) (hn : n ≤ 1048576) (w : World) (hv : ResW w g v n P) :
    Calls Tryz.prog 8 #[v, .int .i64 m] w fun e w' => e = .returned (.int .i64 (m + 3 * n)) ∧ ResW w' g v n (markL m) ∧ Only g w w' := by
  have cv := fun (n : Int) (w : World) => run_convert_int_float (P := Tryz.prog) w 3 29 .i64 .f32 n (by kernel_rfl) Tryz.underlying29
  rcases hv with ⟨rfl, a, cap, rfl, hc⟩ | hown
  · go_enter Tryz.func8, Tryz.ntmps8
    go_wp2_with fail
    go_loop [1, 5] (fun q i => q = .int .i64 m ∧ i = .int .i64 0) (fun _ _ => 0)
    case atStart => exact ⟨rfl, rfl⟩
    case round =>
      obtain ⟨rfl, rfl⟩ := hrel
      go_wp2_with fail
      go_ret
      exact ⟨by simp, .inl ⟨rfl, a, cap, rfl, hc⟩, Only.refl _ _⟩
  · obtain ⟨cap, rfl, hc1, hc2⟩ := hown.form
    unfold maxLen at hc2
    go_enter Tryz.func8, Tryz.ntmps8
    go_wp2_with fail
    go_loopw [1, 5] (fun q i wr => ∃ k : Nat, k ≤ n ∧ i = .int .i64 k ∧ q = .int .i64 (m + 3 * k) ∧ Own wr g 41 3 (.slice (some ⟨g, 0, none⟩) n cap) n (wls n (markedL m P k)) ∧ Only g w wr) (fun _ i _ => n - (intOf i).toNat)
    case atStart => exact ⟨0, by omega, rfl, by simp, by rw [show markedL m P 0 = P from funext fun i => by simp [markedL]]; exact hown, Only.refl _ _⟩
    case round =>
      clear hown
      obtain ⟨k, hk, rfl, rfl, hown, honly⟩ := hrel
      by_cases hlt : k < n
      · have f0 := hown.free (k * 3)
        have f1 := fun u => (hown.setCell (k * 3) u).free (k * 3 + 1)
        have f2 := fun u u' => ((hown.setCell (k * 3) u).setCell (k * 3 + 1) u').free (k * 3 + 2)
        have bk : (0 : Int) ≤ k := by omega
        have bl : (k : Int) < n := by omega
        have hmk : markedL m P k k = P k := by simp [markedL]
        have e0 : wr.cell? ⟨g, k * 3, none⟩ = some (.int .i8 (P k).px) := by rw [hown.cell _ (by omega), show k * 3 = k * 3 + 0 from rfl, wls_get n _ k 0 hlt (by omega), hmk, Wl.get0]
        have e1 : wr.cell? ⟨g, k * 3 + 1, none⟩ = some (.int .i8 (P k).py) := by rw [hown.cell _ (by omega), wls_get n _ k 1 hlt (by omega), hmk, Wl.get1]
        have e2 : wr.cell? ⟨g, k * 3 + 2, none⟩ = some (.float .f32 (P k).rt) := by rw [hown.cell _ (by omega), wls_get n _ k 2 hlt (by omega), hmk, Wl.get2]
        go_wp2_with fail
        go_roundw
        case rel =>
          refine ⟨k + 1, by omega, by go_num, by go_num, ?_, ((honly.setCell _ _).setCell _ _).setCell _ _⟩
          have hset := ((hown.setCell (k * 3) (.int .i8 (IntKind.i8.wrap (m + 3 * k)))).setCell (k * 3 + 1) (.int .i8 (IntKind.i8.wrap (m + 3 * k + 1)))).setCell (k * 3 + 2) (.float .f32 (floatOfInt .f32 (m + 3 * k + 1 + 1)))
          rw [show k * 3 = k * 3 + 0 from rfl, wls_set n _ k 0 _ ⟨IntKind.i8.wrap (m + 3 * k), (P k).py, (P k).rt⟩ hlt (by omega) (by rw [hmk, Wl.cells_eq, Wl.cells_eq]; rfl),
            wls_set n _ k 1 _ ⟨IntKind.i8.wrap (m + 3 * k), IntKind.i8.wrap (m + 3 * k + 1), (P k).rt⟩ hlt (by omega) (by rw [updL_same, Wl.cells_eq, Wl.cells_eq]; rfl),
            wls_set n _ k 2 _ (markL m k) hlt (by omega) (by rw [updL_same, Wl.cells_eq, Wl.cells_eq]; simp [markL]; congr 1; omega)] at hset
          rw [wls_congr (P' := markedL m P (k + 1)) (fun i hi => by
            by_cases hik : i = k
            · subst hik; rw [updL_same]; simp [markedL]
            · rw [updL_other _ _ _ _ hik, updL_other _ _ _ _ hik, updL_other _ _ _ _ hik]; simp only [markedL, show i < k + 1 ↔ i < k by omega])] at hset
          exact hset
        case measure => simp [intOf]; omega
      · obtain rfl : k = n := by omega
        go_wp2_with fail
        go_ret
        exact ⟨rfl, .inr (by rw [wls_congr (P' := markedL m P k) (fun i hi => by simp [markedL, hi])]; exact hown), honly⟩
set_option maxRecDepth 100000 in
set_option maxHeartbeats 400000 in
theorem heldL_any (n : Nat) (v : Value) (m : Int) (hm : 0 ≤ m ∧ m ≤ 1048576) (hn : n ≤ 1048576) (w : World) (hv : WSl w v n (markL m)) :
    Calls Tryz.prog 9 #[v, .int .i64 m] w fun e w' => e = .returned (.int .i64 (m + 3 * n)) ∧ w' = w := by
  have cv := fun (n : Int) (w : World) => run_convert_int_float (P := Tryz.prog) w 3 29 .i64 .f32 n (by kernel_rfl) Tryz.underlying29
  obtain ⟨a, cap, rfl, hc1, hc2, hcell⟩ := hv
  unfold maxLen at hc2
  have HC := Lib.hid hcell
  clear hcell
  go_enter Tryz.func9, Tryz.ntmps9
  go_wp2_with fail
  go_loop [1, 5] (fun q i => ∃ k : Nat, k ≤ n ∧ i = .int .i64 k ∧ q = .int .i64 (m + 3 * k)) (fun _ i => n - (intOf i).toNat)
  case atStart => exact ⟨0, by omega, rfl, by simp⟩
  case round =>
    obtain ⟨k, hk, rfl, rfl⟩ := hrel
    by_cases hlt : k < n
    · obtain ⟨b, o, rfl, hb, hcell⟩ := HC.out.resolve_left (by omega)
      have e0 : w.cell? ⟨b, o + k * 3, none⟩ = some (.int .i8 (IntKind.i8.wrap (m + 3 * k))) := (hcell k 0 hlt (by omega)).trans (markL m k).get0
      have e1 : w.cell? ⟨b, o + k * 3 + 1, none⟩ = some (.int .i8 (IntKind.i8.wrap (m + 3 * k + 1))) := (hcell k 1 hlt (by omega)).trans (markL m k).get1
      have e2 : w.cell? ⟨b, o + k * 3 + 2, none⟩ = some (.float .f32 (floatOfInt .f32 (m + 3 * k + 1 + 1))) := (hcell k 2 hlt (by omega)).trans ((markL m k).get2.trans (by unfold markL; simp only [show m + 3 * (k : Int) + 1 + 1 = m + 3 * k + 2 by omega]))
      have ho := order_self (isN_int' (m + 3 * k + 1 + 1))
      have ho2 : (FloatKind.f32.format.order (floatOfInt .f32 (m + 3 * k + 1 + 1)) (floatOfInt .f32 (m + 3 * k + 1 + 1)) != some .eq) = false := by rw [ho]; rfl
      clear hcell
      have bk : (0 : Int) ≤ k := by omega
      have bl : (k : Int) < n := by omega
      go_wp2_with fail
      go_round
      case rel => exact ⟨k + 1, by omega, by go_num, by go_num⟩
      case measure => simp [intOf]; omega
    · obtain rfl : k = n := by omega
      go_wp2_with fail
      go_ret
      exact ⟨rfl, rfl⟩
end Go.Proofs.YtcojgmgoiopboaaGreatDoor
