/- Readings in memory: lists of them, marks that a caller leaves in a list. Plain laws and the walks of the law's own functions. -/
import Derived.Test.YtcojgmgoiopboaaDoorScaled
import Derived.IntWalk
namespace Go.Proofs.YtcojgmgoiopboaaDoor
open Go.ChangeShapes Go.WideShapes Go.ChangeAt Go.RowKit
set_option linter.unusedVariables false

/-- A reading's numbers. -/
structure Rg where
  tim : Int
  lev : Int
@[irreducible] def Rg.cells (p : Rg) : Array Value := #[.int .i64 p.tim, .int .i16 p.lev]
theorem Rg.cells_eq (p : Rg) : p.cells = #[.int .i64 p.tim, .int .i16 p.lev] := by unfold Rg.cells; rfl
theorem Rg.cells_size (p : Rg) : p.cells.size = 2 := by rw [p.cells_eq]; rfl
theorem Rg.get0 (p : Rg) : p.cells[0]? = some (.int .i64 p.tim) := by rw [p.cells_eq]; rfl
theorem Rg.get1 (p : Rg) : p.cells[1]? = some (.int .i16 p.lev) := by rw [p.cells_eq]; rfl
theorem Rg.one (p : Rg) : ∀ v ∈ p.cells.toList, v.oneCell' = true := by
  intro v hv; rw [p.cells_eq] at hv; simp at hv; rcases hv with rfl | rfl <;> rfl
/-- n permits, one behind the other. -/
@[irreducible] def rgs (n : Nat) (P : Nat → Rg) : List Value := (List.range n).flatMap fun i => (P i).cells.toList
theorem rgs_zero (P : Nat → Rg) : rgs 0 P = [] := by simp [rgs]
theorem rgs_succ (n : Nat) (P : Nat → Rg) : rgs (n + 1) P = rgs n P ++ (P n).cells.toList := by simp [rgs, List.range_succ, List.flatMap_append]
theorem rgs_length (n : Nat) (P : Nat → Rg) : (rgs n P).length = n * 2 := by
  induction n with
  | zero => simp [rgs_zero]
  | succ n ih => rw [rgs_succ, List.length_append, ih]; simp [Rg.cells_size]; omega
theorem rgs_congr {P P' : Nat → Rg} : ∀ {n : Nat}, (∀ i, i < n → P i = P' i) → rgs n P = rgs n P'
  | 0, _ => by rw [rgs_zero, rgs_zero]
  | n + 1, h => by rw [rgs_succ, rgs_succ, rgs_congr (fun i hi => h i (by omega)), h n (by omega)]
theorem rgs_get (n : Nat) (P : Nat → Rg) (i c : Nat) (h : i < n) (hc : c < 2) : (rgs n P)[i * 2 + c]? = (P i).cells[c]? := by
  induction n with
  | zero => omega
  | succ n ih =>
    rw [rgs_succ, List.getElem?_append, rgs_length]
    by_cases hi : i < n
    · rw [if_pos (by omega), ih hi]
    · obtain rfl : i = n := by omega
      rw [if_neg (by omega), show i * 2 + c - i * 2 = c by omega]; simp
theorem rgs_one (n : Nat) (P : Nat → Rg) : ∀ v ∈ rgs n P, v.oneCell' = true := by
  intro v hv; unfold rgs at hv; simp only [List.mem_flatMap] at hv; obtain ⟨i, _, hi⟩ := hv; exact (P i).one v hi
theorem rgs_drop (n : Nat) (P : Nat → Rg) (k : Nat) (h : k < n) : ((rgs n P).drop (k * 2)).take 2 = (P k).cells.toList := by
  apply List.ext_getElem?
  intro c
  rw [List.getElem?_take]
  by_cases hc : c < 2
  · rw [if_pos hc, List.getElem?_drop, rgs_get n P k c h hc]; simp
  · rw [if_neg hc, List.getElem?_eq_none]; simp [Rg.cells_size]; omega

/-- The slice v holds n permits, P. -/
def RSl (w : World) (v : Value) (n : Nat) (P : Nat → Rg) : Prop :=
  ∃ a cap, v = .slice a n cap ∧ n ≤ cap ∧ cap ≤ maxLen ∧ (n = 0 ∨ ∃ b o, a = some ⟨b, o, none⟩ ∧ b < w.heap.size ∧ ∀ i c, i < n → c < 2 → w.cell? ⟨b, o + i * 2 + c, none⟩ = (P i).cells[c]?)
theorem RSl.below {w w' : World} {v : Value} {n : Nat} {P : Nat → Rg} (h : RSl w v n P) (hb : Below w.heap.size w w') : RSl w' v n P := by
  obtain ⟨a, cap, rfl, h1, h2, h3⟩ := h
  refine ⟨a, cap, rfl, h1, h2, ?_⟩
  rcases h3 with h3 | ⟨b, o, rfl, hlt, hc⟩
  · exact .inl h3
  · exact .inr ⟨b, o, rfl, Nat.lt_of_lt_of_le hlt hb.size, fun i c hi h3 => (hb.cell (p := ⟨b, _, none⟩) hlt).trans (hc i c hi h3)⟩
theorem Own.rsl {w : World} {g : Nat} {e : TypeId} {v : Value} {n : Nat} {P : Nat → Rg} (h : Own w g e 2 v n (rgs n P)) : RSl w v n P := by
  obtain ⟨cap, rfl, h1, h2⟩ := h.form
  exact ⟨_, cap, rfl, h1, h2, .inr ⟨g, 0, rfl, h.lt, fun i c hi hc => by rw [Nat.zero_add, h.cell _ (by omega), rgs_get n P i c hi hc]⟩⟩

theorem rowRg : RowTy Tryd.prog 66 2 := ⟨_, Tryd.underlying66, rfl, by kernel_rfl⟩
theorem sizeRg : (Tryd.prog.info? 66).map (·.size) = some 2 := by kernel_rfl
theorem elRg : ElemTy Tryd.prog 33 66 2 16 := elem_of (z := .agg (Rg.cells ⟨0, 0⟩)) Tryd.underlying33 (by unfold Rg.cells; kernel_rfl) (Rg.cells_size _)
set_option maxRecDepth 100000 in
set_option maxHeartbeats 400000 in
theorem eqReading_same (p : Rg) (w : World) :
    Calls Tryd.prog 37 #[.agg p.cells, .agg p.cells] w fun e w' => e = .returned (.bool true) ∧ Below w.heap.size w w' := by
  rw [p.cells_eq]
  go_enter Tryd.func37, Tryd.ntmps37
  go_wp2
  go_ret
  exact ⟨rfl, below2 _ _ _⟩

set_option maxRecDepth 100000 in
set_option maxHeartbeats 400000 in
theorem eqReadingS_same (n : Nat) (P : Nat → Rg) (v u : Value) (w : World) (hv : RSl w v n P) (hu : RSl w u n P) :
    Calls Tryd.prog 17 #[v, u] w fun e w' => e = .returned (.bool true) ∧ Below w.heap.size w w' := by
  obtain ⟨a, c, rfl, hc1, hc2, hcell⟩ := hv
  obtain ⟨a', c', rfl, hc1', hc2', hcell'⟩ := hu
  unfold maxLen at hc2 hc2'
  go_enter Tryd.func17, Tryd.ntmps17
  go_wp2_with fail
  go_loopw [5] (fun i wr => ∃ k : Nat, k ≤ n ∧ i = .int .i64 k ∧ Below w.heap.size w wr) (fun i _ => n - (intOf i).toNat)
  case atStart => exact ⟨0, by omega, rfl, Below.refl _ _⟩
  case round =>
    obtain ⟨k, hk, rfl, hbel⟩ := hrel
    by_cases hlt : k < n
    · obtain ⟨b, o, rfl, hb, hcell⟩ := hcell.resolve_left (by omega)
      obtain ⟨b', o', rfl, hb', hcell'⟩ := hcell'.resolve_left (by omega)
      have e0 : wr.cell? ⟨b, o + k * 2, none⟩ = some (.int .i64 (P k).tim) := (hbel.cell (p := ⟨b, _, none⟩) hb).trans ((hcell k 0 hlt (by omega)).trans (P k).get0)
      have e1 : wr.cell? ⟨b, o + k * 2 + 1, none⟩ = some (.int .i16 (P k).lev) := (hbel.cell (p := ⟨b, _, none⟩) hb).trans ((hcell k 1 hlt (by omega)).trans (P k).get1)
      have e0' : wr.cell? ⟨b', o' + k * 2, none⟩ = some (.int .i64 (P k).tim) := (hbel.cell (p := ⟨b', _, none⟩) hb').trans ((hcell' k 0 hlt (by omega)).trans (P k).get0)
      have e1' : wr.cell? ⟨b', o' + k * 2 + 1, none⟩ = some (.int .i16 (P k).lev) := (hbel.cell (p := ⟨b', _, none⟩) hb').trans ((hcell' k 1 hlt (by omega)).trans (P k).get1)
      clear hcell hcell'
      have ht := fun w' => eqReading_same (P k) w'
      rw [(P k).cells_eq] at ht
      go_wp2_with fail
      have r1 : ∀ w', Below wr.heap.size wr w' → w'.rangeAt b (o + k * 2) [.int .i64 (P k).tim, .int .i16 (P k).lev] := fun w' hw' j u hu => by
        rw [hw'.cell (p := ⟨b, _, none⟩) (by have := hbel.size; show b < _; omega)]
        match j, hu with
        | 0, hu => rw [← hu]; exact e0
        | 1, hu => rw [← hu]; exact e1
      have r2 : ∀ w', Below wr.heap.size wr w' → w'.rangeAt b' (o' + k * 2) [.int .i64 (P k).tim, .int .i16 (P k).lev] := fun w' hw' j u hu => by
        rw [hw'.cell (p := ⟨b', _, none⟩) (by have := hbel.size; show b' < _; omega)]
        match j, hu with
        | 0, hu => rw [← hu]; exact e0'
        | 1, hu => rw [← hu]; exact e1'
      refine wp_region_below (by kernel_rfl) (by kernel_rfl) ?_
      refine quiet_move rfl rfl rfl rfl ?_
      refine quiet_move rfl rfl rfl rfl ?_
      refine quiet_index rfl rfl rfl rfl rfl Tryd.underlying33 sizeRg hlt ?_
      refine quiet_part rfl rfl rfl rfl rowRg rfl r1 ?_
      refine quiet_move rfl rfl rfl rfl ?_
      refine quiet_move rfl rfl rfl rfl ?_
      refine quiet_index rfl rfl rfl rfl rfl Tryd.underlying33 sizeRg hlt ?_
      refine quiet_part rfl rfl rfl rfl rowRg rfl r2 ?_
      refine quiet_call rfl rfl rfl Tryd.func37 (by kernel_rfl) (by kernel_rfl) rfl (fun w' hw' => (ht w').mono fun e w'' h => ⟨h.1, hw'.trans (h.2.mono hw'.size)⟩) ?_
      refine quiet_not rfl rfl rfl rfl ?_
      refine wpQuiet_nil ?_
      intro w1 hw1
      simp only [List.set_cons_succ, List.set_cons_zero]
      go_wp2_with fail
      go_roundw
      case rel => exact ⟨k + 1, by omega, by go_num, hbel.trans (hw1.mono hbel.size)⟩
      case measure => simp [intOf]; omega
    · go_wp2
      go_ret
      exact ⟨rfl, hbel⟩
/-- P with another permit at i. -/
def updR (P : Nat → Rg) (i : Nat) (p : Rg) : Nat → Rg := fun j => if j = i then p else P j
theorem updR_same (P : Nat → Rg) (i : Nat) (p : Rg) : updR P i p i = p := by simp [updR]
theorem updR_other (P : Nat → Rg) (i : Nat) (p : Rg) (j : Nat) (h : j ≠ i) : updR P i p j = P j := by simp [updR, h]
theorem rgs_set (n : Nat) (P : Nat → Rg) (i c : Nat) (u : Value) (p : Rg) (hi : i < n) (hc : c < 2) (hp : (P i).cells.toList.set c u = p.cells.toList) : (rgs n P).set (i * 2 + c) u = rgs n (updR P i p) := by
  apply List.ext_getElem?
  intro j
  by_cases hj : j < n * 2
  · obtain ⟨k, d, hd, rfl⟩ : ∃ k d, d < 2 ∧ j = k * 2 + d := ⟨j / 2, j % 2, Nat.mod_lt _ (by decide), by omega⟩
    have hk : k < n := by omega
    rw [rgs_get n _ k d hk hd, List.getElem?_set, rgs_length]
    by_cases hki : k = i
    · subst hki
      rw [updR_same]
      have := congrArg (fun l : List Value => l[d]?) hp
      simp only [List.getElem?_set, Array.getElem?_toList, Array.length_toList, Rg.cells_size] at this
      rw [← this]
      by_cases hcd : c = d
      · subst hcd; simp [hc, hj]
      · rw [if_neg (by omega), if_neg hcd, rgs_get n P k d hk hd]
    · rw [updR_other P i p k hki, if_neg (by omega), rgs_get n P k d hk hd]
  · rw [List.getElem?_eq_none (by simp [rgs_length]; omega), List.getElem?_eq_none (by simp [rgs_length]; omega)]

/-- A list of permits that a call has made, or none. -/
def ResR (w : World) (g : Nat) (v : Value) (n : Nat) (P : Nat → Rg) : Prop := (n = 0 ∧ ∃ a cap, v = .slice a 0 cap ∧ cap ≤ maxLen) ∨ Own w g 66 2 v n (rgs n P)
theorem ResR.rsl {w : World} {g : Nat} {v : Value} {n : Nat} {P : Nat → Rg} (h : ResR w g v n P) : RSl w v n P := by
  rcases h with ⟨rfl, a, cap, rfl, h⟩ | h
  · exact ⟨a, cap, rfl, Nat.zero_le _, h, .inl rfl⟩
  · exact h.rsl
theorem ResR.below {w w' : World} {g : Nat} {v : Value} {n : Nat} {P : Nat → Rg} (h : ResR w g v n P) (hb : Below w.heap.size w w') : ResR w' g v n P := by
  rcases h with h | h
  · exact .inl h
  · exact .inr (h.below hb h.lt)
theorem ResR.only {w w' : World} {g k : Nat} {v : Value} {n : Nat} {P : Nat → Rg} (h : ResR w g v n P) (hb : Only k w w') (hk : n = 0 ∨ g ≠ k) : ResR w' g v n P := by
  rcases h with h | h
  · exact .inl h
  · rcases hk with rfl | hk
    · obtain ⟨cap, rfl, _, hc⟩ := h.form
      exact .inl ⟨rfl, _, cap, rfl, hc⟩
    · exact .inr (h.move (hb.block g hk))
theorem ResR.ne {w : World} {g : Nat} {v : Value} {n : Nat} {P : Nat → Rg} (h : ResR w g v n P) {k : Nat} (hk : w.heap.size ≤ k) : n = 0 ∨ g ≠ k := by
  rcases h with h | h
  · exact .inl h.1
  · have := h.lt; exact .inr (by omega)

def markR (m : Int) (i : Nat) : Rg := ⟨m + 2 * i, IntKind.i16.wrap (m + 2 * i + 1)⟩
/-- .. after k rounds. -/
def markedR (m : Int) (P : Nat → Rg) (k : Nat) : Nat → Rg := fun i => if i < k then markR m i else P i

set_option maxRecDepth 100000 in
set_option maxHeartbeats 400000 in
theorem markR_any (n g : Nat) (P : Nat → Rg) (v : Value) (m : Int) (hm : 0 ≤ m ∧ m ≤ 1048576) (hn : n ≤ 1048576) (w : World) (hv : ResR w g v n P) :
    Calls Tryd.prog 18 #[v, .int .i64 m] w fun e w' => e = .returned (.int .i64 (m + 2 * n)) ∧ ResR w' g v n (markR m) ∧ Only g w w' := by
  rcases hv with ⟨rfl, a, cap, rfl, hc⟩ | hown
  · go_enter Tryd.func18, Tryd.ntmps18
    go_wp2_with fail
    go_loop [1, 5] (fun q i => q = .int .i64 m ∧ i = .int .i64 0) (fun _ _ => 0)
    case atStart => exact ⟨rfl, rfl⟩
    case round =>
      obtain ⟨rfl, rfl⟩ := hrel
      go_wp2_with fail
      go_ret
      exact ⟨by simp, .inl ⟨rfl, a, cap, rfl, hc⟩, Only.refl _ _⟩
  · obtain ⟨cap, rfl, hc1, hc2⟩ := hown.form
    unfold maxLen at hc2
    go_enter Tryd.func18, Tryd.ntmps18
    go_wp2_with fail
    go_loopw [1, 5] (fun q i wr => ∃ k : Nat, k ≤ n ∧ i = .int .i64 k ∧ q = .int .i64 (m + 2 * k) ∧ Own wr g 66 2 (.slice (some ⟨g, 0, none⟩) n cap) n (rgs n (markedR m P k)) ∧ Only g w wr) (fun _ i _ => n - (intOf i).toNat)
    case atStart => exact ⟨0, by omega, rfl, by simp, by rw [show markedR m P 0 = P from funext fun i => by simp [markedR]]; exact hown, Only.refl _ _⟩
    case round =>
      clear hown
      obtain ⟨k, hk, rfl, rfl, hown, honly⟩ := hrel
      by_cases hlt : k < n
      · have f0 := hown.free (k * 2)
        have f1 := fun u => (hown.setCell (k * 2) u).free (k * 2 + 1)
        have bk : (0 : Int) ≤ k := by omega
        have bl : (k : Int) < n := by omega
        have hmk : markedR m P k k = P k := by simp [markedR]
        have e0 : wr.cell? ⟨g, k * 2, none⟩ = some (.int .i64 (P k).tim) := by rw [hown.cell _ (by omega), show k * 2 = k * 2 + 0 from rfl, rgs_get n _ k 0 hlt (by omega), hmk, Rg.get0]
        have e1 : wr.cell? ⟨g, k * 2 + 1, none⟩ = some (.int .i16 (P k).lev) := by rw [hown.cell _ (by omega), rgs_get n _ k 1 hlt (by omega), hmk, Rg.get1]
        go_wp2_with fail
        go_roundw
        case rel =>
          refine ⟨k + 1, by omega, by go_num, by go_num, ?_, (honly.setCell _ _).setCell _ _⟩
          have hset := (hown.setCell (k * 2) (.int .i64 (m + 2 * k))).setCell (k * 2 + 1) (.int .i16 (IntKind.i16.wrap (m + 2 * k + 1)))
          rw [show k * 2 = k * 2 + 0 from rfl, rgs_set n _ k 0 _ ⟨m + 2 * k, (P k).lev⟩ hlt (by omega) (by rw [hmk, Rg.cells_eq, Rg.cells_eq]; rfl),
            rgs_set n _ k 1 _ (markR m k) hlt (by omega) (by rw [updR_same, Rg.cells_eq, Rg.cells_eq]; rfl)] at hset
          rw [rgs_congr (P' := markedR m P (k + 1)) (fun i hi => by
            by_cases hik : i = k
            · subst hik; rw [updR_same]; simp [markedR]
            · rw [updR_other _ _ _ _ hik, updR_other _ _ _ _ hik]; simp only [markedR, show i < k + 1 ↔ i < k by omega])] at hset
          exact hset
        case measure => simp [intOf]; omega
      · obtain rfl : k = n := by omega
        go_wp2_with fail
        go_ret
        exact ⟨rfl, .inr (by rw [rgs_congr (P' := markedR m P k) (fun i hi => by simp [markedR, hi])]; exact hown), honly⟩
set_option maxRecDepth 100000 in
set_option maxHeartbeats 400000 in
theorem heldR_any (n : Nat) (v : Value) (m : Int) (hm : 0 ≤ m ∧ m ≤ 1048576) (hn : n ≤ 1048576) (w : World) (hv : RSl w v n (markR m)) :
    Calls Tryd.prog 19 #[v, .int .i64 m] w fun e w' => e = .returned (.int .i64 (m + 2 * n)) ∧ w' = w := by
  obtain ⟨a, cap, rfl, hc1, hc2, hcell⟩ := hv
  unfold maxLen at hc2
  have HC := Lib.hid hcell
  clear hcell
  go_enter Tryd.func19, Tryd.ntmps19
  go_wp2_with fail
  go_loop [1, 5] (fun q i => ∃ k : Nat, k ≤ n ∧ i = .int .i64 k ∧ q = .int .i64 (m + 2 * k)) (fun _ i => n - (intOf i).toNat)
  case atStart => exact ⟨0, by omega, rfl, by simp⟩
  case round =>
    obtain ⟨k, hk, rfl, rfl⟩ := hrel
    by_cases hlt : k < n
    · obtain ⟨b, o, rfl, hb, hcell⟩ := HC.out.resolve_left (by omega)
      have e0 : w.cell? ⟨b, o + k * 2, none⟩ = some (.int .i64 (m + 2 * k)) := (hcell k 0 hlt (by omega)).trans (markR m k).get0
      have e1 : w.cell? ⟨b, o + k * 2 + 1, none⟩ = some (.int .i16 (IntKind.i16.wrap (m + 2 * k + 1))) := (hcell k 1 hlt (by omega)).trans (markR m k).get1
      clear hcell
      have bk : (0 : Int) ≤ k := by omega
      have bl : (k : Int) < n := by omega
      go_wp2_with fail
      go_round
      case rel => exact ⟨k + 1, by omega, by go_num, by go_num⟩
      case measure => simp [intOf]; omega
    · obtain rfl : k = n := by omega
      go_wp2_with fail
      go_ret
      exact ⟨rfl, rfl⟩
end Go.Proofs.YtcojgmgoiopboaaDoor
