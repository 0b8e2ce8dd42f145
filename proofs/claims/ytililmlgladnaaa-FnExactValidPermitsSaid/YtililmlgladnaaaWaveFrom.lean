/- The walks that FnExactWaveFrom needs: sums of narrow numbers, and the wave that is seen in twelve levels. -/
import Derived.Test.YtililmlgladnaaaApp
import Derived.Test.YtililmlgladnaaaFlt
import Derived.Test.YtililmlgladnaaaDrops
namespace Go.Proofs.Ytililmlgladnaaa
open Go.ChangeShapes Go.WideShapes Go.ChangeAt Go.RowKit
set_option linter.unusedVariables false

/-- n narrow numbers. -/
@[irreducible] def fls (n : Nat) (f : Nat → Nat) : List Value := (List.range n).map fun i => .float .f32 (f i)
theorem fls_length (n : Nat) (f : Nat → Nat) : (fls n f).length = n := by simp [fls]
theorem fls_get (n : Nat) (f : Nat → Nat) (i : Nat) (h : i < n) : (fls n f)[i]? = some (.float .f32 (f i)) := by simp [fls, h]
theorem fls_zero (f : Nat → Nat) : fls 0 f = [] := by simp [fls]
theorem fls_succ (n : Nat) (f : Nat → Nat) : fls (n + 1) f = fls n f ++ [.float .f32 (f n)] := by simp [fls, List.range_succ]
theorem fls_congr {n : Nat} {f g : Nat → Nat} (h : ∀ i, i < n → f i = g i) : fls n f = fls n g := by
  unfold fls; apply List.map_congr_left; intro i hi; rw [h i (List.mem_range.1 hi)]
/-- f, but at n: b. -/
def upd (f : Nat → Nat) (n b : Nat) : Nat → Nat := fun i => if i = n then b else f i
theorem fls_snoc (n : Nat) (f : Nat → Nat) (b : Nat) : fls n f ++ [.float .f32 b] = fls (n + 1) (upd f n b) := by
  rw [fls_succ, fls_congr (g := upd f n b) (fun i hi => by simp [upd]; omega)]
  simp [upd]
/-- The sum of the first n numbers, from left to right. -/
def fsumTo (f : Nat → Nat) : Nat → Nat
  | 0 => 0
  | 1 => f 0
  | k + 2 => fop .add (fsumTo f (k + 1)) (f (k + 1))
theorem fsumTo_congr {f g : Nat → Nat} : ∀ (n : Nat), (∀ i, i < n → f i = g i) → fsumTo f n = fsumTo g n
  | 0, _ => rfl
  | 1, h => h 0 (by omega)
  | k + 2, h => by simp only [fsumTo]; rw [fsumTo_congr (k + 1) (fun i hi => h i (by omega)), h (k + 1) (by omega)]
theorem fsumTo_succ (f : Nat → Nat) (k : Nat) (h : 1 ≤ k) : fsumTo f (k + 1) = fop .add (fsumTo f k) (f k) := by
  obtain ⟨j, rfl⟩ : ∃ j, k = j + 1 := ⟨k - 1, by omega⟩
  rfl

set_option maxRecDepth 100000 in
set_option maxHeartbeats 400000 in
theorem l03Sum_any (g : Nat) (v : Value) (n : Nat) (f : Nat → Nat) (hn : n ≤ maxLen) (w : World) (ho : Own w g 36 1 v n (fls n f)) :
    Calls Try.prog 55 #[v] w fun e w' => ∃ r, e = .returned (.float .f32 r) ∧ cn r = fsumTo (fun i => cn (f i)) n ∧ ∃ k, w' = w.drewN k := by
  obtain ⟨cap, rfl, hc1, hc2⟩ := ho.form
  unfold maxLen at hn
  by_cases h0 : n = 0
  · subst h0
    go_enter Try.func55, Try.ntmps55
    go_wp2
    go_ret
    exact ⟨_, rfl, rfl, 0, rfl⟩
  · have hz : ((n : Int) == 0) = false := by simp; omega
    have hc0 : w.cell? ⟨g, 0, none⟩ = some (.float .f32 (f 0)) := by rw [ho.cell 0 (by omega), fls_get _ _ _ (by omega)]
    have hpos : (0 : Int) < n := by omega
    go_enter Try.func55, Try.ntmps55
    go_wp2
    go_loopw [3, 4] (fun s i wr => ∃ k b : Nat, 1 ≤ k ∧ k ≤ n ∧ s = .float .f32 b ∧ i = .int .i64 k ∧ Hid (cn b = fsumTo (fun i => cn (f i)) k) ∧ ∃ q, wr = w.drewN q) (fun _ i _ => n - (intOf i).toNat)
    case atStart => exact ⟨1, f 0, by omega, by omega, rfl, rfl, Lib.hid rfl, 0, rfl⟩
    case round =>
      obtain ⟨k, b, hk1, hk, rfl, rfl, hb, q, rfl⟩ := hrel
      by_cases hlt : k < n
      · have hck : w.cell? ⟨g, k, none⟩ = some (.float .f32 (f k)) := by rw [ho.cell k (by omega), fls_get _ _ _ (by omega)]
        go_wp2
        go_roundw
        case rel => exact ⟨k + 1, _, by omega, by omega, rfl, by go_num, Lib.hid (by rw [cn_fres, hb.out, fsumTo_succ _ _ hk1]), _, rfl⟩
        case measure => simp [intOf]; omega
      · obtain rfl : k = n := by omega
        go_wp2
        go_ret
        exact ⟨_, rfl, hb.out, _, rfl⟩

set_option maxRecDepth 100000 in
set_option maxHeartbeats 400000 in
theorem sum_any (g : Nat) (v : Value) (n : Nat) (f : Nat → Nat) (hn : n ≤ maxLen) (w : World) (ho : Own w g 36 1 v n (fls n f)) :
    Calls Try.prog 59 #[v] w fun e w' => ∃ r, e = .returned (.float .f32 r) ∧ cn r = fsumTo (fun i => cn (f i)) n ∧ ∃ k, w' = w.drewN k := by
  obtain ⟨cap, rfl, hc1, hc2⟩ := ho.form
  unfold maxLen at hn
  by_cases h0 : n = 0
  · subst h0
    go_enter Try.func59, Try.ntmps59
    go_wp2
    go_ret
    exact ⟨_, rfl, rfl, 0, rfl⟩
  · obtain ⟨m, rfl⟩ : ∃ m, n = m + 1 := ⟨n - 1, by omega⟩
    have hz : (((m + 1 : Nat) : Int) == 0) = false := by simp; omega
    have hc0 : w.cell? ⟨g, 0, none⟩ = some (.float .f32 (f 0)) := by rw [ho.cell 0 (by omega), fls_get _ _ _ (by omega)]
    have hpos : (0 : Int) < ((m + 1 : Nat) : Int) := by omega
    by_cases hcap : cap = 1
    all_goals
      go_enter Try.func59, Try.ntmps59
      go_wp2
      go_loopw [3, 5, 15] (fun s _ i wr => ∃ k b : Nat, k ≤ m ∧ s = .float .f32 b ∧ i = .int .i64 k ∧ Hid (cn b = fsumTo (fun i => cn (f i)) (k + 1)) ∧ ∃ q, wr = w.drewN q) (fun _ _ i _ => m - (intOf i).toNat)
      case atStart => exact ⟨0, f 0, by omega, rfl, rfl, Lib.hid rfl, 0, rfl⟩
      case round =>
        obtain ⟨k, b, hk, rfl, rfl, hb, q, rfl⟩ := hrel
        by_cases hlt : k < m
        · first
            | (exfalso; omega)
            | (have hck : w.cell? ⟨g, 1 + k, none⟩ = some (.float .f32 (f (k + 1))) := by rw [ho.cell (1 + k) (by omega), fls_get _ _ _ (by omega), Nat.add_comm]
               go_wp2
               go_roundw
               case rel => exact ⟨k + 1, _, by omega, rfl, by go_num, Lib.hid (by rw [cn_fres, hb.out]; exact (fsumTo_succ _ (k + 1) (by omega)).symm), _, rfl⟩
               case measure => simp [intOf]; omega)
        · obtain rfl : k = m := by omega
          go_wp2
          go_ret
          exact ⟨_, rfl, hb.out, _, rfl⟩
end Go.Proofs.Ytililmlgladnaaa
