/- The turns of an hour, and when two numbers are held to be the same. -/
import Derived.Test.YtililmlgladnaaaKit
namespace Go.Proofs.Ytililmlgladnaaa
open Go.ChangeShapes Go.WideShapes Go.ChangeAt Go.RowKit
set_option linter.unusedVariables false

/-- The first part of the turn of hour k. -/
def cosT : Nat → Nat
  | 0 => 1065353216 | 1 => 1063105495 | 2 => 1056964608 | 3 => 0 | 4 => 3204448256 | 5 => 3210589143 | 6 => 3212836864 | 7 => 3210589143 | 8 => 3204448256 | 9 => 0 | 10 => 1056964608 | 11 => 1063105495
  | _ => 0
/-- The second part. -/
def sinT (k : Nat) : Nat := cosT ((k + 9) % 12)

def firstsC : Array Value := #[.float .f32 1065353216, .float .f32 1063105495, .float .f32 1056964608, .float .f32 0, .float .f32 3204448256, .float .f32 3210589143, .float .f32 3212836864, .float .f32 3210589143, .float .f32 3204448256, .float .f32 0, .float .f32 1056964608, .float .f32 1063105495]
def secondsC : Array Value := #[.float .f32 0, .float .f32 1056964608, .float .f32 1063105495, .float .f32 1065353216, .float .f32 1063105495, .float .f32 1056964608, .float .f32 0, .float .f32 3204448256, .float .f32 3210589143, .float .f32 3212836864, .float .f32 3210589143, .float .f32 3204448256]
theorem firsts_get (k : Nat) (hk : k < 12) : firstsC[k]? = some (.float .f32 (cosT k)) := by
  match k, hk with
  | 0, _ | 1, _ | 2, _ | 3, _ | 4, _ | 5, _ | 6, _ | 7, _ | 8, _ | 9, _ | 10, _ | 11, _ => rfl
theorem seconds_get (k : Nat) (hk : k < 12) : secondsC[k]? = some (.float .f32 (sinT k)) := by
  match k, hk with
  | 0, _ | 1, _ | 2, _ | 3, _ | 4, _ | 5, _ | 6, _ | 7, _ | 8, _ | 9, _ | 10, _ | 11, _ => rfl

set_option maxRecDepth 100000 in
set_option maxHeartbeats 400000 in
theorem turn_any (h : Int) (h0 : 0 ≤ h) (h1 : h ≤ 100000) (w : World) :
    Calls Try.prog 54 #[.int .i64 h] w fun e w' => e = .returned (.complex .f32 (cosT (h % 12).toNat) (sinT (h % 12).toNat)) ∧ Below w.heap.size w w' := by
  have a1 : 0 ≤ h.tmod 12 := Int.tmod_nonneg _ h0
  have a2 : h.tmod 12 < 12 := Int.tmod_lt_of_pos _ (by omega)
  have b1 : 0 ≤ (h + 12 - 3).tmod 12 := Int.tmod_nonneg _ (by omega)
  have b2 : (h + 12 - 3).tmod 12 < 12 := Int.tmod_lt_of_pos _ (by omega)
  have f1 := firsts_get (h.tmod 12).toNat (by omega)
  have f2 := firsts_get ((h + 12 - 3).tmod 12).toNat (by omega)
  have e1 : (h % 12).toNat = (h.tmod 12).toNat := by rw [Int.tmod_eq_emod_of_nonneg h0]
  have e2 : ((h % 12).toNat + 9) % 12 = ((h + 12 - 3).tmod 12).toNat := by rw [Int.tmod_eq_emod_of_nonneg (by omega)]; omega
  have E : sinT (h % 12).toNat = cosT ((h + 12 - 3).tmod 12).toNat := by unfold sinT; rw [e2]
  rw [E, e1]
  clear e1 e2 E
  have w1 : IntKind.i64.wrap (h + 12) = h + 12 := IntWalk.i64_in _ (by omega)
  have w2 : IntKind.i64.wrap (h + 12 - 3) = h + 12 - 3 := IntWalk.i64_in _ (by omega)
  go_enter Try.func54, Try.ntmps54
  go_wp2_with (refine wpList_store_last (c' := firstsC) rfl rfl rfl rfl rfl size135 rfl rfl ?_)
  go_quiet (fail)
  go_wp2
  go_ret
  exact ⟨rfl, below_drewN ((Below.refl _ _).alloc (Nat.le_refl _) _) _⟩
set_option maxRecDepth 100000 in
set_option maxHeartbeats 400000 in
theorem l06Wave_any (a b : Nat) (w : World) :
    Calls Try.prog 58 #[.float .f32 a, .float .f32 b] w fun e w' => e = .returned (.complex .f32 a b) ∧ w' = w := by
  go_enter Try.func58, Try.ntmps58
  go_wp2
  go_ret
  exact ⟨rfl, rfl⟩
set_option maxRecDepth 100000 in
set_option maxHeartbeats 400000 in
theorem l06Turn_any (h : Int) (h0 : 0 ≤ h) (h1 : h ≤ 100000) (w : World) :
    Calls Try.prog 52 #[.int .i64 h] w fun e w' => e = .returned (.complex .f32 (cosT (h % 12).toNat) (sinT (h % 12).toNat)) ∧ Below w.heap.size w w' := by
  have a1 : 0 ≤ h.tmod 12 := Int.tmod_nonneg _ h0
  have a2 : h.tmod 12 < 12 := Int.tmod_lt_of_pos _ (by omega)
  have f1 := firsts_get (h.tmod 12).toNat (by omega)
  have f2 := seconds_get (h.tmod 12).toNat (by omega)
  have e1 : (h % 12).toNat = (h.tmod 12).toNat := by rw [Int.tmod_eq_emod_of_nonneg h0]
  rw [e1]
  clear e1
  go_enter Try.func52, Try.ntmps52
  go_wp2_with (first | (refine wpList_store_last (c' := firstsC) rfl rfl rfl rfl rfl size135 rfl rfl ?_) | (refine wpList_store_last (c' := secondsC) rfl rfl rfl ?_ rfl size135 rfl rfl ?_; (· simp)))
  go_quiet ((go_at_call 58; exact Calls.quiet_of_same (l06Wave_any _ _ _)))
  go_wp2
  go_ret
  exact ⟨rfl, below_drewN (((Below.refl _ _).alloc (Nat.le_refl _) _).alloc (by simp) _) _⟩

theorem in_any (n lo hi : Int) (w : World) :
    Calls Try.prog 69 #[.int .i64 n, .int .i64 lo, .int .i64 hi] w fun e w' => e = .returned (.bool (decide (lo ≤ n) && decide (n ≤ hi))) ∧ w' = w := by
  by_cases h : lo ≤ n
  all_goals
    go_enter Try.func69, Try.ntmps69
    go_wp2
    all_goals (go_ret; exact ⟨by simp <;> omega, rfl⟩)
theorem l00In_any (n lo hi : Int) (w : World) :
    Calls Try.prog 61 #[.int .i64 n, .int .i64 lo, .int .i64 hi] w fun e w' => e = .returned (.bool (decide (lo ≤ n) && decide (n ≤ hi))) ∧ w' = w := by
  by_cases h : lo ≤ n
  all_goals
    go_enter Try.func61, Try.ntmps61
    go_wp2
    all_goals (go_ret; exact ⟨by simp <;> omega, rfl⟩)
end Go.Proofs.Ytililmlgladnaaa
