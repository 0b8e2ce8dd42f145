/- The turns of an hour, and when two numbers are held to be the same. -/
import Derived.Test.YtcojgmgoiopboaaGreatDoorKit
namespace Go.Proofs.YtcojgmgoiopboaaGreatDoor
open Go.ChangeShapes Go.WideShapes Go.ChangeAt Go.RowKit
set_option linter.unusedVariables false

/-- The first part of the turn of hour k. -/
def cosT : Nat → Nat
  | 0 => 1065353216 | 1 => 1063105495 | 2 => 1056964608 | 3 => 0 | 4 => 3204448256 | 5 => 3210589143 | 6 => 3212836864 | 7 => 3210589143 | 8 => 3204448256 | 9 => 0 | 10 => 1056964608 | 11 => 1063105495
  | _ => 0
/-- The second part. -/
def sinT (k : Nat) : Nat := cosT ((k + 9) % 12)

def firstsC : Array Value := #[.float .f32 1065353216, .float .f32 1063105495, .float .f32 1056964608, .float .f32 0, .float .f32 3204448256, .float .f32 3210589143, .float .f32 3212836864, .float .f32 3210589143, .float .f32 3204448256, .float .f32 0, .float .f32 1056964608, .float .f32 1063105495]
def secondsC : Array Value := #[.float .f32 0, .float .f32 1056964608, .float .f32 1063105495, .float .f32 1065353216, .float .f32 1063105495, .float .f32 1056964608, .float .f32 0, .float .f32 3204448256, .float .f32 3210589143, .float .f32 3212836864, .float .f32 3210589143, .float .f32 3204448256]
theorem firsts_get (k : Nat) (hk : k < 12) : firstsC[k]? = some (.float .f32 (cosT k)) := by
  match k, hk with
  | 0, _ | 1, _ | 2, _ | 3, _ | 4, _ | 5, _ | 6, _ | 7, _ | 8, _ | 9, _ | 10, _ | 11, _ => rfl
theorem seconds_get (k : Nat) (hk : k < 12) : secondsC[k]? = some (.float .f32 (sinT k)) := by
  match k, hk with
  | 0, _ | 1, _ | 2, _ | 3, _ | 4, _ | 5, _ | 6, _ | 7, _ | 8, _ | 9, _ | 10, _ | 11, _ => rfl

theorem in_any (n lo hi : Int) (w : World) :
    Calls Tryz.prog 44 #[.int .i64 n, .int .i64 lo, .int .i64 hi] w fun e w' => e = .returned (.bool (decide (lo ≤ n) && decide (n ≤ hi))) ∧ w' = w := by
  by_cases h : lo ≤ n
  all_goals
    go_enter Tryz.func44, Tryz.ntmps44
    go_wp2
    all_goals (go_ret; exact ⟨by simp <;> omega, rfl⟩)
theorem l00In_any (n lo hi : Int) (w : World) :
    Calls Tryz.prog 23 #[.int .i64 n, .int .i64 lo, .int .i64 hi] w fun e w' => e = .returned (.bool (decide (lo ≤ n) && decide (n ≤ hi))) ∧ w' = w := by
  by_cases h : lo ≤ n
  all_goals
    go_enter Tryz.func23, Tryz.ntmps23
    go_wp2
    all_goals (go_ret; exact ⟨by simp <;> omega, rfl⟩)
end Go.Proofs.YtcojgmgoiopboaaGreatDoor
