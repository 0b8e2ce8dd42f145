/- The turns of an hour, and when two numbers are held to be the same. -/
import Derived.Test.YtiengfdpdlnkjaaDoorKit
namespace Go.Proofs.YtiengfdpdlnkjaaDoor
open Go.ChangeShapes Go.WideShapes Go.ChangeAt Go.RowKit
set_option linter.unusedVariables false

/-- The first part of the turn of hour k. -/
def cosT : Nat → Nat
  | 0 => 1065353216 | 1 => 1063105495 | 2 => 1056964608 | 3 => 0 | 4 => 3204448256 | 5 => 3210589143 | 6 => 3212836864 | 7 => 3210589143 | 8 => 3204448256 | 9 => 0 | 10 => 1056964608 | 11 => 1063105495
  | _ => 0
/-- The second part. -/
def sinT (k : Nat) : Nat := cosT ((k + 9) % 12)

def firstsC : Array Value := #[.float .f32 1065353216, .float .f32 1063105495, .float .f32 1056964608, .float .f32 0, .float .f32 3204448256, .float .f32 3210589143, .float .f32 3212836864, .float .f32 3210589143, .float .f32 3204448256, .float .f32 0, .float .f32 1056964608, .float .f32 1063105495]
def secondsC : Array Value := #[.float .f32 0, .float .f32 1056964608, .float .f32 1063105495, .float .f32 1065353216, .float .f32 1063105495, .float .f32 1056964608, .float .f32 0, .float .f32 3204448256, .float .f32 3210589143, .float .f32 3212836864, .float .f32 3210589143, .float .f32 3204448256]
theorem firsts_get (k : Nat) (hk : k < 12) : firstsC[k]? = some (.float .f32 (cosT k)) := by
  match k, hk with
  | 0, _ | 1, _ | 2, _ | 3, _ | 4, _ | 5, _ | 6, _ | 7, _ | 8, _ | 9, _ | 10, _ | 11, _ => rfl
theorem seconds_get (k : Nat) (hk : k < 12) : secondsC[k]? = some (.float .f32 (sinT k)) := by
  match k, hk with
  | 0, _ | 1, _ | 2, _ | 3, _ | 4, _ | 5, _ | 6, _ | 7, _ | 8, _ | 9, _ | 10, _ | 11, _ => rfl

set_option maxRecDepth 100000 in
set_option maxHeartbeats 400000 in
theorem l06Wave_any (a b : Nat) (w : World) :
    Calls Tryd.prog 9 #[.float .f32 a, .float .f32 b] w fun e w' => e = .returned (.complex .f32 a b) ∧ w' = w := by
  go_enter Tryd.func9, Tryd.ntmps9
  go_wp2
  go_ret
  exact ⟨rfl, rfl⟩
end Go.Proofs.YtiengfdpdlnkjaaDoor
