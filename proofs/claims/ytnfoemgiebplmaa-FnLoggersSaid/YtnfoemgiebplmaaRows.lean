/-
  No cell of these rows narrows 'for every input' (looked for: loops, veiled, ifaces, maps, wideKeys, modest, calm, conditions, laid).
  DERIVED. THE GIVEN ROWS OF THIS SEAT. 12 by the template 'for every input the law returns true; each argument reads behind the call as it read before'; 0 by the template 'total and deterministic' (their statements: YtnfoemgiebplmaaTotals.lean).
  GIVEN WITH THE SEED: the statements are not yours to turn. If you find one false, say at which input.
  Laid BY PROGRAM, IN A SANDBOX (cutbox-rows.mjs): the forced cells as the released guide's own fill.sh prints them over the translation 2b72d031767998dd… (all of the seat's roots in one cut). By AI agents, Wed Nov 11 2026. No macro, syntax, notation, axiom, sorry.
-/
import Derived.Test.YtnfoemgiebplmaaChecked
import GoSem.Claim
import GoSem.ClaimJoined
import GoSem.ClaimMapViews
import Derived.JoinedTies
import Derived.KernelRfl
namespace Go.Proofs.Ytnfoemgiebplmaa
/- THE CELL 'sum', in the pinned program and in every row, IS THE sha256 OF THE DUMP (.gsa) THAT YtnfoemgiebplmaaProg.lean LOADS. Nothing in Lean hashes anything: it is a label: what it is worth is what the hold of that sum in a sandbox is worth. -/
noncomputable def Try.pinned : Pinned := { name := "ytnfoemgiebplmaa", sum := "2b72d031767998dd3e3099c25362361820eadbc8d526bcfc50a5cf93170d3d17", checked := Try.checked }
namespace Rows
def none {H : Type} : Left H := { results := [], args := [] }

/-- 'laws.FnExactStepGround': WHATEVER THE INPUT: true; the input reads as it did. -/
def fnExactStepGroundSpec : ChangeSpec := { name := "fnExactStepGround", fn := fun _ => fun
  | [d1, d2] => { results := [.lit (.bool true)], args := [d1, d2] }
  | _ => none }
def fnExactStepGroundRow : OpenClaim := { program := "ytnfoemgiebplmaa", sum := "2b72d031767998dd3e3099c25362361820eadbc8d526bcfc50a5cf93170d3d17", func := "loop.example/g01288/laws.FnExactStepGround", spec := "fnExactStepGround", unfollowed := true, recurses := true, apart := false }
def FnExactStepGroundSaid : Prop := fnExactStepGroundRow.holds Try.pinned (OpenSpec.ofChange fnExactStepGroundSpec)

/-- ITS FALSE NEIGHBOUR: 'it returns false'. Refute it at one input. -/
def fnExactStepGroundWrong : ChangeSpec := { name := "fnExactStepGround", fn := fun _ => fun
  | [d1, d2] => { results := [.lit (.bool false)], args := [d1, d2] }
  | _ => none }
def FnExactStepGroundWrongFalsely : Prop := fnExactStepGroundRow.holds Try.pinned (OpenSpec.ofChange fnExactStepGroundWrong)

/-- 'laws.FnExactStepsOf': WHATEVER THE INPUT: true; the input reads as it did. -/
def fnExactStepsOfSpec : ChangeSpec := { name := "fnExactStepsOf", fn := fun _ => fun
  | [d1, d2, d3] => { results := [.lit (.bool true)], args := [d1, d2, d3] }
  | _ => none }
def fnExactStepsOfRow : OpenClaim := { program := "ytnfoemgiebplmaa", sum := "2b72d031767998dd3e3099c25362361820eadbc8d526bcfc50a5cf93170d3d17", func := "loop.example/g01288/laws.FnExactStepsOf", spec := "fnExactStepsOf", unfollowed := true, recurses := true, apart := false }
def FnExactStepsOfSaid : Prop := fnExactStepsOfRow.holds Try.pinned (OpenSpec.ofChange fnExactStepsOfSpec)

/-- ITS FALSE NEIGHBOUR: 'it returns false'. Refute it at one input. -/
def fnExactStepsOfWrong : ChangeSpec := { name := "fnExactStepsOf", fn := fun _ => fun
  | [d1, d2, d3] => { results := [.lit (.bool false)], args := [d1, d2, d3] }
  | _ => none }
def FnExactStepsOfWrongFalsely : Prop := fnExactStepsOfRow.holds Try.pinned (OpenSpec.ofChange fnExactStepsOfWrong)

/-- 'laws.FnExactStepsUntilStill': WHATEVER THE INPUT: true; the input reads as it did. -/
def fnExactStepsUntilStillSpec : ChangeSpec := { name := "fnExactStepsUntilStill", fn := fun _ => fun
  | [d1, d2, d3, d4] => { results := [.lit (.bool true)], args := [d1, d2, d3, d4] }
  | _ => none }
def fnExactStepsUntilStillRow : OpenClaim := { program := "ytnfoemgiebplmaa", sum := "2b72d031767998dd3e3099c25362361820eadbc8d526bcfc50a5cf93170d3d17", func := "loop.example/g01288/laws.FnExactStepsUntilStill", spec := "fnExactStepsUntilStill", inPlace := ["math.Float64bits", "math.Float64frombits"], unfollowed := true, recurses := true, apart := false }
def FnExactStepsUntilStillSaid : Prop := fnExactStepsUntilStillRow.holds Try.pinned (OpenSpec.ofChange fnExactStepsUntilStillSpec)

/-- ITS FALSE NEIGHBOUR: 'it returns false'. Refute it at one input. -/
def fnExactStepsUntilStillWrong : ChangeSpec := { name := "fnExactStepsUntilStill", fn := fun _ => fun
  | [d1, d2, d3, d4] => { results := [.lit (.bool false)], args := [d1, d2, d3, d4] }
  | _ => none }
def FnExactStepsUntilStillWrongFalsely : Prop := fnExactStepsUntilStillRow.holds Try.pinned (OpenSpec.ofChange fnExactStepsUntilStillWrong)

/-- 'laws.FnExactLoggedLevels': WHATEVER THE INPUT: true; the input reads as it did. -/
def fnExactLoggedLevelsSpec : ChangeSpec := { name := "fnExactLoggedLevels", fn := fun _ => fun
  | [d] => { results := [.lit (.bool true)], args := [d] }
  | _ => none }
def fnExactLoggedLevelsRow : OpenClaim := { program := "ytnfoemgiebplmaa", sum := "2b72d031767998dd3e3099c25362361820eadbc8d526bcfc50a5cf93170d3d17", func := "loop.example/g01288/laws.FnExactLoggedLevels", spec := "fnExactLoggedLevels", inPlace := ["math.Float64bits", "math.Float64frombits"], unfollowed := true, recurses := true, apart := false }
def FnExactLoggedLevelsSaid : Prop := fnExactLoggedLevelsRow.holds Try.pinned (OpenSpec.ofChange fnExactLoggedLevelsSpec)

/-- ITS FALSE NEIGHBOUR: 'it returns false'. Refute it at one input. -/
def fnExactLoggedLevelsWrong : ChangeSpec := { name := "fnExactLoggedLevels", fn := fun _ => fun
  | [d] => { results := [.lit (.bool false)], args := [d] }
  | _ => none }
def FnExactLoggedLevelsWrongFalsely : Prop := fnExactLoggedLevelsRow.holds Try.pinned (OpenSpec.ofChange fnExactLoggedLevelsWrong)

/-- 'laws.FnExactGroundWith': WHATEVER THE INPUT: true; the input reads as it did. -/
def fnExactGroundWithSpec : ChangeSpec := { name := "fnExactGroundWith", fn := fun _ => fun
  | [d1, d2] => { results := [.lit (.bool true)], args := [d1, d2] }
  | _ => none }
def fnExactGroundWithRow : OpenClaim := { program := "ytnfoemgiebplmaa", sum := "2b72d031767998dd3e3099c25362361820eadbc8d526bcfc50a5cf93170d3d17", func := "loop.example/g01288/laws.FnExactGroundWith", spec := "fnExactGroundWith", inPlace := ["math.Float64bits", "math.Float64frombits"], unfollowed := true, recurses := true, apart := false }
def FnExactGroundWithSaid : Prop := fnExactGroundWithRow.holds Try.pinned (OpenSpec.ofChange fnExactGroundWithSpec)

/-- ITS FALSE NEIGHBOUR: 'it returns false'. Refute it at one input. -/
def fnExactGroundWithWrong : ChangeSpec := { name := "fnExactGroundWith", fn := fun _ => fun
  | [d1, d2] => { results := [.lit (.bool false)], args := [d1, d2] }
  | _ => none }
def FnExactGroundWithWrongFalsely : Prop := fnExactGroundWithRow.holds Try.pinned (OpenSpec.ofChange fnExactGroundWithWrong)

/-- 'laws.FnExactLevelsWith': WHATEVER THE INPUT: true; the input reads as it did. -/
def fnExactLevelsWithSpec : ChangeSpec := { name := "fnExactLevelsWith", fn := fun _ => fun
  | [d1, d2] => { results := [.lit (.bool true)], args := [d1, d2] }
  | _ => none }
def fnExactLevelsWithRow : OpenClaim := { program := "ytnfoemgiebplmaa", sum := "2b72d031767998dd3e3099c25362361820eadbc8d526bcfc50a5cf93170d3d17", func := "loop.example/g01288/laws.FnExactLevelsWith", spec := "fnExactLevelsWith", inPlace := ["math.Float64bits", "math.Float64frombits"], unfollowed := true, recurses := true, apart := false }
def FnExactLevelsWithSaid : Prop := fnExactLevelsWithRow.holds Try.pinned (OpenSpec.ofChange fnExactLevelsWithSpec)

/-- ITS FALSE NEIGHBOUR: 'it returns false'. Refute it at one input. -/
def fnExactLevelsWithWrong : ChangeSpec := { name := "fnExactLevelsWith", fn := fun _ => fun
  | [d1, d2] => { results := [.lit (.bool false)], args := [d1, d2] }
  | _ => none }
def FnExactLevelsWithWrongFalsely : Prop := fnExactLevelsWithRow.holds Try.pinned (OpenSpec.ofChange fnExactLevelsWithWrong)

/-- 'laws.FnExactFirstBelow': WHATEVER THE INPUT: true; the input reads as it did. -/
def fnExactFirstBelowSpec : ChangeSpec := { name := "fnExactFirstBelow", fn := fun _ => fun
  | [d1, d2] => { results := [.lit (.bool true)], args := [d1, d2] }
  | _ => none }
def fnExactFirstBelowRow : OpenClaim := { program := "ytnfoemgiebplmaa", sum := "2b72d031767998dd3e3099c25362361820eadbc8d526bcfc50a5cf93170d3d17", func := "loop.example/g01288/laws.FnExactFirstBelow", spec := "fnExactFirstBelow", inPlace := ["math.Float64bits", "math.Float64frombits"], unfollowed := true, recurses := true, apart := false }
def FnExactFirstBelowSaid : Prop := fnExactFirstBelowRow.holds Try.pinned (OpenSpec.ofChange fnExactFirstBelowSpec)

/-- ITS FALSE NEIGHBOUR: 'it returns false'. Refute it at one input. -/
def fnExactFirstBelowWrong : ChangeSpec := { name := "fnExactFirstBelow", fn := fun _ => fun
  | [d1, d2] => { results := [.lit (.bool false)], args := [d1, d2] }
  | _ => none }
def FnExactFirstBelowWrongFalsely : Prop := fnExactFirstBelowRow.holds Try.pinned (OpenSpec.ofChange fnExactFirstBelowWrong)

/-- 'laws.FnExactAreKept': WHATEVER THE INPUT: true; the input reads as it did. -/
def fnExactAreKeptSpec : ChangeSpec := { name := "fnExactAreKept", fn := fun _ => fun
  | [d1, d2] => { results := [.lit (.bool true)], args := [d1, d2] }
  | _ => none }
def fnExactAreKeptRow : OpenClaim := { program := "ytnfoemgiebplmaa", sum := "2b72d031767998dd3e3099c25362361820eadbc8d526bcfc50a5cf93170d3d17", func := "loop.example/g01288/laws.FnExactAreKept", spec := "fnExactAreKept", inPlace := ["math.Float64bits", "math.Float64frombits"], unfollowed := true, recurses := true, apart := false }
def FnExactAreKeptSaid : Prop := fnExactAreKeptRow.holds Try.pinned (OpenSpec.ofChange fnExactAreKeptSpec)

/-- ITS FALSE NEIGHBOUR: 'it returns false'. Refute it at one input. -/
def fnExactAreKeptWrong : ChangeSpec := { name := "fnExactAreKept", fn := fun _ => fun
  | [d1, d2] => { results := [.lit (.bool false)], args := [d1, d2] }
  | _ => none }
def FnExactAreKeptWrongFalsely : Prop := fnExactAreKeptRow.holds Try.pinned (OpenSpec.ofChange fnExactAreKeptWrong)

/-- 'laws.FnExactGreatestPercent': WHATEVER THE INPUT: true; the input reads as it did. -/
def fnExactGreatestPercentSpec : ChangeSpec := { name := "fnExactGreatestPercent", fn := fun _ => fun
  | [d1, d2] => { results := [.lit (.bool true)], args := [d1, d2] }
  | _ => none }
def fnExactGreatestPercentRow : OpenClaim := { program := "ytnfoemgiebplmaa", sum := "2b72d031767998dd3e3099c25362361820eadbc8d526bcfc50a5cf93170d3d17", func := "loop.example/g01288/laws.FnExactGreatestPercent", spec := "fnExactGreatestPercent", inPlace := ["math.Float64bits", "math.Float64frombits"], unfollowed := true, recurses := true, apart := false }
def FnExactGreatestPercentSaid : Prop := fnExactGreatestPercentRow.holds Try.pinned (OpenSpec.ofChange fnExactGreatestPercentSpec)

/-- ITS FALSE NEIGHBOUR: 'it returns false'. Refute it at one input. -/
def fnExactGreatestPercentWrong : ChangeSpec := { name := "fnExactGreatestPercent", fn := fun _ => fun
  | [d1, d2] => { results := [.lit (.bool false)], args := [d1, d2] }
  | _ => none }
def FnExactGreatestPercentWrongFalsely : Prop := fnExactGreatestPercentRow.holds Try.pinned (OpenSpec.ofChange fnExactGreatestPercentWrong)

/-- 'laws.FnExactCheckGrant': WHATEVER THE INPUT: true; the input reads as it did. -/
def fnExactCheckGrantSpec : ChangeSpec := { name := "fnExactCheckGrant", fn := fun _ => fun
  | [d1, d2, d3] => { results := [.lit (.bool true)], args := [d1, d2, d3] }
  | _ => none }
def fnExactCheckGrantRow : OpenClaim := { program := "ytnfoemgiebplmaa", sum := "2b72d031767998dd3e3099c25362361820eadbc8d526bcfc50a5cf93170d3d17", func := "loop.example/g01288/laws.FnExactCheckGrant", spec := "fnExactCheckGrant", inPlace := ["math.Float64bits", "math.Float64frombits"], unfollowed := true, recurses := true, apart := false }
def FnExactCheckGrantSaid : Prop := fnExactCheckGrantRow.holds Try.pinned (OpenSpec.ofChange fnExactCheckGrantSpec)

/-- ITS FALSE NEIGHBOUR: 'it returns false'. Refute it at one input. -/
def fnExactCheckGrantWrong : ChangeSpec := { name := "fnExactCheckGrant", fn := fun _ => fun
  | [d1, d2, d3] => { results := [.lit (.bool false)], args := [d1, d2, d3] }
  | _ => none }
def FnExactCheckGrantWrongFalsely : Prop := fnExactCheckGrantRow.holds Try.pinned (OpenSpec.ofChange fnExactCheckGrantWrong)

/-- 'laws.FnExactGrantInOrder': WHATEVER THE INPUT: true; the input reads as it did. -/
def fnExactGrantInOrderSpec : ChangeSpec := { name := "fnExactGrantInOrder", fn := fun _ => fun
  | [d1, d2] => { results := [.lit (.bool true)], args := [d1, d2] }
  | _ => none }
def fnExactGrantInOrderRow : OpenClaim := { program := "ytnfoemgiebplmaa", sum := "2b72d031767998dd3e3099c25362361820eadbc8d526bcfc50a5cf93170d3d17", func := "loop.example/g01288/laws.FnExactGrantInOrder", spec := "fnExactGrantInOrder", inPlace := ["math.Float64bits", "math.Float64frombits"], unfollowed := true, recurses := true, apart := false }
def FnExactGrantInOrderSaid : Prop := fnExactGrantInOrderRow.holds Try.pinned (OpenSpec.ofChange fnExactGrantInOrderSpec)

/-- ITS FALSE NEIGHBOUR: 'it returns false'. Refute it at one input. -/
def fnExactGrantInOrderWrong : ChangeSpec := { name := "fnExactGrantInOrder", fn := fun _ => fun
  | [d1, d2] => { results := [.lit (.bool false)], args := [d1, d2] }
  | _ => none }
def FnExactGrantInOrderWrongFalsely : Prop := fnExactGrantInOrderRow.holds Try.pinned (OpenSpec.ofChange fnExactGrantInOrderWrong)

/-- 'laws.FnLoggers': WHATEVER THE INPUT: true; the input reads as it did. -/
def fnLoggersSpec : ChangeSpec := { name := "fnLoggers", fn := fun _ => fun
  | [d1, d2] => { results := [.lit (.bool true)], args := [d1, d2] }
  | _ => none }
def fnLoggersRow : OpenClaim := { program := "ytnfoemgiebplmaa", sum := "2b72d031767998dd3e3099c25362361820eadbc8d526bcfc50a5cf93170d3d17", func := "loop.example/g01288/laws.FnLoggers", spec := "fnLoggers", inPlace := ["math.Float64bits", "math.Float64frombits"], unfollowed := true, recurses := true, apart := false }
def FnLoggersSaid : Prop := fnLoggersRow.holds Try.pinned (OpenSpec.ofChange fnLoggersSpec)

/-- ITS FALSE NEIGHBOUR: 'it returns false'. Refute it at one input. -/
def fnLoggersWrong : ChangeSpec := { name := "fnLoggers", fn := fun _ => fun
  | [d1, d2] => { results := [.lit (.bool false)], args := [d1, d2] }
  | _ => none }
def FnLoggersWrongFalsely : Prop := fnLoggersRow.holds Try.pinned (OpenSpec.ofChange fnLoggersWrong)

/- THE SECOND FORM. 'bulk': how many values and letters a reading holds, each counted each time it is reached (what is shared counts as often as it is met; a slice's spare places count too). A statement '..UptoSaid' is the law's where the arguments, and the package variables that the reading takes, are together of bulk at most 1048576: NARROWER than '..Said'. Prove '..Said' where nothing that the law and all that it calls make is longer than what came in: it says more and counts as full. Else prove '..UptoSaid'. A law counts once. -/
mutual
def uptoBulk {H : Type} : DataW H → Nat
  | .lit (.string bytes) => bytes.length + 1
  | .lit _ => 1
  | .nil => 1
  | .ptr d => uptoBulk d + 1
  | .slice elems spare => uptoBulkAll elems + uptoBulkAll spare + 1
  | .agg parts => uptoBulkAll parts + 1
  | .iface _ d => uptoBulk d + 1
  | .map entries => uptoBulkEntries entries + 1
  | .held _ => 1
def uptoBulkAll {H : Type} : List (DataW H) → Nat
  | [] => 0
  | d :: r => uptoBulk d + uptoBulkAll r
def uptoBulkEntries {H : Type} : List (Lit × DataW H) → Nat
  | [] => 0
  | x :: r => uptoBulkEntry x + uptoBulkEntries r
def uptoBulkEntry {H : Type} : Lit × DataW H → Nat
  | (.string bytes, d) => bytes.length + uptoBulk d + 1
  | (_, d) => uptoBulk d + 1
 end
def uptoSmall : (H : Type) → List (DataW H) → Bool := fun _ ds => decide (uptoBulkAll ds ≤ 1048576)
def OpenSpec.upto (s : _root_.Go.ChangeSpec) : _root_.Go.OpenSpec := { _root_.Go.OpenSpec.ofChange s with cond := some uptoSmall }

/-- 'laws.FnExactStepGround', WHERE WHAT IT READS IS OF BULK AT MOST 1048576: true; the input reads as it did. -/
def fnExactStepGroundUptoRow : OpenClaim := { program := "ytnfoemgiebplmaa", sum := "2b72d031767998dd3e3099c25362361820eadbc8d526bcfc50a5cf93170d3d17", func := "loop.example/g01288/laws.FnExactStepGround", spec := "fnExactStepGround", unfollowed := true, recurses := true, apart := false, narrowed := true }
def FnExactStepGroundUptoSaid : Prop := fnExactStepGroundUptoRow.holds Try.pinned (OpenSpec.upto fnExactStepGroundSpec)

/-- 'laws.FnExactStepsOf', WHERE WHAT IT READS IS OF BULK AT MOST 1048576: true; the input reads as it did. -/
def fnExactStepsOfUptoRow : OpenClaim := { program := "ytnfoemgiebplmaa", sum := "2b72d031767998dd3e3099c25362361820eadbc8d526bcfc50a5cf93170d3d17", func := "loop.example/g01288/laws.FnExactStepsOf", spec := "fnExactStepsOf", unfollowed := true, recurses := true, apart := false, narrowed := true }
def FnExactStepsOfUptoSaid : Prop := fnExactStepsOfUptoRow.holds Try.pinned (OpenSpec.upto fnExactStepsOfSpec)

/-- 'laws.FnExactStepsUntilStill', WHERE WHAT IT READS IS OF BULK AT MOST 1048576: true; the input reads as it did. -/
def fnExactStepsUntilStillUptoRow : OpenClaim := { program := "ytnfoemgiebplmaa", sum := "2b72d031767998dd3e3099c25362361820eadbc8d526bcfc50a5cf93170d3d17", func := "loop.example/g01288/laws.FnExactStepsUntilStill", spec := "fnExactStepsUntilStill", inPlace := ["math.Float64bits", "math.Float64frombits"], unfollowed := true, recurses := true, apart := false, narrowed := true }
def FnExactStepsUntilStillUptoSaid : Prop := fnExactStepsUntilStillUptoRow.holds Try.pinned (OpenSpec.upto fnExactStepsUntilStillSpec)

/-- 'laws.FnExactLoggedLevels', WHERE WHAT IT READS IS OF BULK AT MOST 1048576: true; the input reads as it did. -/
def fnExactLoggedLevelsUptoRow : OpenClaim := { program := "ytnfoemgiebplmaa", sum := "2b72d031767998dd3e3099c25362361820eadbc8d526bcfc50a5cf93170d3d17", func := "loop.example/g01288/laws.FnExactLoggedLevels", spec := "fnExactLoggedLevels", inPlace := ["math.Float64bits", "math.Float64frombits"], unfollowed := true, recurses := true, apart := false, narrowed := true }
def FnExactLoggedLevelsUptoSaid : Prop := fnExactLoggedLevelsUptoRow.holds Try.pinned (OpenSpec.upto fnExactLoggedLevelsSpec)

/-- 'laws.FnExactGroundWith', WHERE WHAT IT READS IS OF BULK AT MOST 1048576: true; the input reads as it did. -/
def fnExactGroundWithUptoRow : OpenClaim := { program := "ytnfoemgiebplmaa", sum := "2b72d031767998dd3e3099c25362361820eadbc8d526bcfc50a5cf93170d3d17", func := "loop.example/g01288/laws.FnExactGroundWith", spec := "fnExactGroundWith", inPlace := ["math.Float64bits", "math.Float64frombits"], unfollowed := true, recurses := true, apart := false, narrowed := true }
def FnExactGroundWithUptoSaid : Prop := fnExactGroundWithUptoRow.holds Try.pinned (OpenSpec.upto fnExactGroundWithSpec)

/-- 'laws.FnExactLevelsWith', WHERE WHAT IT READS IS OF BULK AT MOST 1048576: true; the input reads as it did. -/
def fnExactLevelsWithUptoRow : OpenClaim := { program := "ytnfoemgiebplmaa", sum := "2b72d031767998dd3e3099c25362361820eadbc8d526bcfc50a5cf93170d3d17", func := "loop.example/g01288/laws.FnExactLevelsWith", spec := "fnExactLevelsWith", inPlace := ["math.Float64bits", "math.Float64frombits"], unfollowed := true, recurses := true, apart := false, narrowed := true }
def FnExactLevelsWithUptoSaid : Prop := fnExactLevelsWithUptoRow.holds Try.pinned (OpenSpec.upto fnExactLevelsWithSpec)

/-- 'laws.FnExactFirstBelow', WHERE WHAT IT READS IS OF BULK AT MOST 1048576: true; the input reads as it did. -/
def fnExactFirstBelowUptoRow : OpenClaim := { program := "ytnfoemgiebplmaa", sum := "2b72d031767998dd3e3099c25362361820eadbc8d526bcfc50a5cf93170d3d17", func := "loop.example/g01288/laws.FnExactFirstBelow", spec := "fnExactFirstBelow", inPlace := ["math.Float64bits", "math.Float64frombits"], unfollowed := true, recurses := true, apart := false, narrowed := true }
def FnExactFirstBelowUptoSaid : Prop := fnExactFirstBelowUptoRow.holds Try.pinned (OpenSpec.upto fnExactFirstBelowSpec)

/-- 'laws.FnExactAreKept', WHERE WHAT IT READS IS OF BULK AT MOST 1048576: true; the input reads as it did. -/
def fnExactAreKeptUptoRow : OpenClaim := { program := "ytnfoemgiebplmaa", sum := "2b72d031767998dd3e3099c25362361820eadbc8d526bcfc50a5cf93170d3d17", func := "loop.example/g01288/laws.FnExactAreKept", spec := "fnExactAreKept", inPlace := ["math.Float64bits", "math.Float64frombits"], unfollowed := true, recurses := true, apart := false, narrowed := true }
def FnExactAreKeptUptoSaid : Prop := fnExactAreKeptUptoRow.holds Try.pinned (OpenSpec.upto fnExactAreKeptSpec)

/-- 'laws.FnExactGreatestPercent', WHERE WHAT IT READS IS OF BULK AT MOST 1048576: true; the input reads as it did. -/
def fnExactGreatestPercentUptoRow : OpenClaim := { program := "ytnfoemgiebplmaa", sum := "2b72d031767998dd3e3099c25362361820eadbc8d526bcfc50a5cf93170d3d17", func := "loop.example/g01288/laws.FnExactGreatestPercent", spec := "fnExactGreatestPercent", inPlace := ["math.Float64bits", "math.Float64frombits"], unfollowed := true, recurses := true, apart := false, narrowed := true }
def FnExactGreatestPercentUptoSaid : Prop := fnExactGreatestPercentUptoRow.holds Try.pinned (OpenSpec.upto fnExactGreatestPercentSpec)

/-- 'laws.FnExactCheckGrant', WHERE WHAT IT READS IS OF BULK AT MOST 1048576: true; the input reads as it did. -/
def fnExactCheckGrantUptoRow : OpenClaim := { program := "ytnfoemgiebplmaa", sum := "2b72d031767998dd3e3099c25362361820eadbc8d526bcfc50a5cf93170d3d17", func := "loop.example/g01288/laws.FnExactCheckGrant", spec := "fnExactCheckGrant", inPlace := ["math.Float64bits", "math.Float64frombits"], unfollowed := true, recurses := true, apart := false, narrowed := true }
def FnExactCheckGrantUptoSaid : Prop := fnExactCheckGrantUptoRow.holds Try.pinned (OpenSpec.upto fnExactCheckGrantSpec)

/-- 'laws.FnExactGrantInOrder', WHERE WHAT IT READS IS OF BULK AT MOST 1048576: true; the input reads as it did. -/
def fnExactGrantInOrderUptoRow : OpenClaim := { program := "ytnfoemgiebplmaa", sum := "2b72d031767998dd3e3099c25362361820eadbc8d526bcfc50a5cf93170d3d17", func := "loop.example/g01288/laws.FnExactGrantInOrder", spec := "fnExactGrantInOrder", inPlace := ["math.Float64bits", "math.Float64frombits"], unfollowed := true, recurses := true, apart := false, narrowed := true }
def FnExactGrantInOrderUptoSaid : Prop := fnExactGrantInOrderUptoRow.holds Try.pinned (OpenSpec.upto fnExactGrantInOrderSpec)

/-- 'laws.FnLoggers', WHERE WHAT IT READS IS OF BULK AT MOST 1048576: true; the input reads as it did. -/
def fnLoggersUptoRow : OpenClaim := { program := "ytnfoemgiebplmaa", sum := "2b72d031767998dd3e3099c25362361820eadbc8d526bcfc50a5cf93170d3d17", func := "loop.example/g01288/laws.FnLoggers", spec := "fnLoggers", inPlace := ["math.Float64bits", "math.Float64frombits"], unfollowed := true, recurses := true, apart := false, narrowed := true }
def FnLoggersUptoSaid : Prop := fnLoggersUptoRow.holds Try.pinned (OpenSpec.upto fnLoggersSpec)

end Rows
end Go.Proofs.Ytnfoemgiebplmaa
