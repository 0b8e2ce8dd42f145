/-
  No cell of these rows narrows 'for every input' (looked for: loops, veiled, ifaces, maps, wideKeys, modest, calm, conditions, laid).
  DERIVED. THE GIVEN ROWS OF THIS SEAT. 10 by the template 'for every input the law returns true; each argument reads behind the call as it read before'; 0 by the template 'total and deterministic' (their statements: YtililmlgladnaaaTotals.lean).
  GIVEN WITH THE SEED: the statements are not yours to turn. If you find one false, say at which input.
  Laid BY PROGRAM, IN A SANDBOX (cutbox-rows.mjs): the forced cells as the released guide's own fill.sh prints them over the translation 3d5f4f175ab2fdff… (all of the seat's roots in one cut). By AI agents, Wed Nov 11 2026. No macro, syntax, notation, axiom, sorry.
-/
import Derived.Test.YtililmlgladnaaaChecked
import GoSem.Claim
import GoSem.ClaimJoined
import GoSem.ClaimMapViews
import Derived.JoinedTies
import Derived.KernelRfl
namespace Go.Proofs.Ytililmlgladnaaa
/- THE CELL 'sum', in the pinned program and in every row, IS THE sha256 OF THE DUMP (.gsa) THAT YtililmlgladnaaaProg.lean LOADS. Nothing in Lean hashes anything: it is a label: what it is worth is what the hold of that sum in a sandbox is worth. -/
noncomputable def Try.pinned : Pinned := { name := "ytililmlgladnaaa", sum := "3d5f4f175ab2fdff4697c115ad34e11e196c4324adacb23f88e012c6b5c2f0b6", checked := Try.checked }
namespace Rows
def none {H : Type} : Left H := { results := [], args := [] }

/-- 'laws.FnExactDropsLogged': WHATEVER THE INPUT: true; the input reads as it did. -/
def fnExactDropsLoggedSpec : ChangeSpec := { name := "fnExactDropsLogged", fn := fun _ => fun
  | [d1, d2] => { results := [.lit (.bool true)], args := [d1, d2] }
  | _ => none }
def fnExactDropsLoggedRow : OpenClaim := { program := "ytililmlgladnaaa", sum := "3d5f4f175ab2fdff4697c115ad34e11e196c4324adacb23f88e012c6b5c2f0b6", func := "loop.example/g01288/laws.FnExactDropsLogged", spec := "fnExactDropsLogged", unfollowed := true, recurses := true, apart := false }
def FnExactDropsLoggedSaid : Prop := fnExactDropsLoggedRow.holds Try.pinned (OpenSpec.ofChange fnExactDropsLoggedSpec)

/-- ITS FALSE NEIGHBOUR: 'it returns false'. Refute it at one input. -/
def fnExactDropsLoggedWrong : ChangeSpec := { name := "fnExactDropsLogged", fn := fun _ => fun
  | [d1, d2] => { results := [.lit (.bool false)], args := [d1, d2] }
  | _ => none }
def FnExactDropsLoggedWrongFalsely : Prop := fnExactDropsLoggedRow.holds Try.pinned (OpenSpec.ofChange fnExactDropsLoggedWrong)

/-- 'laws.FnExactTurnOf': WHATEVER THE INPUT: true; the input reads as it did. -/
def fnExactTurnOfSpec : ChangeSpec := { name := "fnExactTurnOf", fn := fun _ => fun
  | [d] => { results := [.lit (.bool true)], args := [d] }
  | _ => none }
def fnExactTurnOfRow : OpenClaim := { program := "ytililmlgladnaaa", sum := "3d5f4f175ab2fdff4697c115ad34e11e196c4324adacb23f88e012c6b5c2f0b6", func := "loop.example/g01288/laws.FnExactTurnOf", spec := "fnExactTurnOf", apart := false }
def FnExactTurnOfSaid : Prop := fnExactTurnOfRow.holds Try.pinned (OpenSpec.ofChange fnExactTurnOfSpec)

/-- ITS FALSE NEIGHBOUR: 'it returns false'. Refute it at one input. -/
def fnExactTurnOfWrong : ChangeSpec := { name := "fnExactTurnOf", fn := fun _ => fun
  | [d] => { results := [.lit (.bool false)], args := [d] }
  | _ => none }
def FnExactTurnOfWrongFalsely : Prop := fnExactTurnOfRow.holds Try.pinned (OpenSpec.ofChange fnExactTurnOfWrong)

/-- 'laws.FnExactWaveFrom': WHATEVER THE INPUT: true; the input reads as it did. -/
def fnExactWaveFromSpec : ChangeSpec := { name := "fnExactWaveFrom", fn := fun _ => fun
  | [d] => { results := [.lit (.bool true)], args := [d] }
  | _ => none }
def fnExactWaveFromRow : OpenClaim := { program := "ytililmlgladnaaa", sum := "3d5f4f175ab2fdff4697c115ad34e11e196c4324adacb23f88e012c6b5c2f0b6", func := "loop.example/g01288/laws.FnExactWaveFrom", spec := "fnExactWaveFrom", apart := false }
def FnExactWaveFromSaid : Prop := fnExactWaveFromRow.holds Try.pinned (OpenSpec.ofChange fnExactWaveFromSpec)

/-- ITS FALSE NEIGHBOUR: 'it returns false'. Refute it at one input. -/
def fnExactWaveFromWrong : ChangeSpec := { name := "fnExactWaveFrom", fn := fun _ => fun
  | [d] => { results := [.lit (.bool false)], args := [d] }
  | _ => none }
def FnExactWaveFromWrongFalsely : Prop := fnExactWaveFromRow.holds Try.pinned (OpenSpec.ofChange fnExactWaveFromWrong)

/-- 'laws.FnExactSharesOfOwners': WHATEVER THE INPUT: true; the input reads as it did. -/
def fnExactSharesOfOwnersSpec : ChangeSpec := { name := "fnExactSharesOfOwners", fn := fun _ => fun
  | [d] => { results := [.lit (.bool true)], args := [d] }
  | _ => none }
def fnExactSharesOfOwnersRow : OpenClaim := { program := "ytililmlgladnaaa", sum := "3d5f4f175ab2fdff4697c115ad34e11e196c4324adacb23f88e012c6b5c2f0b6", func := "loop.example/g01288/laws.FnExactSharesOfOwners", spec := "fnExactSharesOfOwners", unfollowed := true, recurses := true, apart := false }
def FnExactSharesOfOwnersSaid : Prop := fnExactSharesOfOwnersRow.holds Try.pinned (OpenSpec.ofChange fnExactSharesOfOwnersSpec)

/-- ITS FALSE NEIGHBOUR: 'it returns false'. Refute it at one input. -/
def fnExactSharesOfOwnersWrong : ChangeSpec := { name := "fnExactSharesOfOwners", fn := fun _ => fun
  | [d] => { results := [.lit (.bool false)], args := [d] }
  | _ => none }
def FnExactSharesOfOwnersWrongFalsely : Prop := fnExactSharesOfOwnersRow.holds Try.pinned (OpenSpec.ofChange fnExactSharesOfOwnersWrong)

/-- 'laws.FnExactScaledPermits': WHATEVER THE INPUT: true; the input reads as it did. -/
def fnExactScaledPermitsSpec : ChangeSpec := { name := "fnExactScaledPermits", fn := fun _ => fun
  | [d1, d2] => { results := [.lit (.bool true)], args := [d1, d2] }
  | _ => none }
def fnExactScaledPermitsRow : OpenClaim := { program := "ytililmlgladnaaa", sum := "3d5f4f175ab2fdff4697c115ad34e11e196c4324adacb23f88e012c6b5c2f0b6", func := "loop.example/g01288/laws.FnExactScaledPermits", spec := "fnExactScaledPermits", unfollowed := true, recurses := true, apart := false }
def FnExactScaledPermitsSaid : Prop := fnExactScaledPermitsRow.holds Try.pinned (OpenSpec.ofChange fnExactScaledPermitsSpec)

/-- ITS FALSE NEIGHBOUR: 'it returns false'. Refute it at one input. -/
def fnExactScaledPermitsWrong : ChangeSpec := { name := "fnExactScaledPermits", fn := fun _ => fun
  | [d1, d2] => { results := [.lit (.bool false)], args := [d1, d2] }
  | _ => none }
def FnExactScaledPermitsWrongFalsely : Prop := fnExactScaledPermitsRow.holds Try.pinned (OpenSpec.ofChange fnExactScaledPermitsWrong)

/-- 'laws.FnExactLoggedLevels': WHATEVER THE INPUT: true; the input reads as it did. -/
def fnExactLoggedLevelsSpec : ChangeSpec := { name := "fnExactLoggedLevels", fn := fun _ => fun
  | [d] => { results := [.lit (.bool true)], args := [d] }
  | _ => none }
def fnExactLoggedLevelsRow : OpenClaim := { program := "ytililmlgladnaaa", sum := "3d5f4f175ab2fdff4697c115ad34e11e196c4324adacb23f88e012c6b5c2f0b6", func := "loop.example/g01288/laws.FnExactLoggedLevels", spec := "fnExactLoggedLevels", inPlace := ["math.Float64bits", "math.Float64frombits"], unfollowed := true, recurses := true, apart := false }
def FnExactLoggedLevelsSaid : Prop := fnExactLoggedLevelsRow.holds Try.pinned (OpenSpec.ofChange fnExactLoggedLevelsSpec)

/-- ITS FALSE NEIGHBOUR: 'it returns false'. Refute it at one input. -/
def fnExactLoggedLevelsWrong : ChangeSpec := { name := "fnExactLoggedLevels", fn := fun _ => fun
  | [d] => { results := [.lit (.bool false)], args := [d] }
  | _ => none }
def FnExactLoggedLevelsWrongFalsely : Prop := fnExactLoggedLevelsRow.holds Try.pinned (OpenSpec.ofChange fnExactLoggedLevelsWrong)

/-- 'laws.FnExactValidOffice': WHATEVER THE INPUT: true; the input reads as it did. -/
def fnExactValidOfficeSpec : ChangeSpec := { name := "fnExactValidOffice", fn := fun _ => fun
  | [d] => { results := [.lit (.bool true)], args := [d] }
  | _ => none }
def fnExactValidOfficeRow : OpenClaim := { program := "ytililmlgladnaaa", sum := "3d5f4f175ab2fdff4697c115ad34e11e196c4324adacb23f88e012c6b5c2f0b6", func := "loop.example/g01288/laws.FnExactValidOffice", spec := "fnExactValidOffice", unfollowed := true, recurses := true, apart := false }
def FnExactValidOfficeSaid : Prop := fnExactValidOfficeRow.holds Try.pinned (OpenSpec.ofChange fnExactValidOfficeSpec)

/-- ITS FALSE NEIGHBOUR: 'it returns false'. Refute it at one input. -/
def fnExactValidOfficeWrong : ChangeSpec := { name := "fnExactValidOffice", fn := fun _ => fun
  | [d] => { results := [.lit (.bool false)], args := [d] }
  | _ => none }
def FnExactValidOfficeWrongFalsely : Prop := fnExactValidOfficeRow.holds Try.pinned (OpenSpec.ofChange fnExactValidOfficeWrong)

/-- 'laws.FnLoggers': WHATEVER THE INPUT: true; the input reads as it did. -/
def fnLoggersSpec : ChangeSpec := { name := "fnLoggers", fn := fun _ => fun
  | [d1, d2] => { results := [.lit (.bool true)], args := [d1, d2] }
  | _ => none }
def fnLoggersRow : OpenClaim := { program := "ytililmlgladnaaa", sum := "3d5f4f175ab2fdff4697c115ad34e11e196c4324adacb23f88e012c6b5c2f0b6", func := "loop.example/g01288/laws.FnLoggers", spec := "fnLoggers", inPlace := ["math.Float64bits", "math.Float64frombits"], unfollowed := true, recurses := true, apart := false }
def FnLoggersSaid : Prop := fnLoggersRow.holds Try.pinned (OpenSpec.ofChange fnLoggersSpec)

/-- ITS FALSE NEIGHBOUR: 'it returns false'. Refute it at one input. -/
def fnLoggersWrong : ChangeSpec := { name := "fnLoggers", fn := fun _ => fun
  | [d1, d2] => { results := [.lit (.bool false)], args := [d1, d2] }
  | _ => none }
def FnLoggersWrongFalsely : Prop := fnLoggersRow.holds Try.pinned (OpenSpec.ofChange fnLoggersWrong)

/-- 'laws.FnExactValidPermits': WHATEVER THE INPUT: true; the input reads as it did. -/
def fnExactValidPermitsSpec : ChangeSpec := { name := "fnExactValidPermits", fn := fun _ => fun
  | [d1, d2] => { results := [.lit (.bool true)], args := [d1, d2] }
  | _ => none }
def fnExactValidPermitsRow : OpenClaim := { program := "ytililmlgladnaaa", sum := "3d5f4f175ab2fdff4697c115ad34e11e196c4324adacb23f88e012c6b5c2f0b6", func := "loop.example/g01288/laws.FnExactValidPermits", spec := "fnExactValidPermits", unfollowed := true, recurses := true, apart := false }
def FnExactValidPermitsSaid : Prop := fnExactValidPermitsRow.holds Try.pinned (OpenSpec.ofChange fnExactValidPermitsSpec)

/-- ITS FALSE NEIGHBOUR: 'it returns false'. Refute it at one input. -/
def fnExactValidPermitsWrong : ChangeSpec := { name := "fnExactValidPermits", fn := fun _ => fun
  | [d1, d2] => { results := [.lit (.bool false)], args := [d1, d2] }
  | _ => none }
def FnExactValidPermitsWrongFalsely : Prop := fnExactValidPermitsRow.holds Try.pinned (OpenSpec.ofChange fnExactValidPermitsWrong)

/-- 'laws.FnExactStepGround': WHATEVER THE INPUT: true; the input reads as it did. -/
def fnExactStepGroundSpec : ChangeSpec := { name := "fnExactStepGround", fn := fun _ => fun
  | [d1, d2] => { results := [.lit (.bool true)], args := [d1, d2] }
  | _ => none }
def fnExactStepGroundRow : OpenClaim := { program := "ytililmlgladnaaa", sum := "3d5f4f175ab2fdff4697c115ad34e11e196c4324adacb23f88e012c6b5c2f0b6", func := "loop.example/g01288/laws.FnExactStepGround", spec := "fnExactStepGround", unfollowed := true, recurses := true, apart := false }
def FnExactStepGroundSaid : Prop := fnExactStepGroundRow.holds Try.pinned (OpenSpec.ofChange fnExactStepGroundSpec)

/-- ITS FALSE NEIGHBOUR: 'it returns false'. Refute it at one input. -/
def fnExactStepGroundWrong : ChangeSpec := { name := "fnExactStepGround", fn := fun _ => fun
  | [d1, d2] => { results := [.lit (.bool false)], args := [d1, d2] }
  | _ => none }
def FnExactStepGroundWrongFalsely : Prop := fnExactStepGroundRow.holds Try.pinned (OpenSpec.ofChange fnExactStepGroundWrong)

/- THE SECOND FORM. 'bulk': how many values and letters a reading holds, each counted each time it is reached (what is shared counts as often as it is met; a slice's spare places count too). A statement '..UptoSaid' is the law's where the arguments, and the package variables that the reading takes, are together of bulk at most 1048576: NARROWER than '..Said'. Prove '..Said' where nothing that the law and all that it calls make is longer than what came in: it says more and counts as full. Else prove '..UptoSaid'. A law counts once. -/
mutual
def uptoBulk {H : Type} : DataW H → Nat
  | .lit (.string bytes) => bytes.length + 1
  | .lit _ => 1
  | .nil => 1
  | .ptr d => uptoBulk d + 1
  | .slice elems spare => uptoBulkAll elems + uptoBulkAll spare + 1
  | .agg parts => uptoBulkAll parts + 1
  | .iface _ d => uptoBulk d + 1
  | .map entries => uptoBulkEntries entries + 1
  | .held _ => 1
def uptoBulkAll {H : Type} : List (DataW H) → Nat
  | [] => 0
  | d :: r => uptoBulk d + uptoBulkAll r
def uptoBulkEntries {H : Type} : List (Lit × DataW H) → Nat
  | [] => 0
  | x :: r => uptoBulkEntry x + uptoBulkEntries r
def uptoBulkEntry {H : Type} : Lit × DataW H → Nat
  | (.string bytes, d) => bytes.length + uptoBulk d + 1
  | (_, d) => uptoBulk d + 1
 end
def uptoSmall : (H : Type) → List (DataW H) → Bool := fun _ ds => decide (uptoBulkAll ds ≤ 1048576)
def OpenSpec.upto (s : _root_.Go.ChangeSpec) : _root_.Go.OpenSpec := { _root_.Go.OpenSpec.ofChange s with cond := some uptoSmall }

/-- 'laws.FnExactDropsLogged', WHERE WHAT IT READS IS OF BULK AT MOST 1048576: true; the input reads as it did. -/
def fnExactDropsLoggedUptoRow : OpenClaim := { program := "ytililmlgladnaaa", sum := "3d5f4f175ab2fdff4697c115ad34e11e196c4324adacb23f88e012c6b5c2f0b6", func := "loop.example/g01288/laws.FnExactDropsLogged", spec := "fnExactDropsLogged", unfollowed := true, recurses := true, apart := false, narrowed := true }
def FnExactDropsLoggedUptoSaid : Prop := fnExactDropsLoggedUptoRow.holds Try.pinned (OpenSpec.upto fnExactDropsLoggedSpec)

/-- 'laws.FnExactTurnOf', WHERE WHAT IT READS IS OF BULK AT MOST 1048576: true; the input reads as it did. -/
def fnExactTurnOfUptoRow : OpenClaim := { program := "ytililmlgladnaaa", sum := "3d5f4f175ab2fdff4697c115ad34e11e196c4324adacb23f88e012c6b5c2f0b6", func := "loop.example/g01288/laws.FnExactTurnOf", spec := "fnExactTurnOf", apart := false, narrowed := true }
def FnExactTurnOfUptoSaid : Prop := fnExactTurnOfUptoRow.holds Try.pinned (OpenSpec.upto fnExactTurnOfSpec)

/-- 'laws.FnExactWaveFrom', WHERE WHAT IT READS IS OF BULK AT MOST 1048576: true; the input reads as it did. -/
def fnExactWaveFromUptoRow : OpenClaim := { program := "ytililmlgladnaaa", sum := "3d5f4f175ab2fdff4697c115ad34e11e196c4324adacb23f88e012c6b5c2f0b6", func := "loop.example/g01288/laws.FnExactWaveFrom", spec := "fnExactWaveFrom", apart := false, narrowed := true }
def FnExactWaveFromUptoSaid : Prop := fnExactWaveFromUptoRow.holds Try.pinned (OpenSpec.upto fnExactWaveFromSpec)

/-- 'laws.FnExactSharesOfOwners', WHERE WHAT IT READS IS OF BULK AT MOST 1048576: true; the input reads as it did. -/
def fnExactSharesOfOwnersUptoRow : OpenClaim := { program := "ytililmlgladnaaa", sum := "3d5f4f175ab2fdff4697c115ad34e11e196c4324adacb23f88e012c6b5c2f0b6", func := "loop.example/g01288/laws.FnExactSharesOfOwners", spec := "fnExactSharesOfOwners", unfollowed := true, recurses := true, apart := false, narrowed := true }
def FnExactSharesOfOwnersUptoSaid : Prop := fnExactSharesOfOwnersUptoRow.holds Try.pinned (OpenSpec.upto fnExactSharesOfOwnersSpec)

/-- 'laws.FnExactScaledPermits', WHERE WHAT IT READS IS OF BULK AT MOST 1048576: true; the input reads as it did. -/
def fnExactScaledPermitsUptoRow : OpenClaim := { program := "ytililmlgladnaaa", sum := "3d5f4f175ab2fdff4697c115ad34e11e196c4324adacb23f88e012c6b5c2f0b6", func := "loop.example/g01288/laws.FnExactScaledPermits", spec := "fnExactScaledPermits", unfollowed := true, recurses := true, apart := false, narrowed := true }
def FnExactScaledPermitsUptoSaid : Prop := fnExactScaledPermitsUptoRow.holds Try.pinned (OpenSpec.upto fnExactScaledPermitsSpec)

/-- 'laws.FnExactLoggedLevels', WHERE WHAT IT READS IS OF BULK AT MOST 1048576: true; the input reads as it did. -/
def fnExactLoggedLevelsUptoRow : OpenClaim := { program := "ytililmlgladnaaa", sum := "3d5f4f175ab2fdff4697c115ad34e11e196c4324adacb23f88e012c6b5c2f0b6", func := "loop.example/g01288/laws.FnExactLoggedLevels", spec := "fnExactLoggedLevels", inPlace := ["math.Float64bits", "math.Float64frombits"], unfollowed := true, recurses := true, apart := false, narrowed := true }
def FnExactLoggedLevelsUptoSaid : Prop := fnExactLoggedLevelsUptoRow.holds Try.pinned (OpenSpec.upto fnExactLoggedLevelsSpec)

/-- 'laws.FnExactValidOffice', WHERE WHAT IT READS IS OF BULK AT MOST 1048576: true; the input reads as it did. -/
def fnExactValidOfficeUptoRow : OpenClaim := { program := "ytililmlgladnaaa", sum := "3d5f4f175ab2fdff4697c115ad34e11e196c4324adacb23f88e012c6b5c2f0b6", func := "loop.example/g01288/laws.FnExactValidOffice", spec := "fnExactValidOffice", unfollowed := true, recurses := true, apart := false, narrowed := true }
def FnExactValidOfficeUptoSaid : Prop := fnExactValidOfficeUptoRow.holds Try.pinned (OpenSpec.upto fnExactValidOfficeSpec)

/-- 'laws.FnLoggers', WHERE WHAT IT READS IS OF BULK AT MOST 1048576: true; the input reads as it did. -/
def fnLoggersUptoRow : OpenClaim := { program := "ytililmlgladnaaa", sum := "3d5f4f175ab2fdff4697c115ad34e11e196c4324adacb23f88e012c6b5c2f0b6", func := "loop.example/g01288/laws.FnLoggers", spec := "fnLoggers", inPlace := ["math.Float64bits", "math.Float64frombits"], unfollowed := true, recurses := true, apart := false, narrowed := true }
def FnLoggersUptoSaid : Prop := fnLoggersUptoRow.holds Try.pinned (OpenSpec.upto fnLoggersSpec)

/-- 'laws.FnExactValidPermits', WHERE WHAT IT READS IS OF BULK AT MOST 1048576: true; the input reads as it did. -/
def fnExactValidPermitsUptoRow : OpenClaim := { program := "ytililmlgladnaaa", sum := "3d5f4f175ab2fdff4697c115ad34e11e196c4324adacb23f88e012c6b5c2f0b6", func := "loop.example/g01288/laws.FnExactValidPermits", spec := "fnExactValidPermits", unfollowed := true, recurses := true, apart := false, narrowed := true }
def FnExactValidPermitsUptoSaid : Prop := fnExactValidPermitsUptoRow.holds Try.pinned (OpenSpec.upto fnExactValidPermitsSpec)

/-- 'laws.FnExactStepGround', WHERE WHAT IT READS IS OF BULK AT MOST 1048576: true; the input reads as it did. -/
def fnExactStepGroundUptoRow : OpenClaim := { program := "ytililmlgladnaaa", sum := "3d5f4f175ab2fdff4697c115ad34e11e196c4324adacb23f88e012c6b5c2f0b6", func := "loop.example/g01288/laws.FnExactStepGround", spec := "fnExactStepGround", unfollowed := true, recurses := true, apart := false, narrowed := true }
def FnExactStepGroundUptoSaid : Prop := fnExactStepGroundUptoRow.holds Try.pinned (OpenSpec.upto fnExactStepGroundSpec)

end Rows
end Go.Proofs.Ytililmlgladnaaa
