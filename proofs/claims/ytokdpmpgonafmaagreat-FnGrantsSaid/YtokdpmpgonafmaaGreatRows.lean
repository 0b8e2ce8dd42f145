/-
  No cell of these rows narrows 'for every input' (looked for: loops, veiled, ifaces, maps, wideKeys, modest, calm, conditions, laid).
  DERIVED. THE GIVEN ROWS OF THIS SEAT. 3 by the template 'for every input the law returns true; each argument reads behind the call as it read before'; 0 by the template 'total and deterministic' (their statements: YtokdpmpgonafmaaGreatTotals.lean).
  GIVEN WITH THE SEED: the statements are not yours to turn. If you find one false, say at which input.
  Laid BY PROGRAM, IN A SANDBOX (cutbox-rows.mjs): the forced cells as the released guide's own fill.sh prints them over the translation 7ef54e5072654743… (all of the seat's roots in one cut). By AI agents, Wed Nov 11 2026. No macro, syntax, notation, axiom, sorry.
-/
import Derived.Test.YtokdpmpgonafmaaGreatChecked
import GoSem.Claim
import GoSem.ClaimJoined
import GoSem.ClaimMapViews
import Derived.JoinedTies
import Derived.KernelRfl
namespace Go.Proofs.YtokdpmpgonafmaaGreat
/- THE CELL 'sum', in the pinned program and in every row, IS THE sha256 OF THE DUMP (.gsa) THAT YtokdpmpgonafmaaGreatProg.lean LOADS. Nothing in Lean hashes anything: it is a label: what it is worth is what the hold of that sum in a sandbox is worth. -/
noncomputable def Tryz.pinned : Pinned := { name := "ytokdpmpgonafmaagreat", sum := "7ef54e5072654743c693c0369a86bccd86f74cefb5381a330278912629018a7d", checked := Tryz.checked }
namespace Rows
def none {H : Type} : Left H := { results := [], args := [] }

/-- 'laws.FnExactFewestRefused': WHATEVER THE INPUT: true; the input reads as it did. -/
def fnExactFewestRefusedSpec : ChangeSpec := { name := "fnExactFewestRefused", fn := fun _ => fun
  | [d1, d2] => { results := [.lit (.bool true)], args := [d1, d2] }
  | _ => none }
def fnExactFewestRefusedRow : OpenClaim := { program := "ytokdpmpgonafmaagreat", sum := "7ef54e5072654743c693c0369a86bccd86f74cefb5381a330278912629018a7d", func := "loop.example/g01288/laws.FnExactFewestRefused", spec := "fnExactFewestRefused", inPlace := ["math.Float64bits", "math.Float64frombits"], unfollowed := true, recurses := true, apart := false }
def FnExactFewestRefusedSaid : Prop := fnExactFewestRefusedRow.holds Tryz.pinned (OpenSpec.ofChange fnExactFewestRefusedSpec)

/-- ITS FALSE NEIGHBOUR: 'it returns false'. Refute it at one input. -/
def fnExactFewestRefusedWrong : ChangeSpec := { name := "fnExactFewestRefused", fn := fun _ => fun
  | [d1, d2] => { results := [.lit (.bool false)], args := [d1, d2] }
  | _ => none }
def FnExactFewestRefusedWrongFalsely : Prop := fnExactFewestRefusedRow.holds Tryz.pinned (OpenSpec.ofChange fnExactFewestRefusedWrong)

/-- 'laws.FnExactMostWater': WHATEVER THE INPUT: true; the input reads as it did. -/
def fnExactMostWaterSpec : ChangeSpec := { name := "fnExactMostWater", fn := fun _ => fun
  | [d1, d2] => { results := [.lit (.bool true)], args := [d1, d2] }
  | _ => none }
def fnExactMostWaterRow : OpenClaim := { program := "ytokdpmpgonafmaagreat", sum := "7ef54e5072654743c693c0369a86bccd86f74cefb5381a330278912629018a7d", func := "loop.example/g01288/laws.FnExactMostWater", spec := "fnExactMostWater", inPlace := ["math.Float64bits", "math.Float64frombits"], unfollowed := true, recurses := true, apart := false }
def FnExactMostWaterSaid : Prop := fnExactMostWaterRow.holds Tryz.pinned (OpenSpec.ofChange fnExactMostWaterSpec)

/-- ITS FALSE NEIGHBOUR: 'it returns false'. Refute it at one input. -/
def fnExactMostWaterWrong : ChangeSpec := { name := "fnExactMostWater", fn := fun _ => fun
  | [d1, d2] => { results := [.lit (.bool false)], args := [d1, d2] }
  | _ => none }
def FnExactMostWaterWrongFalsely : Prop := fnExactMostWaterRow.holds Tryz.pinned (OpenSpec.ofChange fnExactMostWaterWrong)

/-- 'laws.FnGrants': WHATEVER THE INPUT: true; the input reads as it did. -/
def fnGrantsSpec : ChangeSpec := { name := "fnGrants", fn := fun _ => fun
  | [d1, d2] => { results := [.lit (.bool true)], args := [d1, d2] }
  | _ => none }
def fnGrantsRow : OpenClaim := { program := "ytokdpmpgonafmaagreat", sum := "7ef54e5072654743c693c0369a86bccd86f74cefb5381a330278912629018a7d", func := "loop.example/g01288/laws.FnGrants", spec := "fnGrants", inPlace := ["math.Float64bits", "math.Float64frombits"], unfollowed := true, recurses := true, apart := false }
def FnGrantsSaid : Prop := fnGrantsRow.holds Tryz.pinned (OpenSpec.ofChange fnGrantsSpec)

/-- ITS FALSE NEIGHBOUR: 'it returns false'. Refute it at one input. -/
def fnGrantsWrong : ChangeSpec := { name := "fnGrants", fn := fun _ => fun
  | [d1, d2] => { results := [.lit (.bool false)], args := [d1, d2] }
  | _ => none }
def FnGrantsWrongFalsely : Prop := fnGrantsRow.holds Tryz.pinned (OpenSpec.ofChange fnGrantsWrong)

/- THE SECOND FORM. 'bulk': how many values and letters a reading holds, each counted each time it is reached (what is shared counts as often as it is met; a slice's spare places count too). A statement '..UptoSaid' is the law's where the arguments, and the package variables that the reading takes, are together of bulk at most 1048576: NARROWER than '..Said'. Prove '..Said' where nothing that the law and all that it calls make is longer than what came in: it says more and counts as full. Else prove '..UptoSaid'. A law counts once. -/
mutual
def uptoBulk {H : Type} : DataW H → Nat
  | .lit (.string bytes) => bytes.length + 1
  | .lit _ => 1
  | .nil => 1
  | .ptr d => uptoBulk d + 1
  | .slice elems spare => uptoBulkAll elems + uptoBulkAll spare + 1
  | .agg parts => uptoBulkAll parts + 1
  | .iface _ d => uptoBulk d + 1
  | .map entries => uptoBulkEntries entries + 1
  | .held _ => 1
def uptoBulkAll {H : Type} : List (DataW H) → Nat
  | [] => 0
  | d :: r => uptoBulk d + uptoBulkAll r
def uptoBulkEntries {H : Type} : List (Lit × DataW H) → Nat
  | [] => 0
  | x :: r => uptoBulkEntry x + uptoBulkEntries r
def uptoBulkEntry {H : Type} : Lit × DataW H → Nat
  | (.string bytes, d) => bytes.length + uptoBulk d + 1
  | (_, d) => uptoBulk d + 1
 end
def uptoSmall : (H : Type) → List (DataW H) → Bool := fun _ ds => decide (uptoBulkAll ds ≤ 1048576)
def OpenSpec.upto (s : _root_.Go.ChangeSpec) : _root_.Go.OpenSpec := { _root_.Go.OpenSpec.ofChange s with cond := some uptoSmall }

/-- 'laws.FnExactFewestRefused', WHERE WHAT IT READS IS OF BULK AT MOST 1048576: true; the input reads as it did. -/
def fnExactFewestRefusedUptoRow : OpenClaim := { program := "ytokdpmpgonafmaagreat", sum := "7ef54e5072654743c693c0369a86bccd86f74cefb5381a330278912629018a7d", func := "loop.example/g01288/laws.FnExactFewestRefused", spec := "fnExactFewestRefused", inPlace := ["math.Float64bits", "math.Float64frombits"], unfollowed := true, recurses := true, apart := false, narrowed := true }
def FnExactFewestRefusedUptoSaid : Prop := fnExactFewestRefusedUptoRow.holds Tryz.pinned (OpenSpec.upto fnExactFewestRefusedSpec)

/-- 'laws.FnExactMostWater', WHERE WHAT IT READS IS OF BULK AT MOST 1048576: true; the input reads as it did. -/
def fnExactMostWaterUptoRow : OpenClaim := { program := "ytokdpmpgonafmaagreat", sum := "7ef54e5072654743c693c0369a86bccd86f74cefb5381a330278912629018a7d", func := "loop.example/g01288/laws.FnExactMostWater", spec := "fnExactMostWater", inPlace := ["math.Float64bits", "math.Float64frombits"], unfollowed := true, recurses := true, apart := false, narrowed := true }
def FnExactMostWaterUptoSaid : Prop := fnExactMostWaterUptoRow.holds Tryz.pinned (OpenSpec.upto fnExactMostWaterSpec)

/-- 'laws.FnGrants', WHERE WHAT IT READS IS OF BULK AT MOST 1048576: true; the input reads as it did. -/
def fnGrantsUptoRow : OpenClaim := { program := "ytokdpmpgonafmaagreat", sum := "7ef54e5072654743c693c0369a86bccd86f74cefb5381a330278912629018a7d", func := "loop.example/g01288/laws.FnGrants", spec := "fnGrants", inPlace := ["math.Float64bits", "math.Float64frombits"], unfollowed := true, recurses := true, apart := false, narrowed := true }
def FnGrantsUptoSaid : Prop := fnGrantsUptoRow.holds Tryz.pinned (OpenSpec.upto fnGrantsSpec)

end Rows
end Go.Proofs.YtokdpmpgonafmaaGreat
