/-
  No cell of these rows narrows 'for every input' (looked for: loops, veiled, ifaces, maps, wideKeys, modest, calm, conditions, laid).
  DERIVED. THE GIVEN ROWS OF THIS SEAT. 4 by the template 'for every input the law returns true; each argument reads behind the call as it read before'; 0 by the template 'total and deterministic' (their statements: YtfbjoncpgjgppaaTotals.lean).
  GIVEN WITH THE SEED: the statements are not yours to turn. If you find one false, say at which input.
  Laid BY PROGRAM, IN A SANDBOX (cutbox-rows.mjs): the forced cells as the released guide's own fill.sh prints them over the translation ce94bb3ceee59f84… (all of the seat's roots in one cut). By AI agents, Wed Nov 11 2026. No macro, syntax, notation, axiom, sorry.
-/
import Derived.Test.YtfbjoncpgjgppaaChecked
import GoSem.Claim
import GoSem.ClaimJoined
import GoSem.ClaimMapViews
import Derived.JoinedTies
import Derived.KernelRfl
namespace Go.Proofs.Ytfbjoncpgjgppaa
/- THE CELL 'sum', in the pinned program and in every row, IS THE sha256 OF THE DUMP (.gsa) THAT YtfbjoncpgjgppaaProg.lean LOADS. Nothing in Lean hashes anything: it is a label: what it is worth is what the hold of that sum in a sandbox is worth. -/
noncomputable def Try.pinned : Pinned := { name := "ytfbjoncpgjgppaa", sum := "ce94bb3ceee59f84982c5a16f1a926cfc644b5b6a6974b25f2da152870ffbd11", checked := Try.checked }
namespace Rows
def none {H : Type} : Left H := { results := [], args := [] }

/-- 'laws.FnExactIsIntegralRing': WHATEVER THE INPUT: true; the input reads as it did. -/
def fnExactIsIntegralRingSpec : ChangeSpec := { name := "fnExactIsIntegralRing", fn := fun _ => fun
  | [d] => { results := [.lit (.bool true)], args := [d] }
  | _ => none }
def fnExactIsIntegralRingRow : OpenClaim := { program := "ytfbjoncpgjgppaa", sum := "ce94bb3ceee59f84982c5a16f1a926cfc644b5b6a6974b25f2da152870ffbd11", func := "loop.example/g01132/laws.FnExactIsIntegralRing", spec := "fnExactIsIntegralRing", inPlace := ["math.Float64bits", "math.Float64frombits"], unfollowed := true, recurses := true, apart := false }
def FnExactIsIntegralRingSaid : Prop := fnExactIsIntegralRingRow.holds Try.pinned (OpenSpec.ofChange fnExactIsIntegralRingSpec)

/-- ITS FALSE NEIGHBOUR: 'it returns false'. Refute it at one input. -/
def fnExactIsIntegralRingWrong : ChangeSpec := { name := "fnExactIsIntegralRing", fn := fun _ => fun
  | [d] => { results := [.lit (.bool false)], args := [d] }
  | _ => none }
def FnExactIsIntegralRingWrongFalsely : Prop := fnExactIsIntegralRingRow.holds Try.pinned (OpenSpec.ofChange fnExactIsIntegralRingWrong)

/-- 'laws.FnExactWholeDimension': WHATEVER THE INPUT: true; the input reads as it did. -/
def fnExactWholeDimensionSpec : ChangeSpec := { name := "fnExactWholeDimension", fn := fun _ => fun
  | [d] => { results := [.lit (.bool true)], args := [d] }
  | _ => none }
def fnExactWholeDimensionRow : OpenClaim := { program := "ytfbjoncpgjgppaa", sum := "ce94bb3ceee59f84982c5a16f1a926cfc644b5b6a6974b25f2da152870ffbd11", func := "loop.example/g01132/laws.FnExactWholeDimension", spec := "fnExactWholeDimension", inPlace := ["math.Float64bits", "math.Float64frombits"], unfollowed := true, recurses := true, apart := false }
def FnExactWholeDimensionSaid : Prop := fnExactWholeDimensionRow.holds Try.pinned (OpenSpec.ofChange fnExactWholeDimensionSpec)

/-- ITS FALSE NEIGHBOUR: 'it returns false'. Refute it at one input. -/
def fnExactWholeDimensionWrong : ChangeSpec := { name := "fnExactWholeDimension", fn := fun _ => fun
  | [d] => { results := [.lit (.bool false)], args := [d] }
  | _ => none }
def FnExactWholeDimensionWrongFalsely : Prop := fnExactWholeDimensionRow.holds Try.pinned (OpenSpec.ofChange fnExactWholeDimensionWrong)

/-- 'laws.FnExactDimensionOfVector': WHATEVER THE INPUT: true; the input reads as it did. -/
def fnExactDimensionOfVectorSpec : ChangeSpec := { name := "fnExactDimensionOfVector", fn := fun _ => fun
  | [d1, d2] => { results := [.lit (.bool true)], args := [d1, d2] }
  | _ => none }
def fnExactDimensionOfVectorRow : OpenClaim := { program := "ytfbjoncpgjgppaa", sum := "ce94bb3ceee59f84982c5a16f1a926cfc644b5b6a6974b25f2da152870ffbd11", func := "loop.example/g01132/laws.FnExactDimensionOfVector", spec := "fnExactDimensionOfVector", inPlace := ["math.Float64bits", "math.Float64frombits"], unfollowed := true, recurses := true, apart := false }
def FnExactDimensionOfVectorSaid : Prop := fnExactDimensionOfVectorRow.holds Try.pinned (OpenSpec.ofChange fnExactDimensionOfVectorSpec)

/-- ITS FALSE NEIGHBOUR: 'it returns false'. Refute it at one input. -/
def fnExactDimensionOfVectorWrong : ChangeSpec := { name := "fnExactDimensionOfVector", fn := fun _ => fun
  | [d1, d2] => { results := [.lit (.bool false)], args := [d1, d2] }
  | _ => none }
def FnExactDimensionOfVectorWrongFalsely : Prop := fnExactDimensionOfVectorRow.holds Try.pinned (OpenSpec.ofChange fnExactDimensionOfVectorWrong)

/-- 'laws.FnExactIntegerDimensions': WHATEVER THE INPUT: true; the input reads as it did. -/
def fnExactIntegerDimensionsSpec : ChangeSpec := { name := "fnExactIntegerDimensions", fn := fun _ => fun
  | [d] => { results := [.lit (.bool true)], args := [d] }
  | _ => none }
def fnExactIntegerDimensionsRow : OpenClaim := { program := "ytfbjoncpgjgppaa", sum := "ce94bb3ceee59f84982c5a16f1a926cfc644b5b6a6974b25f2da152870ffbd11", func := "loop.example/g01132/laws.FnExactIntegerDimensions", spec := "fnExactIntegerDimensions", inPlace := ["math.Float64bits", "math.Float64frombits"], unfollowed := true, recurses := true, apart := false }
def FnExactIntegerDimensionsSaid : Prop := fnExactIntegerDimensionsRow.holds Try.pinned (OpenSpec.ofChange fnExactIntegerDimensionsSpec)

/-- ITS FALSE NEIGHBOUR: 'it returns false'. Refute it at one input. -/
def fnExactIntegerDimensionsWrong : ChangeSpec := { name := "fnExactIntegerDimensions", fn := fun _ => fun
  | [d] => { results := [.lit (.bool false)], args := [d] }
  | _ => none }
def FnExactIntegerDimensionsWrongFalsely : Prop := fnExactIntegerDimensionsRow.holds Try.pinned (OpenSpec.ofChange fnExactIntegerDimensionsWrong)

/- THE SECOND FORM. 'bulk': how many values and letters a reading holds, each counted each time it is reached (what is shared counts as often as it is met; a slice's spare places count too). A statement '..UptoSaid' is the law's where the arguments, and the package variables that the reading takes, are together of bulk at most 1048576: NARROWER than '..Said'. Prove '..Said' where nothing that the law and all that it calls make is longer than what came in: it says more and counts as full. Else prove '..UptoSaid'. A law counts once. -/
mutual
def uptoBulk {H : Type} : DataW H → Nat
  | .lit (.string bytes) => bytes.length + 1
  | .lit _ => 1
  | .nil => 1
  | .ptr d => uptoBulk d + 1
  | .slice elems spare => uptoBulkAll elems + uptoBulkAll spare + 1
  | .agg parts => uptoBulkAll parts + 1
  | .iface _ d => uptoBulk d + 1
  | .map entries => uptoBulkEntries entries + 1
  | .held _ => 1
def uptoBulkAll {H : Type} : List (DataW H) → Nat
  | [] => 0
  | d :: r => uptoBulk d + uptoBulkAll r
def uptoBulkEntries {H : Type} : List (Lit × DataW H) → Nat
  | [] => 0
  | x :: r => uptoBulkEntry x + uptoBulkEntries r
def uptoBulkEntry {H : Type} : Lit × DataW H → Nat
  | (.string bytes, d) => bytes.length + uptoBulk d + 1
  | (_, d) => uptoBulk d + 1
 end
def uptoSmall : (H : Type) → List (DataW H) → Bool := fun _ ds => decide (uptoBulkAll ds ≤ 1048576)
def OpenSpec.upto (s : _root_.Go.ChangeSpec) : _root_.Go.OpenSpec := { _root_.Go.OpenSpec.ofChange s with cond := some uptoSmall }

/-- 'laws.FnExactIsIntegralRing', WHERE WHAT IT READS IS OF BULK AT MOST 1048576: true; the input reads as it did. -/
def fnExactIsIntegralRingUptoRow : OpenClaim := { program := "ytfbjoncpgjgppaa", sum := "ce94bb3ceee59f84982c5a16f1a926cfc644b5b6a6974b25f2da152870ffbd11", func := "loop.example/g01132/laws.FnExactIsIntegralRing", spec := "fnExactIsIntegralRing", inPlace := ["math.Float64bits", "math.Float64frombits"], unfollowed := true, recurses := true, apart := false, narrowed := true }
def FnExactIsIntegralRingUptoSaid : Prop := fnExactIsIntegralRingUptoRow.holds Try.pinned (OpenSpec.upto fnExactIsIntegralRingSpec)

/-- 'laws.FnExactWholeDimension', WHERE WHAT IT READS IS OF BULK AT MOST 1048576: true; the input reads as it did. -/
def fnExactWholeDimensionUptoRow : OpenClaim := { program := "ytfbjoncpgjgppaa", sum := "ce94bb3ceee59f84982c5a16f1a926cfc644b5b6a6974b25f2da152870ffbd11", func := "loop.example/g01132/laws.FnExactWholeDimension", spec := "fnExactWholeDimension", inPlace := ["math.Float64bits", "math.Float64frombits"], unfollowed := true, recurses := true, apart := false, narrowed := true }
def FnExactWholeDimensionUptoSaid : Prop := fnExactWholeDimensionUptoRow.holds Try.pinned (OpenSpec.upto fnExactWholeDimensionSpec)

/-- 'laws.FnExactDimensionOfVector', WHERE WHAT IT READS IS OF BULK AT MOST 1048576: true; the input reads as it did. -/
def fnExactDimensionOfVectorUptoRow : OpenClaim := { program := "ytfbjoncpgjgppaa", sum := "ce94bb3ceee59f84982c5a16f1a926cfc644b5b6a6974b25f2da152870ffbd11", func := "loop.example/g01132/laws.FnExactDimensionOfVector", spec := "fnExactDimensionOfVector", inPlace := ["math.Float64bits", "math.Float64frombits"], unfollowed := true, recurses := true, apart := false, narrowed := true }
def FnExactDimensionOfVectorUptoSaid : Prop := fnExactDimensionOfVectorUptoRow.holds Try.pinned (OpenSpec.upto fnExactDimensionOfVectorSpec)

/-- 'laws.FnExactIntegerDimensions', WHERE WHAT IT READS IS OF BULK AT MOST 1048576: true; the input reads as it did. -/
def fnExactIntegerDimensionsUptoRow : OpenClaim := { program := "ytfbjoncpgjgppaa", sum := "ce94bb3ceee59f84982c5a16f1a926cfc644b5b6a6974b25f2da152870ffbd11", func := "loop.example/g01132/laws.FnExactIntegerDimensions", spec := "fnExactIntegerDimensions", inPlace := ["math.Float64bits", "math.Float64frombits"], unfollowed := true, recurses := true, apart := false, narrowed := true }
def FnExactIntegerDimensionsUptoSaid : Prop := fnExactIntegerDimensionsUptoRow.holds Try.pinned (OpenSpec.upto fnExactIntegerDimensionsSpec)

end Rows
end Go.Proofs.Ytfbjoncpgjgppaa
