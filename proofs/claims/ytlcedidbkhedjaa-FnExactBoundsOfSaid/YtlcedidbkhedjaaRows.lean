/-
  No cell of these rows narrows 'for every input' (looked for: loops, veiled, ifaces, maps, wideKeys, modest, calm, conditions, laid).
  DERIVED. THE GIVEN ROWS OF THIS SEAT. 7 by the template 'for every input the law returns true; each argument reads behind the call as it read before'; 0 by the template 'total and deterministic' (their statements: YtlcedidbkhedjaaTotals.lean).
  GIVEN WITH THE SEED: the statements are not yours to turn. If you find one false, say at which input.
  Laid BY PROGRAM, IN A SANDBOX (cutbox-rows.mjs): the forced cells as the released guide's own fill.sh prints them over the translation a5f5a13a71e0d352… (all of the seat's roots in one cut). By AI agents, Wed Nov 11 2026. No macro, syntax, notation, axiom, sorry.
-/
import Derived.Test.YtlcedidbkhedjaaChecked
import GoSem.Claim
import GoSem.ClaimJoined
import GoSem.ClaimMapViews
import Derived.JoinedTies
import Derived.KernelRfl
namespace Go.Proofs.Ytlcedidbkhedjaa
/- THE CELL 'sum', in the pinned program and in every row, IS THE sha256 OF THE DUMP (.gsa) THAT YtlcedidbkhedjaaProg.lean LOADS. Nothing in Lean hashes anything: it is a label: what it is worth is what the hold of that sum in a sandbox is worth. -/
noncomputable def Try.pinned : Pinned := { name := "ytlcedidbkhedjaa", sum := "a5f5a13a71e0d352a4147775fbc1b6c352e9e2aa0ce6707fd4677274e1716761", checked := Try.checked }
namespace Rows
def none {H : Type} : Left H := { results := [], args := [] }

/-- 'laws.FnExactOppositeRing': WHATEVER THE INPUT: true; the input reads as it did. -/
def fnExactOppositeRingSpec : ChangeSpec := { name := "fnExactOppositeRing", fn := fun _ => fun
  | [d] => { results := [.lit (.bool true)], args := [d] }
  | _ => none }
def fnExactOppositeRingRow : OpenClaim := { program := "ytlcedidbkhedjaa", sum := "a5f5a13a71e0d352a4147775fbc1b6c352e9e2aa0ce6707fd4677274e1716761", func := "loop.example/g01132/laws.FnExactOppositeRing", spec := "fnExactOppositeRing", unfollowed := true, recurses := true, apart := false }
def FnExactOppositeRingSaid : Prop := fnExactOppositeRingRow.holds Try.pinned (OpenSpec.ofChange fnExactOppositeRingSpec)

/-- ITS FALSE NEIGHBOUR: 'it returns false'. Refute it at one input. -/
def fnExactOppositeRingWrong : ChangeSpec := { name := "fnExactOppositeRing", fn := fun _ => fun
  | [d] => { results := [.lit (.bool false)], args := [d] }
  | _ => none }
def FnExactOppositeRingWrongFalsely : Prop := fnExactOppositeRingRow.holds Try.pinned (OpenSpec.ofChange fnExactOppositeRingWrong)

/-- 'laws.FnExactProductRing': WHATEVER THE INPUT: true; the input reads as it did. -/
def fnExactProductRingSpec : ChangeSpec := { name := "fnExactProductRing", fn := fun _ => fun
  | [d1, d2] => { results := [.lit (.bool true)], args := [d1, d2] }
  | _ => none }
def fnExactProductRingRow : OpenClaim := { program := "ytlcedidbkhedjaa", sum := "a5f5a13a71e0d352a4147775fbc1b6c352e9e2aa0ce6707fd4677274e1716761", func := "loop.example/g01132/laws.FnExactProductRing", spec := "fnExactProductRing", unfollowed := true, recurses := true, apart := false }
def FnExactProductRingSaid : Prop := fnExactProductRingRow.holds Try.pinned (OpenSpec.ofChange fnExactProductRingSpec)

/-- ITS FALSE NEIGHBOUR: 'it returns false'. Refute it at one input. -/
def fnExactProductRingWrong : ChangeSpec := { name := "fnExactProductRing", fn := fun _ => fun
  | [d1, d2] => { results := [.lit (.bool false)], args := [d1, d2] }
  | _ => none }
def FnExactProductRingWrongFalsely : Prop := fnExactProductRingRow.holds Try.pinned (OpenSpec.ofChange fnExactProductRingWrong)

/-- 'laws.FnExactWeightsOf': WHATEVER THE INPUT: true; the input reads as it did. -/
def fnExactWeightsOfSpec : ChangeSpec := { name := "fnExactWeightsOf", fn := fun _ => fun
  | [d1, d2] => { results := [.lit (.bool true)], args := [d1, d2] }
  | _ => none }
def fnExactWeightsOfRow : OpenClaim := { program := "ytlcedidbkhedjaa", sum := "a5f5a13a71e0d352a4147775fbc1b6c352e9e2aa0ce6707fd4677274e1716761", func := "loop.example/g01132/laws.FnExactWeightsOf", spec := "fnExactWeightsOf", unfollowed := true, recurses := true, apart := false }
def FnExactWeightsOfSaid : Prop := fnExactWeightsOfRow.holds Try.pinned (OpenSpec.ofChange fnExactWeightsOfSpec)

/-- ITS FALSE NEIGHBOUR: 'it returns false'. Refute it at one input. -/
def fnExactWeightsOfWrong : ChangeSpec := { name := "fnExactWeightsOf", fn := fun _ => fun
  | [d1, d2] => { results := [.lit (.bool false)], args := [d1, d2] }
  | _ => none }
def FnExactWeightsOfWrongFalsely : Prop := fnExactWeightsOfRow.holds Try.pinned (OpenSpec.ofChange fnExactWeightsOfWrong)

/-- 'laws.FnExactBoundsOf': WHATEVER THE INPUT: true; the input reads as it did. -/
def fnExactBoundsOfSpec : ChangeSpec := { name := "fnExactBoundsOf", fn := fun _ => fun
  | [d1, d2, d3] => { results := [.lit (.bool true)], args := [d1, d2, d3] }
  | _ => none }
def fnExactBoundsOfRow : OpenClaim := { program := "ytlcedidbkhedjaa", sum := "a5f5a13a71e0d352a4147775fbc1b6c352e9e2aa0ce6707fd4677274e1716761", func := "loop.example/g01132/laws.FnExactBoundsOf", spec := "fnExactBoundsOf", unfollowed := true, recurses := true, apart := false }
def FnExactBoundsOfSaid : Prop := fnExactBoundsOfRow.holds Try.pinned (OpenSpec.ofChange fnExactBoundsOfSpec)

/-- ITS FALSE NEIGHBOUR: 'it returns false'. Refute it at one input. -/
def fnExactBoundsOfWrong : ChangeSpec := { name := "fnExactBoundsOf", fn := fun _ => fun
  | [d1, d2, d3] => { results := [.lit (.bool false)], args := [d1, d2, d3] }
  | _ => none }
def FnExactBoundsOfWrongFalsely : Prop := fnExactBoundsOfRow.holds Try.pinned (OpenSpec.ofChange fnExactBoundsOfWrong)

/-- 'laws.FnExactIsIntegralRing': WHATEVER THE INPUT: true; the input reads as it did. -/
def fnExactIsIntegralRingSpec : ChangeSpec := { name := "fnExactIsIntegralRing", fn := fun _ => fun
  | [d] => { results := [.lit (.bool true)], args := [d] }
  | _ => none }
def fnExactIsIntegralRingRow : OpenClaim := { program := "ytlcedidbkhedjaa", sum := "a5f5a13a71e0d352a4147775fbc1b6c352e9e2aa0ce6707fd4677274e1716761", func := "loop.example/g01132/laws.FnExactIsIntegralRing", spec := "fnExactIsIntegralRing", inPlace := ["math.Float64bits", "math.Float64frombits"], unfollowed := true, recurses := true, apart := false }
def FnExactIsIntegralRingSaid : Prop := fnExactIsIntegralRingRow.holds Try.pinned (OpenSpec.ofChange fnExactIsIntegralRingSpec)

/-- ITS FALSE NEIGHBOUR: 'it returns false'. Refute it at one input. -/
def fnExactIsIntegralRingWrong : ChangeSpec := { name := "fnExactIsIntegralRing", fn := fun _ => fun
  | [d] => { results := [.lit (.bool false)], args := [d] }
  | _ => none }
def FnExactIsIntegralRingWrongFalsely : Prop := fnExactIsIntegralRingRow.holds Try.pinned (OpenSpec.ofChange fnExactIsIntegralRingWrong)

/-- 'laws.FnExactWholeDimension': WHATEVER THE INPUT: true; the input reads as it did. -/
def fnExactWholeDimensionSpec : ChangeSpec := { name := "fnExactWholeDimension", fn := fun _ => fun
  | [d] => { results := [.lit (.bool true)], args := [d] }
  | _ => none }
def fnExactWholeDimensionRow : OpenClaim := { program := "ytlcedidbkhedjaa", sum := "a5f5a13a71e0d352a4147775fbc1b6c352e9e2aa0ce6707fd4677274e1716761", func := "loop.example/g01132/laws.FnExactWholeDimension", spec := "fnExactWholeDimension", inPlace := ["math.Float64bits", "math.Float64frombits"], unfollowed := true, recurses := true, apart := false }
def FnExactWholeDimensionSaid : Prop := fnExactWholeDimensionRow.holds Try.pinned (OpenSpec.ofChange fnExactWholeDimensionSpec)

/-- ITS FALSE NEIGHBOUR: 'it returns false'. Refute it at one input. -/
def fnExactWholeDimensionWrong : ChangeSpec := { name := "fnExactWholeDimension", fn := fun _ => fun
  | [d] => { results := [.lit (.bool false)], args := [d] }
  | _ => none }
def FnExactWholeDimensionWrongFalsely : Prop := fnExactWholeDimensionRow.holds Try.pinned (OpenSpec.ofChange fnExactWholeDimensionWrong)

/-- 'laws.FnExactDimensionOfVector': WHATEVER THE INPUT: true; the input reads as it did. -/
def fnExactDimensionOfVectorSpec : ChangeSpec := { name := "fnExactDimensionOfVector", fn := fun _ => fun
  | [d1, d2] => { results := [.lit (.bool true)], args := [d1, d2] }
  | _ => none }
def fnExactDimensionOfVectorRow : OpenClaim := { program := "ytlcedidbkhedjaa", sum := "a5f5a13a71e0d352a4147775fbc1b6c352e9e2aa0ce6707fd4677274e1716761", func := "loop.example/g01132/laws.FnExactDimensionOfVector", spec := "fnExactDimensionOfVector", inPlace := ["math.Float64bits", "math.Float64frombits"], unfollowed := true, recurses := true, apart := false }
def FnExactDimensionOfVectorSaid : Prop := fnExactDimensionOfVectorRow.holds Try.pinned (OpenSpec.ofChange fnExactDimensionOfVectorSpec)

/-- ITS FALSE NEIGHBOUR: 'it returns false'. Refute it at one input. -/
def fnExactDimensionOfVectorWrong : ChangeSpec := { name := "fnExactDimensionOfVector", fn := fun _ => fun
  | [d1, d2] => { results := [.lit (.bool false)], args := [d1, d2] }
  | _ => none }
def FnExactDimensionOfVectorWrongFalsely : Prop := fnExactDimensionOfVectorRow.holds Try.pinned (OpenSpec.ofChange fnExactDimensionOfVectorWrong)

/- THE SECOND FORM. 'bulk': how many values and letters a reading holds, each counted each time it is reached (what is shared counts as often as it is met; a slice's spare places count too). A statement '..UptoSaid' is the law's where the arguments, and the package variables that the reading takes, are together of bulk at most 1048576: NARROWER than '..Said'. Prove '..Said' where nothing that the law and all that it calls make is longer than what came in: it says more and counts as full. Else prove '..UptoSaid'. A law counts once. -/
mutual
def uptoBulk {H : Type} : DataW H → Nat
  | .lit (.string bytes) => bytes.length + 1
  | .lit _ => 1
  | .nil => 1
  | .ptr d => uptoBulk d + 1
  | .slice elems spare => uptoBulkAll elems + uptoBulkAll spare + 1
  | .agg parts => uptoBulkAll parts + 1
  | .iface _ d => uptoBulk d + 1
  | .map entries => uptoBulkEntries entries + 1
  | .held _ => 1
def uptoBulkAll {H : Type} : List (DataW H) → Nat
  | [] => 0
  | d :: r => uptoBulk d + uptoBulkAll r
def uptoBulkEntries {H : Type} : List (Lit × DataW H) → Nat
  | [] => 0
  | x :: r => uptoBulkEntry x + uptoBulkEntries r
def uptoBulkEntry {H : Type} : Lit × DataW H → Nat
  | (.string bytes, d) => bytes.length + uptoBulk d + 1
  | (_, d) => uptoBulk d + 1
 end
def uptoSmall : (H : Type) → List (DataW H) → Bool := fun _ ds => decide (uptoBulkAll ds ≤ 1048576)
def OpenSpec.upto (s : _root_.Go.ChangeSpec) : _root_.Go.OpenSpec := { _root_.Go.OpenSpec.ofChange s with cond := some uptoSmall }

/-- 'laws.FnExactOppositeRing', WHERE WHAT IT READS IS OF BULK AT MOST 1048576: true; the input reads as it did. -/
def fnExactOppositeRingUptoRow : OpenClaim := { program := "ytlcedidbkhedjaa", sum := "a5f5a13a71e0d352a4147775fbc1b6c352e9e2aa0ce6707fd4677274e1716761", func := "loop.example/g01132/laws.FnExactOppositeRing", spec := "fnExactOppositeRing", unfollowed := true, recurses := true, apart := false, narrowed := true }
def FnExactOppositeRingUptoSaid : Prop := fnExactOppositeRingUptoRow.holds Try.pinned (OpenSpec.upto fnExactOppositeRingSpec)

/-- 'laws.FnExactProductRing', WHERE WHAT IT READS IS OF BULK AT MOST 1048576: true; the input reads as it did. -/
def fnExactProductRingUptoRow : OpenClaim := { program := "ytlcedidbkhedjaa", sum := "a5f5a13a71e0d352a4147775fbc1b6c352e9e2aa0ce6707fd4677274e1716761", func := "loop.example/g01132/laws.FnExactProductRing", spec := "fnExactProductRing", unfollowed := true, recurses := true, apart := false, narrowed := true }
def FnExactProductRingUptoSaid : Prop := fnExactProductRingUptoRow.holds Try.pinned (OpenSpec.upto fnExactProductRingSpec)

/-- 'laws.FnExactWeightsOf', WHERE WHAT IT READS IS OF BULK AT MOST 1048576: true; the input reads as it did. -/
def fnExactWeightsOfUptoRow : OpenClaim := { program := "ytlcedidbkhedjaa", sum := "a5f5a13a71e0d352a4147775fbc1b6c352e9e2aa0ce6707fd4677274e1716761", func := "loop.example/g01132/laws.FnExactWeightsOf", spec := "fnExactWeightsOf", unfollowed := true, recurses := true, apart := false, narrowed := true }
def FnExactWeightsOfUptoSaid : Prop := fnExactWeightsOfUptoRow.holds Try.pinned (OpenSpec.upto fnExactWeightsOfSpec)

/-- 'laws.FnExactBoundsOf', WHERE WHAT IT READS IS OF BULK AT MOST 1048576: true; the input reads as it did. -/
def fnExactBoundsOfUptoRow : OpenClaim := { program := "ytlcedidbkhedjaa", sum := "a5f5a13a71e0d352a4147775fbc1b6c352e9e2aa0ce6707fd4677274e1716761", func := "loop.example/g01132/laws.FnExactBoundsOf", spec := "fnExactBoundsOf", unfollowed := true, recurses := true, apart := false, narrowed := true }
def FnExactBoundsOfUptoSaid : Prop := fnExactBoundsOfUptoRow.holds Try.pinned (OpenSpec.upto fnExactBoundsOfSpec)

/-- 'laws.FnExactIsIntegralRing', WHERE WHAT IT READS IS OF BULK AT MOST 1048576: true; the input reads as it did. -/
def fnExactIsIntegralRingUptoRow : OpenClaim := { program := "ytlcedidbkhedjaa", sum := "a5f5a13a71e0d352a4147775fbc1b6c352e9e2aa0ce6707fd4677274e1716761", func := "loop.example/g01132/laws.FnExactIsIntegralRing", spec := "fnExactIsIntegralRing", inPlace := ["math.Float64bits", "math.Float64frombits"], unfollowed := true, recurses := true, apart := false, narrowed := true }
def FnExactIsIntegralRingUptoSaid : Prop := fnExactIsIntegralRingUptoRow.holds Try.pinned (OpenSpec.upto fnExactIsIntegralRingSpec)

/-- 'laws.FnExactWholeDimension', WHERE WHAT IT READS IS OF BULK AT MOST 1048576: true; the input reads as it did. -/
def fnExactWholeDimensionUptoRow : OpenClaim := { program := "ytlcedidbkhedjaa", sum := "a5f5a13a71e0d352a4147775fbc1b6c352e9e2aa0ce6707fd4677274e1716761", func := "loop.example/g01132/laws.FnExactWholeDimension", spec := "fnExactWholeDimension", inPlace := ["math.Float64bits", "math.Float64frombits"], unfollowed := true, recurses := true, apart := false, narrowed := true }
def FnExactWholeDimensionUptoSaid : Prop := fnExactWholeDimensionUptoRow.holds Try.pinned (OpenSpec.upto fnExactWholeDimensionSpec)

/-- 'laws.FnExactDimensionOfVector', WHERE WHAT IT READS IS OF BULK AT MOST 1048576: true; the input reads as it did. -/
def fnExactDimensionOfVectorUptoRow : OpenClaim := { program := "ytlcedidbkhedjaa", sum := "a5f5a13a71e0d352a4147775fbc1b6c352e9e2aa0ce6707fd4677274e1716761", func := "loop.example/g01132/laws.FnExactDimensionOfVector", spec := "fnExactDimensionOfVector", inPlace := ["math.Float64bits", "math.Float64frombits"], unfollowed := true, recurses := true, apart := false, narrowed := true }
def FnExactDimensionOfVectorUptoSaid : Prop := fnExactDimensionOfVectorUptoRow.holds Try.pinned (OpenSpec.upto fnExactDimensionOfVectorSpec)

end Rows
end Go.Proofs.Ytlcedidbkhedjaa
