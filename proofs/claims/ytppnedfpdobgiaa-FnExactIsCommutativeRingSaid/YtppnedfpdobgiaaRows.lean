/-
  No cell of these rows narrows 'for every input' (looked for: loops, veiled, ifaces, maps, wideKeys, modest, calm, conditions, laid).
  DERIVED. THE GIVEN ROWS OF THIS SEAT. 8 by the template 'for every input the law returns true; each argument reads behind the call as it read before'; 0 by the template 'total and deterministic' (their statements: YtppnedfpdobgiaaTotals.lean).
  GIVEN WITH THE SEED: the statements are not yours to turn. If you find one false, say at which input.
  Laid BY PROGRAM, IN A SANDBOX (cutbox-rows.mjs): the forced cells as the released guide's own fill.sh prints them over the translation 8bc1d42cf74f8c35… (all of the seat's roots in one cut). By AI agents, Wed Nov 11 2026. No macro, syntax, notation, axiom, sorry.
-/
import Derived.Test.YtppnedfpdobgiaaChecked
import GoSem.Claim
import GoSem.ClaimJoined
import GoSem.ClaimMapViews
import Derived.JoinedTies
import Derived.KernelRfl
namespace Go.Proofs.Ytppnedfpdobgiaa
/- THE CELL 'sum', in the pinned program and in every row, IS THE sha256 OF THE DUMP (.gsa) THAT YtppnedfpdobgiaaProg.lean LOADS. Nothing in Lean hashes anything: it is a label: what it is worth is what the hold of that sum in a sandbox is worth. -/
noncomputable def Try.pinned : Pinned := { name := "ytppnedfpdobgiaa", sum := "8bc1d42cf74f8c35cd8fe9258aafa94b7dd606a1327ef2663f1e568dee40e025", checked := Try.checked }
namespace Rows
def none {H : Type} : Left H := { results := [], args := [] }

/-- 'laws.FnExactIsDimension': WHATEVER THE INPUT: true; the input reads as it did. -/
def fnExactIsDimensionSpec : ChangeSpec := { name := "fnExactIsDimension", fn := fun _ => fun
  | [d1, d2] => { results := [.lit (.bool true)], args := [d1, d2] }
  | _ => none }
def fnExactIsDimensionRow : OpenClaim := { program := "ytppnedfpdobgiaa", sum := "8bc1d42cf74f8c35cd8fe9258aafa94b7dd606a1327ef2663f1e568dee40e025", func := "loop.example/g01132/laws.FnExactIsDimension", spec := "fnExactIsDimension", unfollowed := true, recurses := true, apart := false }
def FnExactIsDimensionSaid : Prop := fnExactIsDimensionRow.holds Try.pinned (OpenSpec.ofChange fnExactIsDimensionSpec)

/-- ITS FALSE NEIGHBOUR: 'it returns false'. Refute it at one input. -/
def fnExactIsDimensionWrong : ChangeSpec := { name := "fnExactIsDimension", fn := fun _ => fun
  | [d1, d2] => { results := [.lit (.bool false)], args := [d1, d2] }
  | _ => none }
def FnExactIsDimensionWrongFalsely : Prop := fnExactIsDimensionRow.holds Try.pinned (OpenSpec.ofChange fnExactIsDimensionWrong)

/-- 'laws.FnExactInvertibleSubring': WHATEVER THE INPUT: true; the input reads as it did. -/
def fnExactInvertibleSubringSpec : ChangeSpec := { name := "fnExactInvertibleSubring", fn := fun _ => fun
  | [d] => { results := [.lit (.bool true)], args := [d] }
  | _ => none }
def fnExactInvertibleSubringRow : OpenClaim := { program := "ytppnedfpdobgiaa", sum := "8bc1d42cf74f8c35cd8fe9258aafa94b7dd606a1327ef2663f1e568dee40e025", func := "loop.example/g01132/laws.FnExactInvertibleSubring", spec := "fnExactInvertibleSubring", unfollowed := true, recurses := true, apart := false }
def FnExactInvertibleSubringSaid : Prop := fnExactInvertibleSubringRow.holds Try.pinned (OpenSpec.ofChange fnExactInvertibleSubringSpec)

/-- ITS FALSE NEIGHBOUR: 'it returns false'. Refute it at one input. -/
def fnExactInvertibleSubringWrong : ChangeSpec := { name := "fnExactInvertibleSubring", fn := fun _ => fun
  | [d] => { results := [.lit (.bool false)], args := [d] }
  | _ => none }
def FnExactInvertibleSubringWrongFalsely : Prop := fnExactInvertibleSubringRow.holds Try.pinned (OpenSpec.ofChange fnExactInvertibleSubringWrong)

/-- 'laws.FnExactIsPointedRing': WHATEVER THE INPUT: true; the input reads as it did. -/
def fnExactIsPointedRingSpec : ChangeSpec := { name := "fnExactIsPointedRing", fn := fun _ => fun
  | [d] => { results := [.lit (.bool true)], args := [d] }
  | _ => none }
def fnExactIsPointedRingRow : OpenClaim := { program := "ytppnedfpdobgiaa", sum := "8bc1d42cf74f8c35cd8fe9258aafa94b7dd606a1327ef2663f1e568dee40e025", func := "loop.example/g01132/laws.FnExactIsPointedRing", spec := "fnExactIsPointedRing", unfollowed := true, recurses := true, apart := false }
def FnExactIsPointedRingSaid : Prop := fnExactIsPointedRingRow.holds Try.pinned (OpenSpec.ofChange fnExactIsPointedRingSpec)

/-- ITS FALSE NEIGHBOUR: 'it returns false'. Refute it at one input. -/
def fnExactIsPointedRingWrong : ChangeSpec := { name := "fnExactIsPointedRing", fn := fun _ => fun
  | [d] => { results := [.lit (.bool false)], args := [d] }
  | _ => none }
def FnExactIsPointedRingWrongFalsely : Prop := fnExactIsPointedRingRow.holds Try.pinned (OpenSpec.ofChange fnExactIsPointedRingWrong)

/-- 'laws.FnExactIsCommutativeRing': WHATEVER THE INPUT: true; the input reads as it did. -/
def fnExactIsCommutativeRingSpec : ChangeSpec := { name := "fnExactIsCommutativeRing", fn := fun _ => fun
  | [d] => { results := [.lit (.bool true)], args := [d] }
  | _ => none }
def fnExactIsCommutativeRingRow : OpenClaim := { program := "ytppnedfpdobgiaa", sum := "8bc1d42cf74f8c35cd8fe9258aafa94b7dd606a1327ef2663f1e568dee40e025", func := "loop.example/g01132/laws.FnExactIsCommutativeRing", spec := "fnExactIsCommutativeRing", unfollowed := true, recurses := true, apart := false }
def FnExactIsCommutativeRingSaid : Prop := fnExactIsCommutativeRingRow.holds Try.pinned (OpenSpec.ofChange fnExactIsCommutativeRingSpec)

/-- ITS FALSE NEIGHBOUR: 'it returns false'. Refute it at one input. -/
def fnExactIsCommutativeRingWrong : ChangeSpec := { name := "fnExactIsCommutativeRing", fn := fun _ => fun
  | [d] => { results := [.lit (.bool false)], args := [d] }
  | _ => none }
def FnExactIsCommutativeRingWrongFalsely : Prop := fnExactIsCommutativeRingRow.holds Try.pinned (OpenSpec.ofChange fnExactIsCommutativeRingWrong)

/-- 'laws.FnExactMultiplyVectors': WHATEVER THE INPUT: true; the input reads as it did. -/
def fnExactMultiplyVectorsSpec : ChangeSpec := { name := "fnExactMultiplyVectors", fn := fun _ => fun
  | [d1, d2, d3] => { results := [.lit (.bool true)], args := [d1, d2, d3] }
  | _ => none }
def fnExactMultiplyVectorsRow : OpenClaim := { program := "ytppnedfpdobgiaa", sum := "8bc1d42cf74f8c35cd8fe9258aafa94b7dd606a1327ef2663f1e568dee40e025", func := "loop.example/g01132/laws.FnExactMultiplyVectors", spec := "fnExactMultiplyVectors", unfollowed := true, recurses := true, apart := false }
def FnExactMultiplyVectorsSaid : Prop := fnExactMultiplyVectorsRow.holds Try.pinned (OpenSpec.ofChange fnExactMultiplyVectorsSpec)

/-- ITS FALSE NEIGHBOUR: 'it returns false'. Refute it at one input. -/
def fnExactMultiplyVectorsWrong : ChangeSpec := { name := "fnExactMultiplyVectors", fn := fun _ => fun
  | [d1, d2, d3] => { results := [.lit (.bool false)], args := [d1, d2, d3] }
  | _ => none }
def FnExactMultiplyVectorsWrongFalsely : Prop := fnExactMultiplyVectorsRow.holds Try.pinned (OpenSpec.ofChange fnExactMultiplyVectorsWrong)

/-- 'laws.FnExactInvertibleLabels': WHATEVER THE INPUT: true; the input reads as it did. -/
def fnExactInvertibleLabelsSpec : ChangeSpec := { name := "fnExactInvertibleLabels", fn := fun _ => fun
  | [d] => { results := [.lit (.bool true)], args := [d] }
  | _ => none }
def fnExactInvertibleLabelsRow : OpenClaim := { program := "ytppnedfpdobgiaa", sum := "8bc1d42cf74f8c35cd8fe9258aafa94b7dd606a1327ef2663f1e568dee40e025", func := "loop.example/g01132/laws.FnExactInvertibleLabels", spec := "fnExactInvertibleLabels", unfollowed := true, recurses := true, apart := false }
def FnExactInvertibleLabelsSaid : Prop := fnExactInvertibleLabelsRow.holds Try.pinned (OpenSpec.ofChange fnExactInvertibleLabelsSpec)

/-- ITS FALSE NEIGHBOUR: 'it returns false'. Refute it at one input. -/
def fnExactInvertibleLabelsWrong : ChangeSpec := { name := "fnExactInvertibleLabels", fn := fun _ => fun
  | [d] => { results := [.lit (.bool false)], args := [d] }
  | _ => none }
def FnExactInvertibleLabelsWrongFalsely : Prop := fnExactInvertibleLabelsRow.holds Try.pinned (OpenSpec.ofChange fnExactInvertibleLabelsWrong)

/-- 'laws.FnExactOppositeRing': WHATEVER THE INPUT: true; the input reads as it did. -/
def fnExactOppositeRingSpec : ChangeSpec := { name := "fnExactOppositeRing", fn := fun _ => fun
  | [d] => { results := [.lit (.bool true)], args := [d] }
  | _ => none }
def fnExactOppositeRingRow : OpenClaim := { program := "ytppnedfpdobgiaa", sum := "8bc1d42cf74f8c35cd8fe9258aafa94b7dd606a1327ef2663f1e568dee40e025", func := "loop.example/g01132/laws.FnExactOppositeRing", spec := "fnExactOppositeRing", unfollowed := true, recurses := true, apart := false }
def FnExactOppositeRingSaid : Prop := fnExactOppositeRingRow.holds Try.pinned (OpenSpec.ofChange fnExactOppositeRingSpec)

/-- ITS FALSE NEIGHBOUR: 'it returns false'. Refute it at one input. -/
def fnExactOppositeRingWrong : ChangeSpec := { name := "fnExactOppositeRing", fn := fun _ => fun
  | [d] => { results := [.lit (.bool false)], args := [d] }
  | _ => none }
def FnExactOppositeRingWrongFalsely : Prop := fnExactOppositeRingRow.holds Try.pinned (OpenSpec.ofChange fnExactOppositeRingWrong)

/-- 'laws.FnExactPowerOfLabel': WHATEVER THE INPUT: true; the input reads as it did. -/
def fnExactPowerOfLabelSpec : ChangeSpec := { name := "fnExactPowerOfLabel", fn := fun _ => fun
  | [d1, d2, d3] => { results := [.lit (.bool true)], args := [d1, d2, d3] }
  | _ => none }
def fnExactPowerOfLabelRow : OpenClaim := { program := "ytppnedfpdobgiaa", sum := "8bc1d42cf74f8c35cd8fe9258aafa94b7dd606a1327ef2663f1e568dee40e025", func := "loop.example/g01132/laws.FnExactPowerOfLabel", spec := "fnExactPowerOfLabel", unfollowed := true, recurses := true, apart := false }
def FnExactPowerOfLabelSaid : Prop := fnExactPowerOfLabelRow.holds Try.pinned (OpenSpec.ofChange fnExactPowerOfLabelSpec)

/-- ITS FALSE NEIGHBOUR: 'it returns false'. Refute it at one input. -/
def fnExactPowerOfLabelWrong : ChangeSpec := { name := "fnExactPowerOfLabel", fn := fun _ => fun
  | [d1, d2, d3] => { results := [.lit (.bool false)], args := [d1, d2, d3] }
  | _ => none }
def FnExactPowerOfLabelWrongFalsely : Prop := fnExactPowerOfLabelRow.holds Try.pinned (OpenSpec.ofChange fnExactPowerOfLabelWrong)

/- THE SECOND FORM. 'bulk': how many values and letters a reading holds, each counted each time it is reached (what is shared counts as often as it is met; a slice's spare places count too). A statement '..UptoSaid' is the law's where the arguments, and the package variables that the reading takes, are together of bulk at most 1048576: NARROWER than '..Said'. Prove '..Said' where nothing that the law and all that it calls make is longer than what came in: it says more and counts as full. Else prove '..UptoSaid'. A law counts once. -/
mutual
def uptoBulk {H : Type} : DataW H → Nat
  | .lit (.string bytes) => bytes.length + 1
  | .lit _ => 1
  | .nil => 1
  | .ptr d => uptoBulk d + 1
  | .slice elems spare => uptoBulkAll elems + uptoBulkAll spare + 1
  | .agg parts => uptoBulkAll parts + 1
  | .iface _ d => uptoBulk d + 1
  | .map entries => uptoBulkEntries entries + 1
  | .held _ => 1
def uptoBulkAll {H : Type} : List (DataW H) → Nat
  | [] => 0
  | d :: r => uptoBulk d + uptoBulkAll r
def uptoBulkEntries {H : Type} : List (Lit × DataW H) → Nat
  | [] => 0
  | x :: r => uptoBulkEntry x + uptoBulkEntries r
def uptoBulkEntry {H : Type} : Lit × DataW H → Nat
  | (.string bytes, d) => bytes.length + uptoBulk d + 1
  | (_, d) => uptoBulk d + 1
 end
def uptoSmall : (H : Type) → List (DataW H) → Bool := fun _ ds => decide (uptoBulkAll ds ≤ 1048576)
def OpenSpec.upto (s : _root_.Go.ChangeSpec) : _root_.Go.OpenSpec := { _root_.Go.OpenSpec.ofChange s with cond := some uptoSmall }

/-- 'laws.FnExactIsDimension', WHERE WHAT IT READS IS OF BULK AT MOST 1048576: true; the input reads as it did. -/
def fnExactIsDimensionUptoRow : OpenClaim := { program := "ytppnedfpdobgiaa", sum := "8bc1d42cf74f8c35cd8fe9258aafa94b7dd606a1327ef2663f1e568dee40e025", func := "loop.example/g01132/laws.FnExactIsDimension", spec := "fnExactIsDimension", unfollowed := true, recurses := true, apart := false, narrowed := true }
def FnExactIsDimensionUptoSaid : Prop := fnExactIsDimensionUptoRow.holds Try.pinned (OpenSpec.upto fnExactIsDimensionSpec)

/-- 'laws.FnExactInvertibleSubring', WHERE WHAT IT READS IS OF BULK AT MOST 1048576: true; the input reads as it did. -/
def fnExactInvertibleSubringUptoRow : OpenClaim := { program := "ytppnedfpdobgiaa", sum := "8bc1d42cf74f8c35cd8fe9258aafa94b7dd606a1327ef2663f1e568dee40e025", func := "loop.example/g01132/laws.FnExactInvertibleSubring", spec := "fnExactInvertibleSubring", unfollowed := true, recurses := true, apart := false, narrowed := true }
def FnExactInvertibleSubringUptoSaid : Prop := fnExactInvertibleSubringUptoRow.holds Try.pinned (OpenSpec.upto fnExactInvertibleSubringSpec)

/-- 'laws.FnExactIsPointedRing', WHERE WHAT IT READS IS OF BULK AT MOST 1048576: true; the input reads as it did. -/
def fnExactIsPointedRingUptoRow : OpenClaim := { program := "ytppnedfpdobgiaa", sum := "8bc1d42cf74f8c35cd8fe9258aafa94b7dd606a1327ef2663f1e568dee40e025", func := "loop.example/g01132/laws.FnExactIsPointedRing", spec := "fnExactIsPointedRing", unfollowed := true, recurses := true, apart := false, narrowed := true }
def FnExactIsPointedRingUptoSaid : Prop := fnExactIsPointedRingUptoRow.holds Try.pinned (OpenSpec.upto fnExactIsPointedRingSpec)

/-- 'laws.FnExactIsCommutativeRing', WHERE WHAT IT READS IS OF BULK AT MOST 1048576: true; the input reads as it did. -/
def fnExactIsCommutativeRingUptoRow : OpenClaim := { program := "ytppnedfpdobgiaa", sum := "8bc1d42cf74f8c35cd8fe9258aafa94b7dd606a1327ef2663f1e568dee40e025", func := "loop.example/g01132/laws.FnExactIsCommutativeRing", spec := "fnExactIsCommutativeRing", unfollowed := true, recurses := true, apart := false, narrowed := true }
def FnExactIsCommutativeRingUptoSaid : Prop := fnExactIsCommutativeRingUptoRow.holds Try.pinned (OpenSpec.upto fnExactIsCommutativeRingSpec)

/-- 'laws.FnExactMultiplyVectors', WHERE WHAT IT READS IS OF BULK AT MOST 1048576: true; the input reads as it did. -/
def fnExactMultiplyVectorsUptoRow : OpenClaim := { program := "ytppnedfpdobgiaa", sum := "8bc1d42cf74f8c35cd8fe9258aafa94b7dd606a1327ef2663f1e568dee40e025", func := "loop.example/g01132/laws.FnExactMultiplyVectors", spec := "fnExactMultiplyVectors", unfollowed := true, recurses := true, apart := false, narrowed := true }
def FnExactMultiplyVectorsUptoSaid : Prop := fnExactMultiplyVectorsUptoRow.holds Try.pinned (OpenSpec.upto fnExactMultiplyVectorsSpec)

/-- 'laws.FnExactInvertibleLabels', WHERE WHAT IT READS IS OF BULK AT MOST 1048576: true; the input reads as it did. -/
def fnExactInvertibleLabelsUptoRow : OpenClaim := { program := "ytppnedfpdobgiaa", sum := "8bc1d42cf74f8c35cd8fe9258aafa94b7dd606a1327ef2663f1e568dee40e025", func := "loop.example/g01132/laws.FnExactInvertibleLabels", spec := "fnExactInvertibleLabels", unfollowed := true, recurses := true, apart := false, narrowed := true }
def FnExactInvertibleLabelsUptoSaid : Prop := fnExactInvertibleLabelsUptoRow.holds Try.pinned (OpenSpec.upto fnExactInvertibleLabelsSpec)

/-- 'laws.FnExactOppositeRing', WHERE WHAT IT READS IS OF BULK AT MOST 1048576: true; the input reads as it did. -/
def fnExactOppositeRingUptoRow : OpenClaim := { program := "ytppnedfpdobgiaa", sum := "8bc1d42cf74f8c35cd8fe9258aafa94b7dd606a1327ef2663f1e568dee40e025", func := "loop.example/g01132/laws.FnExactOppositeRing", spec := "fnExactOppositeRing", unfollowed := true, recurses := true, apart := false, narrowed := true }
def FnExactOppositeRingUptoSaid : Prop := fnExactOppositeRingUptoRow.holds Try.pinned (OpenSpec.upto fnExactOppositeRingSpec)

/-- 'laws.FnExactPowerOfLabel', WHERE WHAT IT READS IS OF BULK AT MOST 1048576: true; the input reads as it did. -/
def fnExactPowerOfLabelUptoRow : OpenClaim := { program := "ytppnedfpdobgiaa", sum := "8bc1d42cf74f8c35cd8fe9258aafa94b7dd606a1327ef2663f1e568dee40e025", func := "loop.example/g01132/laws.FnExactPowerOfLabel", spec := "fnExactPowerOfLabel", unfollowed := true, recurses := true, apart := false, narrowed := true }
def FnExactPowerOfLabelUptoSaid : Prop := fnExactPowerOfLabelUptoRow.holds Try.pinned (OpenSpec.upto fnExactPowerOfLabelSpec)

end Rows
end Go.Proofs.Ytppnedfpdobgiaa
