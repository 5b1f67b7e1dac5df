/-
  No cell of these rows narrows 'for every input' (looked for: loops, veiled, ifaces, maps, wideKeys, modest, calm, conditions, laid).
  DERIVED. THE GIVEN ROWS OF THIS SEAT. 14 by the template 'for every input the law returns true; each argument reads behind the call as it read before'; 0 by the template 'total and deterministic' (their statements: YtljnfhlfejggdaaTotals.lean).
  GIVEN WITH THE SEED: the statements are not yours to turn. If you find one false, say at which input.
  Laid BY PROGRAM, IN A SANDBOX (cutbox-rows.mjs): the forced cells as the released guide's own fill.sh prints them over the translation 1666479920f06e30… (all of the seat's roots in one cut). By AI agents, Wed Nov 11 2026. No macro, syntax, notation, axiom, sorry.
-/
import Derived.Test.YtljnfhlfejggdaaChecked
import GoSem.Claim
import GoSem.ClaimJoined
import GoSem.ClaimMapViews
import Derived.JoinedTies
import Derived.KernelRfl
namespace Go.Proofs.Ytljnfhlfejggdaa
/- THE CELL 'sum', in the pinned program and in every row, IS THE sha256 OF THE DUMP (.gsa) THAT YtljnfhlfejggdaaProg.lean LOADS. Nothing in Lean hashes anything: it is a label: what it is worth is what the hold of that sum in a sandbox is worth. -/
noncomputable def Try.pinned : Pinned := { name := "ytljnfhlfejggdaa", sum := "1666479920f06e304d0bcb2731eccccfb25e88d053fcfd6b4e42c4b24d548afc", checked := Try.checked }
namespace Rows
def none {H : Type} : Left H := { results := [], args := [] }

/-- 'laws.FnExactRingOfCharacters': WHATEVER THE INPUT: true; the input reads as it did. -/
def fnExactRingOfCharactersSpec : ChangeSpec := { name := "fnExactRingOfCharacters", fn := fun _ => fun
  | [d1, d2] => { results := [.lit (.bool true)], args := [d1, d2] }
  | _ => none }
def fnExactRingOfCharactersRow : OpenClaim := { program := "ytljnfhlfejggdaa", sum := "1666479920f06e304d0bcb2731eccccfb25e88d053fcfd6b4e42c4b24d548afc", func := "loop.example/g01132/laws.FnExactRingOfCharacters", spec := "fnExactRingOfCharacters", unfollowed := true, recurses := true, apart := false }
def FnExactRingOfCharactersSaid : Prop := fnExactRingOfCharactersRow.holds Try.pinned (OpenSpec.ofChange fnExactRingOfCharactersSpec)

/-- ITS FALSE NEIGHBOUR: 'it returns false'. Refute it at one input. -/
def fnExactRingOfCharactersWrong : ChangeSpec := { name := "fnExactRingOfCharacters", fn := fun _ => fun
  | [d1, d2] => { results := [.lit (.bool false)], args := [d1, d2] }
  | _ => none }
def FnExactRingOfCharactersWrongFalsely : Prop := fnExactRingOfCharactersRow.holds Try.pinned (OpenSpec.ofChange fnExactRingOfCharactersWrong)

/-- 'laws.FnExactIsCharacter': WHATEVER THE INPUT: true; the input reads as it did. -/
def fnExactIsCharacterSpec : ChangeSpec := { name := "fnExactIsCharacter", fn := fun _ => fun
  | [d1, d2] => { results := [.lit (.bool true)], args := [d1, d2] }
  | _ => none }
def fnExactIsCharacterRow : OpenClaim := { program := "ytljnfhlfejggdaa", sum := "1666479920f06e304d0bcb2731eccccfb25e88d053fcfd6b4e42c4b24d548afc", func := "loop.example/g01132/laws.FnExactIsCharacter", spec := "fnExactIsCharacter", unfollowed := true, recurses := true, apart := false }
def FnExactIsCharacterSaid : Prop := fnExactIsCharacterRow.holds Try.pinned (OpenSpec.ofChange fnExactIsCharacterSpec)

/-- ITS FALSE NEIGHBOUR: 'it returns false'. Refute it at one input. -/
def fnExactIsCharacterWrong : ChangeSpec := { name := "fnExactIsCharacter", fn := fun _ => fun
  | [d1, d2] => { results := [.lit (.bool false)], args := [d1, d2] }
  | _ => none }
def FnExactIsCharacterWrongFalsely : Prop := fnExactIsCharacterRow.holds Try.pinned (OpenSpec.ofChange fnExactIsCharacterWrong)

/-- 'laws.FnExactProductCharacter': WHATEVER THE INPUT: true; the input reads as it did. -/
def fnExactProductCharacterSpec : ChangeSpec := { name := "fnExactProductCharacter", fn := fun _ => fun
  | [d1, d2, d3, d4] => { results := [.lit (.bool true)], args := [d1, d2, d3, d4] }
  | _ => none }
def fnExactProductCharacterRow : OpenClaim := { program := "ytljnfhlfejggdaa", sum := "1666479920f06e304d0bcb2731eccccfb25e88d053fcfd6b4e42c4b24d548afc", func := "loop.example/g01132/laws.FnExactProductCharacter", spec := "fnExactProductCharacter", unfollowed := true, recurses := true, apart := false }
def FnExactProductCharacterSaid : Prop := fnExactProductCharacterRow.holds Try.pinned (OpenSpec.ofChange fnExactProductCharacterSpec)

/-- ITS FALSE NEIGHBOUR: 'it returns false'. Refute it at one input. -/
def fnExactProductCharacterWrong : ChangeSpec := { name := "fnExactProductCharacter", fn := fun _ => fun
  | [d1, d2, d3, d4] => { results := [.lit (.bool false)], args := [d1, d2, d3, d4] }
  | _ => none }
def FnExactProductCharacterWrongFalsely : Prop := fnExactProductCharacterRow.holds Try.pinned (OpenSpec.ofChange fnExactProductCharacterWrong)

/-- 'laws.FnExactValueOf': WHATEVER THE INPUT: true; the input reads as it did. -/
def fnExactValueOfSpec : ChangeSpec := { name := "fnExactValueOf", fn := fun _ => fun
  | [d1, d2, d3] => { results := [.lit (.bool true)], args := [d1, d2, d3] }
  | _ => none }
def fnExactValueOfRow : OpenClaim := { program := "ytljnfhlfejggdaa", sum := "1666479920f06e304d0bcb2731eccccfb25e88d053fcfd6b4e42c4b24d548afc", func := "loop.example/g01132/laws.FnExactValueOf", spec := "fnExactValueOf", unfollowed := true, recurses := true, apart := false }
def FnExactValueOfSaid : Prop := fnExactValueOfRow.holds Try.pinned (OpenSpec.ofChange fnExactValueOfSpec)

/-- ITS FALSE NEIGHBOUR: 'it returns false'. Refute it at one input. -/
def fnExactValueOfWrong : ChangeSpec := { name := "fnExactValueOf", fn := fun _ => fun
  | [d1, d2, d3] => { results := [.lit (.bool false)], args := [d1, d2, d3] }
  | _ => none }
def FnExactValueOfWrongFalsely : Prop := fnExactValueOfRow.holds Try.pinned (OpenSpec.ofChange fnExactValueOfWrong)

/-- 'laws.FnExactPairingOf': WHATEVER THE INPUT: true; the input reads as it did. -/
def fnExactPairingOfSpec : ChangeSpec := { name := "fnExactPairingOf", fn := fun _ => fun
  | [d1, d2, d3] => { results := [.lit (.bool true)], args := [d1, d2, d3] }
  | _ => none }
def fnExactPairingOfRow : OpenClaim := { program := "ytljnfhlfejggdaa", sum := "1666479920f06e304d0bcb2731eccccfb25e88d053fcfd6b4e42c4b24d548afc", func := "loop.example/g01132/laws.FnExactPairingOf", spec := "fnExactPairingOf", unfollowed := true, recurses := true, apart := false }
def FnExactPairingOfSaid : Prop := fnExactPairingOfRow.holds Try.pinned (OpenSpec.ofChange fnExactPairingOfSpec)

/-- ITS FALSE NEIGHBOUR: 'it returns false'. Refute it at one input. -/
def fnExactPairingOfWrong : ChangeSpec := { name := "fnExactPairingOf", fn := fun _ => fun
  | [d1, d2, d3] => { results := [.lit (.bool false)], args := [d1, d2, d3] }
  | _ => none }
def FnExactPairingOfWrongFalsely : Prop := fnExactPairingOfRow.holds Try.pinned (OpenSpec.ofChange fnExactPairingOfWrong)

/-- 'laws.FnExactCodegreeOf': WHATEVER THE INPUT: true; the input reads as it did. -/
def fnExactCodegreeOfSpec : ChangeSpec := { name := "fnExactCodegreeOf", fn := fun _ => fun
  | [d1, d2] => { results := [.lit (.bool true)], args := [d1, d2] }
  | _ => none }
def fnExactCodegreeOfRow : OpenClaim := { program := "ytljnfhlfejggdaa", sum := "1666479920f06e304d0bcb2731eccccfb25e88d053fcfd6b4e42c4b24d548afc", func := "loop.example/g01132/laws.FnExactCodegreeOf", spec := "fnExactCodegreeOf", unfollowed := true, recurses := true, apart := false }
def FnExactCodegreeOfSaid : Prop := fnExactCodegreeOfRow.holds Try.pinned (OpenSpec.ofChange fnExactCodegreeOfSpec)

/-- ITS FALSE NEIGHBOUR: 'it returns false'. Refute it at one input. -/
def fnExactCodegreeOfWrong : ChangeSpec := { name := "fnExactCodegreeOf", fn := fun _ => fun
  | [d1, d2] => { results := [.lit (.bool false)], args := [d1, d2] }
  | _ => none }
def FnExactCodegreeOfWrongFalsely : Prop := fnExactCodegreeOfRow.holds Try.pinned (OpenSpec.ofChange fnExactCodegreeOfWrong)

/-- 'laws.FnExactDualCharacter': WHATEVER THE INPUT: true; the input reads as it did. -/
def fnExactDualCharacterSpec : ChangeSpec := { name := "fnExactDualCharacter", fn := fun _ => fun
  | [d1, d2] => { results := [.lit (.bool true)], args := [d1, d2] }
  | _ => none }
def fnExactDualCharacterRow : OpenClaim := { program := "ytljnfhlfejggdaa", sum := "1666479920f06e304d0bcb2731eccccfb25e88d053fcfd6b4e42c4b24d548afc", func := "loop.example/g01132/laws.FnExactDualCharacter", spec := "fnExactDualCharacter", unfollowed := true, recurses := true, apart := false }
def FnExactDualCharacterSaid : Prop := fnExactDualCharacterRow.holds Try.pinned (OpenSpec.ofChange fnExactDualCharacterSpec)

/-- ITS FALSE NEIGHBOUR: 'it returns false'. Refute it at one input. -/
def fnExactDualCharacterWrong : ChangeSpec := { name := "fnExactDualCharacter", fn := fun _ => fun
  | [d1, d2] => { results := [.lit (.bool false)], args := [d1, d2] }
  | _ => none }
def FnExactDualCharacterWrongFalsely : Prop := fnExactDualCharacterRow.holds Try.pinned (OpenSpec.ofChange fnExactDualCharacterWrong)

/-- 'laws.FnExactTrouserNumber': WHATEVER THE INPUT: true; the input reads as it did. -/
def fnExactTrouserNumberSpec : ChangeSpec := { name := "fnExactTrouserNumber", fn := fun _ => fun
  | [d1, d2, d3, d4] => { results := [.lit (.bool true)], args := [d1, d2, d3, d4] }
  | _ => none }
def fnExactTrouserNumberRow : OpenClaim := { program := "ytljnfhlfejggdaa", sum := "1666479920f06e304d0bcb2731eccccfb25e88d053fcfd6b4e42c4b24d548afc", func := "loop.example/g01132/laws.FnExactTrouserNumber", spec := "fnExactTrouserNumber", unfollowed := true, recurses := true, apart := false }
def FnExactTrouserNumberSaid : Prop := fnExactTrouserNumberRow.holds Try.pinned (OpenSpec.ofChange fnExactTrouserNumberSpec)

/-- ITS FALSE NEIGHBOUR: 'it returns false'. Refute it at one input. -/
def fnExactTrouserNumberWrong : ChangeSpec := { name := "fnExactTrouserNumber", fn := fun _ => fun
  | [d1, d2, d3, d4] => { results := [.lit (.bool false)], args := [d1, d2, d3, d4] }
  | _ => none }
def FnExactTrouserNumberWrongFalsely : Prop := fnExactTrouserNumberRow.holds Try.pinned (OpenSpec.ofChange fnExactTrouserNumberWrong)

/-- 'laws.FnExactHandleOf': WHATEVER THE INPUT: true; the input reads as it did. -/
def fnExactHandleOfSpec : ChangeSpec := { name := "fnExactHandleOf", fn := fun _ => fun
  | [d] => { results := [.lit (.bool true)], args := [d] }
  | _ => none }
def fnExactHandleOfRow : OpenClaim := { program := "ytljnfhlfejggdaa", sum := "1666479920f06e304d0bcb2731eccccfb25e88d053fcfd6b4e42c4b24d548afc", func := "loop.example/g01132/laws.FnExactHandleOf", spec := "fnExactHandleOf", unfollowed := true, recurses := true, apart := false }
def FnExactHandleOfSaid : Prop := fnExactHandleOfRow.holds Try.pinned (OpenSpec.ofChange fnExactHandleOfSpec)

/-- ITS FALSE NEIGHBOUR: 'it returns false'. Refute it at one input. -/
def fnExactHandleOfWrong : ChangeSpec := { name := "fnExactHandleOf", fn := fun _ => fun
  | [d] => { results := [.lit (.bool false)], args := [d] }
  | _ => none }
def FnExactHandleOfWrongFalsely : Prop := fnExactHandleOfRow.holds Try.pinned (OpenSpec.ofChange fnExactHandleOfWrong)

/-- 'laws.FnExactSurfaceDimension': WHATEVER THE INPUT: true; the input reads as it did. -/
def fnExactSurfaceDimensionSpec : ChangeSpec := { name := "fnExactSurfaceDimension", fn := fun _ => fun
  | [d1, d2, d3] => { results := [.lit (.bool true)], args := [d1, d2, d3] }
  | _ => none }
def fnExactSurfaceDimensionRow : OpenClaim := { program := "ytljnfhlfejggdaa", sum := "1666479920f06e304d0bcb2731eccccfb25e88d053fcfd6b4e42c4b24d548afc", func := "loop.example/g01132/laws.FnExactSurfaceDimension", spec := "fnExactSurfaceDimension", unfollowed := true, recurses := true, apart := false }
def FnExactSurfaceDimensionSaid : Prop := fnExactSurfaceDimensionRow.holds Try.pinned (OpenSpec.ofChange fnExactSurfaceDimensionSpec)

/-- ITS FALSE NEIGHBOUR: 'it returns false'. Refute it at one input. -/
def fnExactSurfaceDimensionWrong : ChangeSpec := { name := "fnExactSurfaceDimension", fn := fun _ => fun
  | [d1, d2, d3] => { results := [.lit (.bool false)], args := [d1, d2, d3] }
  | _ => none }
def FnExactSurfaceDimensionWrongFalsely : Prop := fnExactSurfaceDimensionRow.holds Try.pinned (OpenSpec.ofChange fnExactSurfaceDimensionWrong)

/-- 'laws.FnExactGenusNumbers': WHATEVER THE INPUT: true; the input reads as it did. -/
def fnExactGenusNumbersSpec : ChangeSpec := { name := "fnExactGenusNumbers", fn := fun _ => fun
  | [d1, d2] => { results := [.lit (.bool true)], args := [d1, d2] }
  | _ => none }
def fnExactGenusNumbersRow : OpenClaim := { program := "ytljnfhlfejggdaa", sum := "1666479920f06e304d0bcb2731eccccfb25e88d053fcfd6b4e42c4b24d548afc", func := "loop.example/g01132/laws.FnExactGenusNumbers", spec := "fnExactGenusNumbers", unfollowed := true, recurses := true, apart := false }
def FnExactGenusNumbersSaid : Prop := fnExactGenusNumbersRow.holds Try.pinned (OpenSpec.ofChange fnExactGenusNumbersSpec)

/-- ITS FALSE NEIGHBOUR: 'it returns false'. Refute it at one input. -/
def fnExactGenusNumbersWrong : ChangeSpec := { name := "fnExactGenusNumbers", fn := fun _ => fun
  | [d1, d2] => { results := [.lit (.bool false)], args := [d1, d2] }
  | _ => none }
def FnExactGenusNumbersWrongFalsely : Prop := fnExactGenusNumbersRow.holds Try.pinned (OpenSpec.ofChange fnExactGenusNumbersWrong)

/-- 'laws.FnExactFusionPaths': WHATEVER THE INPUT: true; the input reads as it did. -/
def fnExactFusionPathsSpec : ChangeSpec := { name := "fnExactFusionPaths", fn := fun _ => fun
  | [d1, d2] => { results := [.lit (.bool true)], args := [d1, d2] }
  | _ => none }
def fnExactFusionPathsRow : OpenClaim := { program := "ytljnfhlfejggdaa", sum := "1666479920f06e304d0bcb2731eccccfb25e88d053fcfd6b4e42c4b24d548afc", func := "loop.example/g01132/laws.FnExactFusionPaths", spec := "fnExactFusionPaths", unfollowed := true, recurses := true, apart := false }
def FnExactFusionPathsSaid : Prop := fnExactFusionPathsRow.holds Try.pinned (OpenSpec.ofChange fnExactFusionPathsSpec)

/-- ITS FALSE NEIGHBOUR: 'it returns false'. Refute it at one input. -/
def fnExactFusionPathsWrong : ChangeSpec := { name := "fnExactFusionPaths", fn := fun _ => fun
  | [d1, d2] => { results := [.lit (.bool false)], args := [d1, d2] }
  | _ => none }
def FnExactFusionPathsWrongFalsely : Prop := fnExactFusionPathsRow.holds Try.pinned (OpenSpec.ofChange fnExactFusionPathsWrong)

/-- 'laws.FnExactPathWeight': WHATEVER THE INPUT: true; the input reads as it did. -/
def fnExactPathWeightSpec : ChangeSpec := { name := "fnExactPathWeight", fn := fun _ => fun
  | [d1, d2, d3] => { results := [.lit (.bool true)], args := [d1, d2, d3] }
  | _ => none }
def fnExactPathWeightRow : OpenClaim := { program := "ytljnfhlfejggdaa", sum := "1666479920f06e304d0bcb2731eccccfb25e88d053fcfd6b4e42c4b24d548afc", func := "loop.example/g01132/laws.FnExactPathWeight", spec := "fnExactPathWeight", unfollowed := true, recurses := true, apart := false }
def FnExactPathWeightSaid : Prop := fnExactPathWeightRow.holds Try.pinned (OpenSpec.ofChange fnExactPathWeightSpec)

/-- ITS FALSE NEIGHBOUR: 'it returns false'. Refute it at one input. -/
def fnExactPathWeightWrong : ChangeSpec := { name := "fnExactPathWeight", fn := fun _ => fun
  | [d1, d2, d3] => { results := [.lit (.bool false)], args := [d1, d2, d3] }
  | _ => none }
def FnExactPathWeightWrongFalsely : Prop := fnExactPathWeightRow.holds Try.pinned (OpenSpec.ofChange fnExactPathWeightWrong)

/-- 'laws.FnExactGraphDimension': WHATEVER THE INPUT: true; the input reads as it did. -/
def fnExactGraphDimensionSpec : ChangeSpec := { name := "fnExactGraphDimension", fn := fun _ => fun
  | [d1, d2] => { results := [.lit (.bool true)], args := [d1, d2] }
  | _ => none }
def fnExactGraphDimensionRow : OpenClaim := { program := "ytljnfhlfejggdaa", sum := "1666479920f06e304d0bcb2731eccccfb25e88d053fcfd6b4e42c4b24d548afc", func := "loop.example/g01132/laws.FnExactGraphDimension", spec := "fnExactGraphDimension", unfollowed := true, recurses := true, apart := false }
def FnExactGraphDimensionSaid : Prop := fnExactGraphDimensionRow.holds Try.pinned (OpenSpec.ofChange fnExactGraphDimensionSpec)

/-- ITS FALSE NEIGHBOUR: 'it returns false'. Refute it at one input. -/
def fnExactGraphDimensionWrong : ChangeSpec := { name := "fnExactGraphDimension", fn := fun _ => fun
  | [d1, d2] => { results := [.lit (.bool false)], args := [d1, d2] }
  | _ => none }
def FnExactGraphDimensionWrongFalsely : Prop := fnExactGraphDimensionRow.holds Try.pinned (OpenSpec.ofChange fnExactGraphDimensionWrong)

/- THE SECOND FORM. 'bulk': how many values and letters a reading holds, each counted each time it is reached (what is shared counts as often as it is met; a slice's spare places count too). A statement '..UptoSaid' is the law's where the arguments, and the package variables that the reading takes, are together of bulk at most 1048576: NARROWER than '..Said'. Prove '..Said' where nothing that the law and all that it calls make is longer than what came in: it says more and counts as full. Else prove '..UptoSaid'. A law counts once. -/
mutual
def uptoBulk {H : Type} : DataW H → Nat
  | .lit (.string bytes) => bytes.length + 1
  | .lit _ => 1
  | .nil => 1
  | .ptr d => uptoBulk d + 1
  | .slice elems spare => uptoBulkAll elems + uptoBulkAll spare + 1
  | .agg parts => uptoBulkAll parts + 1
  | .iface _ d => uptoBulk d + 1
  | .map entries => uptoBulkEntries entries + 1
  | .held _ => 1
def uptoBulkAll {H : Type} : List (DataW H) → Nat
  | [] => 0
  | d :: r => uptoBulk d + uptoBulkAll r
def uptoBulkEntries {H : Type} : List (Lit × DataW H) → Nat
  | [] => 0
  | x :: r => uptoBulkEntry x + uptoBulkEntries r
def uptoBulkEntry {H : Type} : Lit × DataW H → Nat
  | (.string bytes, d) => bytes.length + uptoBulk d + 1
  | (_, d) => uptoBulk d + 1
 end
def uptoSmall : (H : Type) → List (DataW H) → Bool := fun _ ds => decide (uptoBulkAll ds ≤ 1048576)
def OpenSpec.upto (s : _root_.Go.ChangeSpec) : _root_.Go.OpenSpec := { _root_.Go.OpenSpec.ofChange s with cond := some uptoSmall }

/-- 'laws.FnExactRingOfCharacters', WHERE WHAT IT READS IS OF BULK AT MOST 1048576: true; the input reads as it did. -/
def fnExactRingOfCharactersUptoRow : OpenClaim := { program := "ytljnfhlfejggdaa", sum := "1666479920f06e304d0bcb2731eccccfb25e88d053fcfd6b4e42c4b24d548afc", func := "loop.example/g01132/laws.FnExactRingOfCharacters", spec := "fnExactRingOfCharacters", unfollowed := true, recurses := true, apart := false, narrowed := true }
def FnExactRingOfCharactersUptoSaid : Prop := fnExactRingOfCharactersUptoRow.holds Try.pinned (OpenSpec.upto fnExactRingOfCharactersSpec)

/-- 'laws.FnExactIsCharacter', WHERE WHAT IT READS IS OF BULK AT MOST 1048576: true; the input reads as it did. -/
def fnExactIsCharacterUptoRow : OpenClaim := { program := "ytljnfhlfejggdaa", sum := "1666479920f06e304d0bcb2731eccccfb25e88d053fcfd6b4e42c4b24d548afc", func := "loop.example/g01132/laws.FnExactIsCharacter", spec := "fnExactIsCharacter", unfollowed := true, recurses := true, apart := false, narrowed := true }
def FnExactIsCharacterUptoSaid : Prop := fnExactIsCharacterUptoRow.holds Try.pinned (OpenSpec.upto fnExactIsCharacterSpec)

/-- 'laws.FnExactProductCharacter', WHERE WHAT IT READS IS OF BULK AT MOST 1048576: true; the input reads as it did. -/
def fnExactProductCharacterUptoRow : OpenClaim := { program := "ytljnfhlfejggdaa", sum := "1666479920f06e304d0bcb2731eccccfb25e88d053fcfd6b4e42c4b24d548afc", func := "loop.example/g01132/laws.FnExactProductCharacter", spec := "fnExactProductCharacter", unfollowed := true, recurses := true, apart := false, narrowed := true }
def FnExactProductCharacterUptoSaid : Prop := fnExactProductCharacterUptoRow.holds Try.pinned (OpenSpec.upto fnExactProductCharacterSpec)

/-- 'laws.FnExactValueOf', WHERE WHAT IT READS IS OF BULK AT MOST 1048576: true; the input reads as it did. -/
def fnExactValueOfUptoRow : OpenClaim := { program := "ytljnfhlfejggdaa", sum := "1666479920f06e304d0bcb2731eccccfb25e88d053fcfd6b4e42c4b24d548afc", func := "loop.example/g01132/laws.FnExactValueOf", spec := "fnExactValueOf", unfollowed := true, recurses := true, apart := false, narrowed := true }
def FnExactValueOfUptoSaid : Prop := fnExactValueOfUptoRow.holds Try.pinned (OpenSpec.upto fnExactValueOfSpec)

/-- 'laws.FnExactPairingOf', WHERE WHAT IT READS IS OF BULK AT MOST 1048576: true; the input reads as it did. -/
def fnExactPairingOfUptoRow : OpenClaim := { program := "ytljnfhlfejggdaa", sum := "1666479920f06e304d0bcb2731eccccfb25e88d053fcfd6b4e42c4b24d548afc", func := "loop.example/g01132/laws.FnExactPairingOf", spec := "fnExactPairingOf", unfollowed := true, recurses := true, apart := false, narrowed := true }
def FnExactPairingOfUptoSaid : Prop := fnExactPairingOfUptoRow.holds Try.pinned (OpenSpec.upto fnExactPairingOfSpec)

/-- 'laws.FnExactCodegreeOf', WHERE WHAT IT READS IS OF BULK AT MOST 1048576: true; the input reads as it did. -/
def fnExactCodegreeOfUptoRow : OpenClaim := { program := "ytljnfhlfejggdaa", sum := "1666479920f06e304d0bcb2731eccccfb25e88d053fcfd6b4e42c4b24d548afc", func := "loop.example/g01132/laws.FnExactCodegreeOf", spec := "fnExactCodegreeOf", unfollowed := true, recurses := true, apart := false, narrowed := true }
def FnExactCodegreeOfUptoSaid : Prop := fnExactCodegreeOfUptoRow.holds Try.pinned (OpenSpec.upto fnExactCodegreeOfSpec)

/-- 'laws.FnExactDualCharacter', WHERE WHAT IT READS IS OF BULK AT MOST 1048576: true; the input reads as it did. -/
def fnExactDualCharacterUptoRow : OpenClaim := { program := "ytljnfhlfejggdaa", sum := "1666479920f06e304d0bcb2731eccccfb25e88d053fcfd6b4e42c4b24d548afc", func := "loop.example/g01132/laws.FnExactDualCharacter", spec := "fnExactDualCharacter", unfollowed := true, recurses := true, apart := false, narrowed := true }
def FnExactDualCharacterUptoSaid : Prop := fnExactDualCharacterUptoRow.holds Try.pinned (OpenSpec.upto fnExactDualCharacterSpec)

/-- 'laws.FnExactTrouserNumber', WHERE WHAT IT READS IS OF BULK AT MOST 1048576: true; the input reads as it did. -/
def fnExactTrouserNumberUptoRow : OpenClaim := { program := "ytljnfhlfejggdaa", sum := "1666479920f06e304d0bcb2731eccccfb25e88d053fcfd6b4e42c4b24d548afc", func := "loop.example/g01132/laws.FnExactTrouserNumber", spec := "fnExactTrouserNumber", unfollowed := true, recurses := true, apart := false, narrowed := true }
def FnExactTrouserNumberUptoSaid : Prop := fnExactTrouserNumberUptoRow.holds Try.pinned (OpenSpec.upto fnExactTrouserNumberSpec)

/-- 'laws.FnExactHandleOf', WHERE WHAT IT READS IS OF BULK AT MOST 1048576: true; the input reads as it did. -/
def fnExactHandleOfUptoRow : OpenClaim := { program := "ytljnfhlfejggdaa", sum := "1666479920f06e304d0bcb2731eccccfb25e88d053fcfd6b4e42c4b24d548afc", func := "loop.example/g01132/laws.FnExactHandleOf", spec := "fnExactHandleOf", unfollowed := true, recurses := true, apart := false, narrowed := true }
def FnExactHandleOfUptoSaid : Prop := fnExactHandleOfUptoRow.holds Try.pinned (OpenSpec.upto fnExactHandleOfSpec)

/-- 'laws.FnExactSurfaceDimension', WHERE WHAT IT READS IS OF BULK AT MOST 1048576: true; the input reads as it did. -/
def fnExactSurfaceDimensionUptoRow : OpenClaim := { program := "ytljnfhlfejggdaa", sum := "1666479920f06e304d0bcb2731eccccfb25e88d053fcfd6b4e42c4b24d548afc", func := "loop.example/g01132/laws.FnExactSurfaceDimension", spec := "fnExactSurfaceDimension", unfollowed := true, recurses := true, apart := false, narrowed := true }
def FnExactSurfaceDimensionUptoSaid : Prop := fnExactSurfaceDimensionUptoRow.holds Try.pinned (OpenSpec.upto fnExactSurfaceDimensionSpec)

/-- 'laws.FnExactGenusNumbers', WHERE WHAT IT READS IS OF BULK AT MOST 1048576: true; the input reads as it did. -/
def fnExactGenusNumbersUptoRow : OpenClaim := { program := "ytljnfhlfejggdaa", sum := "1666479920f06e304d0bcb2731eccccfb25e88d053fcfd6b4e42c4b24d548afc", func := "loop.example/g01132/laws.FnExactGenusNumbers", spec := "fnExactGenusNumbers", unfollowed := true, recurses := true, apart := false, narrowed := true }
def FnExactGenusNumbersUptoSaid : Prop := fnExactGenusNumbersUptoRow.holds Try.pinned (OpenSpec.upto fnExactGenusNumbersSpec)

/-- 'laws.FnExactFusionPaths', WHERE WHAT IT READS IS OF BULK AT MOST 1048576: true; the input reads as it did. -/
def fnExactFusionPathsUptoRow : OpenClaim := { program := "ytljnfhlfejggdaa", sum := "1666479920f06e304d0bcb2731eccccfb25e88d053fcfd6b4e42c4b24d548afc", func := "loop.example/g01132/laws.FnExactFusionPaths", spec := "fnExactFusionPaths", unfollowed := true, recurses := true, apart := false, narrowed := true }
def FnExactFusionPathsUptoSaid : Prop := fnExactFusionPathsUptoRow.holds Try.pinned (OpenSpec.upto fnExactFusionPathsSpec)

/-- 'laws.FnExactPathWeight', WHERE WHAT IT READS IS OF BULK AT MOST 1048576: true; the input reads as it did. -/
def fnExactPathWeightUptoRow : OpenClaim := { program := "ytljnfhlfejggdaa", sum := "1666479920f06e304d0bcb2731eccccfb25e88d053fcfd6b4e42c4b24d548afc", func := "loop.example/g01132/laws.FnExactPathWeight", spec := "fnExactPathWeight", unfollowed := true, recurses := true, apart := false, narrowed := true }
def FnExactPathWeightUptoSaid : Prop := fnExactPathWeightUptoRow.holds Try.pinned (OpenSpec.upto fnExactPathWeightSpec)

/-- 'laws.FnExactGraphDimension', WHERE WHAT IT READS IS OF BULK AT MOST 1048576: true; the input reads as it did. -/
def fnExactGraphDimensionUptoRow : OpenClaim := { program := "ytljnfhlfejggdaa", sum := "1666479920f06e304d0bcb2731eccccfb25e88d053fcfd6b4e42c4b24d548afc", func := "loop.example/g01132/laws.FnExactGraphDimension", spec := "fnExactGraphDimension", unfollowed := true, recurses := true, apart := false, narrowed := true }
def FnExactGraphDimensionUptoSaid : Prop := fnExactGraphDimensionUptoRow.holds Try.pinned (OpenSpec.upto fnExactGraphDimensionSpec)

end Rows
end Go.Proofs.Ytljnfhlfejggdaa
