/-
  No cell of these rows narrows 'for every input' (looked for: loops, veiled, ifaces, maps, wideKeys, modest, calm, conditions, laid).
  DERIVED. THE GIVEN ROWS OF THIS SEAT. 6 by the template 'for every input the law returns true; each argument reads behind the call as it read before'; 0 by the template 'total and deterministic' (their statements: YtclffgakhkhglaaTotals.lean).
  GIVEN WITH THE SEED: the statements are not yours to turn. If you find one false, say at which input.
  Laid BY PROGRAM, IN A SANDBOX (cutbox-rows.mjs): the forced cells as the released guide's own fill.sh prints them over the translation 7b8bc8973f0ad11a… (all of the seat's roots in one cut). By AI agents, Wed Nov 11 2026. No macro, syntax, notation, axiom, sorry.
-/
import Derived.Test.YtclffgakhkhglaaChecked
import GoSem.Claim
import GoSem.ClaimJoined
import GoSem.ClaimMapViews
import Derived.JoinedTies
import Derived.KernelRfl
namespace Go.Proofs.Ytclffgakhkhglaa
/- THE CELL 'sum', in the pinned program and in every row, IS THE sha256 OF THE DUMP (.gsa) THAT YtclffgakhkhglaaProg.lean LOADS. Nothing in Lean hashes anything: it is a label: what it is worth is what the hold of that sum in a sandbox is worth. -/
noncomputable def Try.pinned : Pinned := { name := "ytclffgakhkhglaa", sum := "7b8bc8973f0ad11a0b39de20073a279f1e7fcb29ddd00733c91869d6d3712e02", checked := Try.checked }
namespace Rows
def none {H : Type} : Left H := { results := [], args := [] }

/-- 'laws.FnExactIsCharacter': WHATEVER THE INPUT: true; the input reads as it did. -/
def fnExactIsCharacterSpec : ChangeSpec := { name := "fnExactIsCharacter", fn := fun _ => fun
  | [d1, d2] => { results := [.lit (.bool true)], args := [d1, d2] }
  | _ => none }
def fnExactIsCharacterRow : OpenClaim := { program := "ytclffgakhkhglaa", sum := "7b8bc8973f0ad11a0b39de20073a279f1e7fcb29ddd00733c91869d6d3712e02", func := "loop.example/g01132/laws.FnExactIsCharacter", spec := "fnExactIsCharacter", unfollowed := true, recurses := true, apart := false }
def FnExactIsCharacterSaid : Prop := fnExactIsCharacterRow.holds Try.pinned (OpenSpec.ofChange fnExactIsCharacterSpec)

/-- ITS FALSE NEIGHBOUR: 'it returns false'. Refute it at one input. -/
def fnExactIsCharacterWrong : ChangeSpec := { name := "fnExactIsCharacter", fn := fun _ => fun
  | [d1, d2] => { results := [.lit (.bool false)], args := [d1, d2] }
  | _ => none }
def FnExactIsCharacterWrongFalsely : Prop := fnExactIsCharacterRow.holds Try.pinned (OpenSpec.ofChange fnExactIsCharacterWrong)

/-- 'laws.FnExactPathWeight': WHATEVER THE INPUT: true; the input reads as it did. -/
def fnExactPathWeightSpec : ChangeSpec := { name := "fnExactPathWeight", fn := fun _ => fun
  | [d1, d2, d3] => { results := [.lit (.bool true)], args := [d1, d2, d3] }
  | _ => none }
def fnExactPathWeightRow : OpenClaim := { program := "ytclffgakhkhglaa", sum := "7b8bc8973f0ad11a0b39de20073a279f1e7fcb29ddd00733c91869d6d3712e02", func := "loop.example/g01132/laws.FnExactPathWeight", spec := "fnExactPathWeight", unfollowed := true, recurses := true, apart := false }
def FnExactPathWeightSaid : Prop := fnExactPathWeightRow.holds Try.pinned (OpenSpec.ofChange fnExactPathWeightSpec)

/-- ITS FALSE NEIGHBOUR: 'it returns false'. Refute it at one input. -/
def fnExactPathWeightWrong : ChangeSpec := { name := "fnExactPathWeight", fn := fun _ => fun
  | [d1, d2, d3] => { results := [.lit (.bool false)], args := [d1, d2, d3] }
  | _ => none }
def FnExactPathWeightWrongFalsely : Prop := fnExactPathWeightRow.holds Try.pinned (OpenSpec.ofChange fnExactPathWeightWrong)

/-- 'laws.FnExactCountFixedPoints': WHATEVER THE INPUT: true; the input reads as it did. -/
def fnExactCountFixedPointsSpec : ChangeSpec := { name := "fnExactCountFixedPoints", fn := fun _ => fun
  | [d1, d2, d3] => { results := [.lit (.bool true)], args := [d1, d2, d3] }
  | _ => none }
def fnExactCountFixedPointsRow : OpenClaim := { program := "ytclffgakhkhglaa", sum := "7b8bc8973f0ad11a0b39de20073a279f1e7fcb29ddd00733c91869d6d3712e02", func := "loop.example/g01132/laws.FnExactCountFixedPoints", spec := "fnExactCountFixedPoints", unfollowed := true, recurses := true, apart := false }
def FnExactCountFixedPointsSaid : Prop := fnExactCountFixedPointsRow.holds Try.pinned (OpenSpec.ofChange fnExactCountFixedPointsSpec)

/-- ITS FALSE NEIGHBOUR: 'it returns false'. Refute it at one input. -/
def fnExactCountFixedPointsWrong : ChangeSpec := { name := "fnExactCountFixedPoints", fn := fun _ => fun
  | [d1, d2, d3] => { results := [.lit (.bool false)], args := [d1, d2, d3] }
  | _ => none }
def FnExactCountFixedPointsWrongFalsely : Prop := fnExactCountFixedPointsRow.holds Try.pinned (OpenSpec.ofChange fnExactCountFixedPointsWrong)

/-- 'laws.FnExactIsAction': WHATEVER THE INPUT: true; the input reads as it did. -/
def fnExactIsActionSpec : ChangeSpec := { name := "fnExactIsAction", fn := fun _ => fun
  | [d1, d2] => { results := [.lit (.bool true)], args := [d1, d2] }
  | _ => none }
def fnExactIsActionRow : OpenClaim := { program := "ytclffgakhkhglaa", sum := "7b8bc8973f0ad11a0b39de20073a279f1e7fcb29ddd00733c91869d6d3712e02", func := "loop.example/g01132/laws.FnExactIsAction", spec := "fnExactIsAction", unfollowed := true, recurses := true, apart := false }
def FnExactIsActionSaid : Prop := fnExactIsActionRow.holds Try.pinned (OpenSpec.ofChange fnExactIsActionSpec)

/-- ITS FALSE NEIGHBOUR: 'it returns false'. Refute it at one input. -/
def fnExactIsActionWrong : ChangeSpec := { name := "fnExactIsAction", fn := fun _ => fun
  | [d1, d2] => { results := [.lit (.bool false)], args := [d1, d2] }
  | _ => none }
def FnExactIsActionWrongFalsely : Prop := fnExactIsActionRow.holds Try.pinned (OpenSpec.ofChange fnExactIsActionWrong)

/-- 'laws.FnExactRegularAction': WHATEVER THE INPUT: true; the input reads as it did. -/
def fnExactRegularActionSpec : ChangeSpec := { name := "fnExactRegularAction", fn := fun _ => fun
  | [d] => { results := [.lit (.bool true)], args := [d] }
  | _ => none }
def fnExactRegularActionRow : OpenClaim := { program := "ytclffgakhkhglaa", sum := "7b8bc8973f0ad11a0b39de20073a279f1e7fcb29ddd00733c91869d6d3712e02", func := "loop.example/g01132/laws.FnExactRegularAction", spec := "fnExactRegularAction", unfollowed := true, recurses := true, apart := false }
def FnExactRegularActionSaid : Prop := fnExactRegularActionRow.holds Try.pinned (OpenSpec.ofChange fnExactRegularActionSpec)

/-- ITS FALSE NEIGHBOUR: 'it returns false'. Refute it at one input. -/
def fnExactRegularActionWrong : ChangeSpec := { name := "fnExactRegularAction", fn := fun _ => fun
  | [d] => { results := [.lit (.bool false)], args := [d] }
  | _ => none }
def FnExactRegularActionWrongFalsely : Prop := fnExactRegularActionRow.holds Try.pinned (OpenSpec.ofChange fnExactRegularActionWrong)

/-- 'laws.FnExactHandleOf': WHATEVER THE INPUT: true; the input reads as it did. -/
def fnExactHandleOfSpec : ChangeSpec := { name := "fnExactHandleOf", fn := fun _ => fun
  | [d] => { results := [.lit (.bool true)], args := [d] }
  | _ => none }
def fnExactHandleOfRow : OpenClaim := { program := "ytclffgakhkhglaa", sum := "7b8bc8973f0ad11a0b39de20073a279f1e7fcb29ddd00733c91869d6d3712e02", func := "loop.example/g01132/laws.FnExactHandleOf", spec := "fnExactHandleOf", unfollowed := true, recurses := true, apart := false }
def FnExactHandleOfSaid : Prop := fnExactHandleOfRow.holds Try.pinned (OpenSpec.ofChange fnExactHandleOfSpec)

/-- ITS FALSE NEIGHBOUR: 'it returns false'. Refute it at one input. -/
def fnExactHandleOfWrong : ChangeSpec := { name := "fnExactHandleOf", fn := fun _ => fun
  | [d] => { results := [.lit (.bool false)], args := [d] }
  | _ => none }
def FnExactHandleOfWrongFalsely : Prop := fnExactHandleOfRow.holds Try.pinned (OpenSpec.ofChange fnExactHandleOfWrong)

/- THE SECOND FORM. 'bulk': how many values and letters a reading holds, each counted each time it is reached (what is shared counts as often as it is met; a slice's spare places count too). A statement '..UptoSaid' is the law's where the arguments, and the package variables that the reading takes, are together of bulk at most 1048576: NARROWER than '..Said'. Prove '..Said' where nothing that the law and all that it calls make is longer than what came in: it says more and counts as full. Else prove '..UptoSaid'. A law counts once. -/
mutual
def uptoBulk {H : Type} : DataW H → Nat
  | .lit (.string bytes) => bytes.length + 1
  | .lit _ => 1
  | .nil => 1
  | .ptr d => uptoBulk d + 1
  | .slice elems spare => uptoBulkAll elems + uptoBulkAll spare + 1
  | .agg parts => uptoBulkAll parts + 1
  | .iface _ d => uptoBulk d + 1
  | .map entries => uptoBulkEntries entries + 1
  | .held _ => 1
def uptoBulkAll {H : Type} : List (DataW H) → Nat
  | [] => 0
  | d :: r => uptoBulk d + uptoBulkAll r
def uptoBulkEntries {H : Type} : List (Lit × DataW H) → Nat
  | [] => 0
  | x :: r => uptoBulkEntry x + uptoBulkEntries r
def uptoBulkEntry {H : Type} : Lit × DataW H → Nat
  | (.string bytes, d) => bytes.length + uptoBulk d + 1
  | (_, d) => uptoBulk d + 1
 end
def uptoSmall : (H : Type) → List (DataW H) → Bool := fun _ ds => decide (uptoBulkAll ds ≤ 1048576)
def OpenSpec.upto (s : _root_.Go.ChangeSpec) : _root_.Go.OpenSpec := { _root_.Go.OpenSpec.ofChange s with cond := some uptoSmall }

/-- 'laws.FnExactIsCharacter', WHERE WHAT IT READS IS OF BULK AT MOST 1048576: true; the input reads as it did. -/
def fnExactIsCharacterUptoRow : OpenClaim := { program := "ytclffgakhkhglaa", sum := "7b8bc8973f0ad11a0b39de20073a279f1e7fcb29ddd00733c91869d6d3712e02", func := "loop.example/g01132/laws.FnExactIsCharacter", spec := "fnExactIsCharacter", unfollowed := true, recurses := true, apart := false, narrowed := true }
def FnExactIsCharacterUptoSaid : Prop := fnExactIsCharacterUptoRow.holds Try.pinned (OpenSpec.upto fnExactIsCharacterSpec)

/-- 'laws.FnExactPathWeight', WHERE WHAT IT READS IS OF BULK AT MOST 1048576: true; the input reads as it did. -/
def fnExactPathWeightUptoRow : OpenClaim := { program := "ytclffgakhkhglaa", sum := "7b8bc8973f0ad11a0b39de20073a279f1e7fcb29ddd00733c91869d6d3712e02", func := "loop.example/g01132/laws.FnExactPathWeight", spec := "fnExactPathWeight", unfollowed := true, recurses := true, apart := false, narrowed := true }
def FnExactPathWeightUptoSaid : Prop := fnExactPathWeightUptoRow.holds Try.pinned (OpenSpec.upto fnExactPathWeightSpec)

/-- 'laws.FnExactCountFixedPoints', WHERE WHAT IT READS IS OF BULK AT MOST 1048576: true; the input reads as it did. -/
def fnExactCountFixedPointsUptoRow : OpenClaim := { program := "ytclffgakhkhglaa", sum := "7b8bc8973f0ad11a0b39de20073a279f1e7fcb29ddd00733c91869d6d3712e02", func := "loop.example/g01132/laws.FnExactCountFixedPoints", spec := "fnExactCountFixedPoints", unfollowed := true, recurses := true, apart := false, narrowed := true }
def FnExactCountFixedPointsUptoSaid : Prop := fnExactCountFixedPointsUptoRow.holds Try.pinned (OpenSpec.upto fnExactCountFixedPointsSpec)

/-- 'laws.FnExactIsAction', WHERE WHAT IT READS IS OF BULK AT MOST 1048576: true; the input reads as it did. -/
def fnExactIsActionUptoRow : OpenClaim := { program := "ytclffgakhkhglaa", sum := "7b8bc8973f0ad11a0b39de20073a279f1e7fcb29ddd00733c91869d6d3712e02", func := "loop.example/g01132/laws.FnExactIsAction", spec := "fnExactIsAction", unfollowed := true, recurses := true, apart := false, narrowed := true }
def FnExactIsActionUptoSaid : Prop := fnExactIsActionUptoRow.holds Try.pinned (OpenSpec.upto fnExactIsActionSpec)

/-- 'laws.FnExactRegularAction', WHERE WHAT IT READS IS OF BULK AT MOST 1048576: true; the input reads as it did. -/
def fnExactRegularActionUptoRow : OpenClaim := { program := "ytclffgakhkhglaa", sum := "7b8bc8973f0ad11a0b39de20073a279f1e7fcb29ddd00733c91869d6d3712e02", func := "loop.example/g01132/laws.FnExactRegularAction", spec := "fnExactRegularAction", unfollowed := true, recurses := true, apart := false, narrowed := true }
def FnExactRegularActionUptoSaid : Prop := fnExactRegularActionUptoRow.holds Try.pinned (OpenSpec.upto fnExactRegularActionSpec)

/-- 'laws.FnExactHandleOf', WHERE WHAT IT READS IS OF BULK AT MOST 1048576: true; the input reads as it did. -/
def fnExactHandleOfUptoRow : OpenClaim := { program := "ytclffgakhkhglaa", sum := "7b8bc8973f0ad11a0b39de20073a279f1e7fcb29ddd00733c91869d6d3712e02", func := "loop.example/g01132/laws.FnExactHandleOf", spec := "fnExactHandleOf", unfollowed := true, recurses := true, apart := false, narrowed := true }
def FnExactHandleOfUptoSaid : Prop := fnExactHandleOfUptoRow.holds Try.pinned (OpenSpec.upto fnExactHandleOfSpec)

end Rows
end Go.Proofs.Ytclffgakhkhglaa
