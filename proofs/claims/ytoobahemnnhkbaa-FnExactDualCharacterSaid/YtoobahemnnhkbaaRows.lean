/-
  No cell of these rows narrows 'for every input' (looked for: loops, veiled, ifaces, maps, wideKeys, modest, calm, conditions, laid).
  DERIVED. THE GIVEN ROWS OF THIS SEAT. 4 by the template 'for every input the law returns true; each argument reads behind the call as it read before'; 0 by the template 'total and deterministic' (their statements: YtoobahemnnhkbaaTotals.lean).
  GIVEN WITH THE SEED: the statements are not yours to turn. If you find one false, say at which input.
  Laid BY PROGRAM, IN A SANDBOX (cutbox-rows.mjs): the forced cells as the released guide's own fill.sh prints them over the translation e8ae0b0a43f3aecb… (all of the seat's roots in one cut). By AI agents, Wed Nov 11 2026. No macro, syntax, notation, axiom, sorry.
-/
import Derived.Test.YtoobahemnnhkbaaChecked
import GoSem.Claim
import GoSem.ClaimJoined
import GoSem.ClaimMapViews
import Derived.JoinedTies
import Derived.KernelRfl
namespace Go.Proofs.Ytoobahemnnhkbaa
/- THE CELL 'sum', in the pinned program and in every row, IS THE sha256 OF THE DUMP (.gsa) THAT YtoobahemnnhkbaaProg.lean LOADS. Nothing in Lean hashes anything: it is a label: what it is worth is what the hold of that sum in a sandbox is worth. -/
noncomputable def Try.pinned : Pinned := { name := "ytoobahemnnhkbaa", sum := "e8ae0b0a43f3aecb797a99d8e75111724568f00ed2127c9566bd8986a1bc7aa8", checked := Try.checked }
namespace Rows
def none {H : Type} : Left H := { results := [], args := [] }

/-- 'laws.FnExactValueOf': WHATEVER THE INPUT: true; the input reads as it did. -/
def fnExactValueOfSpec : ChangeSpec := { name := "fnExactValueOf", fn := fun _ => fun
  | [d1, d2, d3] => { results := [.lit (.bool true)], args := [d1, d2, d3] }
  | _ => none }
def fnExactValueOfRow : OpenClaim := { program := "ytoobahemnnhkbaa", sum := "e8ae0b0a43f3aecb797a99d8e75111724568f00ed2127c9566bd8986a1bc7aa8", func := "loop.example/g01132/laws.FnExactValueOf", spec := "fnExactValueOf", unfollowed := true, recurses := true, apart := false }
def FnExactValueOfSaid : Prop := fnExactValueOfRow.holds Try.pinned (OpenSpec.ofChange fnExactValueOfSpec)

/-- ITS FALSE NEIGHBOUR: 'it returns false'. Refute it at one input. -/
def fnExactValueOfWrong : ChangeSpec := { name := "fnExactValueOf", fn := fun _ => fun
  | [d1, d2, d3] => { results := [.lit (.bool false)], args := [d1, d2, d3] }
  | _ => none }
def FnExactValueOfWrongFalsely : Prop := fnExactValueOfRow.holds Try.pinned (OpenSpec.ofChange fnExactValueOfWrong)

/-- 'laws.FnExactPairingOf': WHATEVER THE INPUT: true; the input reads as it did. -/
def fnExactPairingOfSpec : ChangeSpec := { name := "fnExactPairingOf", fn := fun _ => fun
  | [d1, d2, d3] => { results := [.lit (.bool true)], args := [d1, d2, d3] }
  | _ => none }
def fnExactPairingOfRow : OpenClaim := { program := "ytoobahemnnhkbaa", sum := "e8ae0b0a43f3aecb797a99d8e75111724568f00ed2127c9566bd8986a1bc7aa8", func := "loop.example/g01132/laws.FnExactPairingOf", spec := "fnExactPairingOf", unfollowed := true, recurses := true, apart := false }
def FnExactPairingOfSaid : Prop := fnExactPairingOfRow.holds Try.pinned (OpenSpec.ofChange fnExactPairingOfSpec)

/-- ITS FALSE NEIGHBOUR: 'it returns false'. Refute it at one input. -/
def fnExactPairingOfWrong : ChangeSpec := { name := "fnExactPairingOf", fn := fun _ => fun
  | [d1, d2, d3] => { results := [.lit (.bool false)], args := [d1, d2, d3] }
  | _ => none }
def FnExactPairingOfWrongFalsely : Prop := fnExactPairingOfRow.holds Try.pinned (OpenSpec.ofChange fnExactPairingOfWrong)

/-- 'laws.FnExactCodegreeOf': WHATEVER THE INPUT: true; the input reads as it did. -/
def fnExactCodegreeOfSpec : ChangeSpec := { name := "fnExactCodegreeOf", fn := fun _ => fun
  | [d1, d2] => { results := [.lit (.bool true)], args := [d1, d2] }
  | _ => none }
def fnExactCodegreeOfRow : OpenClaim := { program := "ytoobahemnnhkbaa", sum := "e8ae0b0a43f3aecb797a99d8e75111724568f00ed2127c9566bd8986a1bc7aa8", func := "loop.example/g01132/laws.FnExactCodegreeOf", spec := "fnExactCodegreeOf", unfollowed := true, recurses := true, apart := false }
def FnExactCodegreeOfSaid : Prop := fnExactCodegreeOfRow.holds Try.pinned (OpenSpec.ofChange fnExactCodegreeOfSpec)

/-- ITS FALSE NEIGHBOUR: 'it returns false'. Refute it at one input. -/
def fnExactCodegreeOfWrong : ChangeSpec := { name := "fnExactCodegreeOf", fn := fun _ => fun
  | [d1, d2] => { results := [.lit (.bool false)], args := [d1, d2] }
  | _ => none }
def FnExactCodegreeOfWrongFalsely : Prop := fnExactCodegreeOfRow.holds Try.pinned (OpenSpec.ofChange fnExactCodegreeOfWrong)

/-- 'laws.FnExactDualCharacter': WHATEVER THE INPUT: true; the input reads as it did. -/
def fnExactDualCharacterSpec : ChangeSpec := { name := "fnExactDualCharacter", fn := fun _ => fun
  | [d1, d2] => { results := [.lit (.bool true)], args := [d1, d2] }
  | _ => none }
def fnExactDualCharacterRow : OpenClaim := { program := "ytoobahemnnhkbaa", sum := "e8ae0b0a43f3aecb797a99d8e75111724568f00ed2127c9566bd8986a1bc7aa8", func := "loop.example/g01132/laws.FnExactDualCharacter", spec := "fnExactDualCharacter", unfollowed := true, recurses := true, apart := false }
def FnExactDualCharacterSaid : Prop := fnExactDualCharacterRow.holds Try.pinned (OpenSpec.ofChange fnExactDualCharacterSpec)

/-- ITS FALSE NEIGHBOUR: 'it returns false'. Refute it at one input. -/
def fnExactDualCharacterWrong : ChangeSpec := { name := "fnExactDualCharacter", fn := fun _ => fun
  | [d1, d2] => { results := [.lit (.bool false)], args := [d1, d2] }
  | _ => none }
def FnExactDualCharacterWrongFalsely : Prop := fnExactDualCharacterRow.holds Try.pinned (OpenSpec.ofChange fnExactDualCharacterWrong)

/- THE SECOND FORM. 'bulk': how many values and letters a reading holds, each counted each time it is reached (what is shared counts as often as it is met; a slice's spare places count too). A statement '..UptoSaid' is the law's where the arguments, and the package variables that the reading takes, are together of bulk at most 1048576: NARROWER than '..Said'. Prove '..Said' where nothing that the law and all that it calls make is longer than what came in: it says more and counts as full. Else prove '..UptoSaid'. A law counts once. -/
mutual
def uptoBulk {H : Type} : DataW H → Nat
  | .lit (.string bytes) => bytes.length + 1
  | .lit _ => 1
  | .nil => 1
  | .ptr d => uptoBulk d + 1
  | .slice elems spare => uptoBulkAll elems + uptoBulkAll spare + 1
  | .agg parts => uptoBulkAll parts + 1
  | .iface _ d => uptoBulk d + 1
  | .map entries => uptoBulkEntries entries + 1
  | .held _ => 1
def uptoBulkAll {H : Type} : List (DataW H) → Nat
  | [] => 0
  | d :: r => uptoBulk d + uptoBulkAll r
def uptoBulkEntries {H : Type} : List (Lit × DataW H) → Nat
  | [] => 0
  | x :: r => uptoBulkEntry x + uptoBulkEntries r
def uptoBulkEntry {H : Type} : Lit × DataW H → Nat
  | (.string bytes, d) => bytes.length + uptoBulk d + 1
  | (_, d) => uptoBulk d + 1
 end
def uptoSmall : (H : Type) → List (DataW H) → Bool := fun _ ds => decide (uptoBulkAll ds ≤ 1048576)
def OpenSpec.upto (s : _root_.Go.ChangeSpec) : _root_.Go.OpenSpec := { _root_.Go.OpenSpec.ofChange s with cond := some uptoSmall }

/-- 'laws.FnExactValueOf', WHERE WHAT IT READS IS OF BULK AT MOST 1048576: true; the input reads as it did. -/
def fnExactValueOfUptoRow : OpenClaim := { program := "ytoobahemnnhkbaa", sum := "e8ae0b0a43f3aecb797a99d8e75111724568f00ed2127c9566bd8986a1bc7aa8", func := "loop.example/g01132/laws.FnExactValueOf", spec := "fnExactValueOf", unfollowed := true, recurses := true, apart := false, narrowed := true }
def FnExactValueOfUptoSaid : Prop := fnExactValueOfUptoRow.holds Try.pinned (OpenSpec.upto fnExactValueOfSpec)

/-- 'laws.FnExactPairingOf', WHERE WHAT IT READS IS OF BULK AT MOST 1048576: true; the input reads as it did. -/
def fnExactPairingOfUptoRow : OpenClaim := { program := "ytoobahemnnhkbaa", sum := "e8ae0b0a43f3aecb797a99d8e75111724568f00ed2127c9566bd8986a1bc7aa8", func := "loop.example/g01132/laws.FnExactPairingOf", spec := "fnExactPairingOf", unfollowed := true, recurses := true, apart := false, narrowed := true }
def FnExactPairingOfUptoSaid : Prop := fnExactPairingOfUptoRow.holds Try.pinned (OpenSpec.upto fnExactPairingOfSpec)

/-- 'laws.FnExactCodegreeOf', WHERE WHAT IT READS IS OF BULK AT MOST 1048576: true; the input reads as it did. -/
def fnExactCodegreeOfUptoRow : OpenClaim := { program := "ytoobahemnnhkbaa", sum := "e8ae0b0a43f3aecb797a99d8e75111724568f00ed2127c9566bd8986a1bc7aa8", func := "loop.example/g01132/laws.FnExactCodegreeOf", spec := "fnExactCodegreeOf", unfollowed := true, recurses := true, apart := false, narrowed := true }
def FnExactCodegreeOfUptoSaid : Prop := fnExactCodegreeOfUptoRow.holds Try.pinned (OpenSpec.upto fnExactCodegreeOfSpec)

/-- 'laws.FnExactDualCharacter', WHERE WHAT IT READS IS OF BULK AT MOST 1048576: true; the input reads as it did. -/
def fnExactDualCharacterUptoRow : OpenClaim := { program := "ytoobahemnnhkbaa", sum := "e8ae0b0a43f3aecb797a99d8e75111724568f00ed2127c9566bd8986a1bc7aa8", func := "loop.example/g01132/laws.FnExactDualCharacter", spec := "fnExactDualCharacter", unfollowed := true, recurses := true, apart := false, narrowed := true }
def FnExactDualCharacterUptoSaid : Prop := fnExactDualCharacterUptoRow.holds Try.pinned (OpenSpec.upto fnExactDualCharacterSpec)

end Rows
end Go.Proofs.Ytoobahemnnhkbaa
