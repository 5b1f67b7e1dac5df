/-
  NARROWER THAN 'FOR EVERY INPUT', by the rows' own cells (each row's printed sentence says how): FnExactIsSimpleRing: laid · FnExactIsSubring: laid · FnExactSubringFrom: laid · FnExactAdjointOf: laid · FnExactComponentsOf: laid · FnExactCosetsOf: laid.
  DERIVED. THE GIVEN ROWS OF THIS SEAT. 6 by the template 'for every input the law returns true; each argument reads behind the call as it read before'; 0 by the template 'total and deterministic' (their statements: YtnilmlcdgllipaaDoorTotals.lean).
  GIVEN WITH THE SEED: the statements are not yours to turn. If you find one false, say at which input.
  Laid BY PROGRAM, IN A SANDBOX (cutbox-rows.mjs): the forced cells as the released guide's own fill.sh prints them over the translation b986ff8cbca2b9dc… (all of the seat's roots in one cut). By AI agents, Wed Nov 11 2026. No macro, syntax, notation, axiom, sorry.
-/
import Derived.Test.YtnilmlcdgllipaaDoorChecked
import GoSem.Claim
import GoSem.ClaimJoined
import GoSem.ClaimMapViews
import Derived.JoinedTies
import Derived.KernelRfl
namespace Go.Proofs.YtnilmlcdgllipaaDoor
/- THE CELL 'sum', in the pinned program and in every row, IS THE sha256 OF THE DUMP (.gsa) THAT YtnilmlcdgllipaaDoorProg.lean LOADS. Nothing in Lean hashes anything: it is a label: what it is worth is what the hold of that sum in a sandbox is worth. -/
noncomputable def Tryd.pinned : Pinned := { name := "ytnilmlcdgllipaadoor", sum := "b986ff8cbca2b9dcdf176329320582b65512408fbb2842e06aa84a9d0d70fdc3", checked := Tryd.checked }
namespace Rows
def none {H : Type} : Left H := { results := [], args := [] }

/- WHAT THE LISTED PACKAGE-LEVEL VARIABLES READ AS WHEN THE CALL BEGINS. Each datum BY PROGRAM (the guide's laid-datum.mjs) off the statement by which the dump's own 'gosem.cut.vars' lays the variable. In a bare row this is a premise. The card (YtnilmlcdgllipaaDoorCards.lean) ties it to the program's text. -/
def laid_math_bits_deBruijn64tab {H : Type} : DataW H := .agg [.lit (.int .u8 0), .lit (.int .u8 1), .lit (.int .u8 56), .lit (.int .u8 2), .lit (.int .u8 57), .lit (.int .u8 49), .lit (.int .u8 28), .lit (.int .u8 3), .lit (.int .u8 61), .lit (.int .u8 58), .lit (.int .u8 42), .lit (.int .u8 50), .lit (.int .u8 38), .lit (.int .u8 29), .lit (.int .u8 17), .lit (.int .u8 4), .lit (.int .u8 62), .lit (.int .u8 47), .lit (.int .u8 59), .lit (.int .u8 36), .lit (.int .u8 45), .lit (.int .u8 43), .lit (.int .u8 51), .lit (.int .u8 22), .lit (.int .u8 53), .lit (.int .u8 39), .lit (.int .u8 33), .lit (.int .u8 30), .lit (.int .u8 24), .lit (.int .u8 18), .lit (.int .u8 12), .lit (.int .u8 5), .lit (.int .u8 63), .lit (.int .u8 55), .lit (.int .u8 48), .lit (.int .u8 27), .lit (.int .u8 60), .lit (.int .u8 41), .lit (.int .u8 37), .lit (.int .u8 16), .lit (.int .u8 46), .lit (.int .u8 35), .lit (.int .u8 44), .lit (.int .u8 21), .lit (.int .u8 52), .lit (.int .u8 32), .lit (.int .u8 23), .lit (.int .u8 11), .lit (.int .u8 54), .lit (.int .u8 26), .lit (.int .u8 40), .lit (.int .u8 15), .lit (.int .u8 34), .lit (.int .u8 20), .lit (.int .u8 31), .lit (.int .u8 10), .lit (.int .u8 25), .lit (.int .u8 14), .lit (.int .u8 19), .lit (.int .u8 9), .lit (.int .u8 13), .lit (.int .u8 8), .lit (.int .u8 7), .lit (.int .u8 6)]

/-- 'laws.FnExactIsSimpleRing': WHATEVER THE INPUT: true; the input reads as it did. -/
def fnExactIsSimpleRingSpec : ChangeSpec := { name := "fnExactIsSimpleRing", fn := fun _ => fun
  | [d] => { results := [.lit (.bool true)], args := [d] }
  | _ => none }
def fnExactIsSimpleRingRow : OpenClaim := { program := "ytnilmlcdgllipaadoor", sum := "b986ff8cbca2b9dcdf176329320582b65512408fbb2842e06aa84a9d0d70fdc3", func := "loop.example/g01132/laws.FnExactIsSimpleRing", spec := "fnExactIsSimpleRing", unfollowed := true, recurses := true, named := ["math/bits.deBruijn64tab"], apart := false, laid := [("math/bits.deBruijn64tab", laid_math_bits_deBruijn64tab)] }
def FnExactIsSimpleRingSaid : Prop := fnExactIsSimpleRingRow.holds Tryd.pinned (OpenSpec.ofChange fnExactIsSimpleRingSpec)

/-- ITS FALSE NEIGHBOUR: 'it returns false'. Refute it at one input. -/
def fnExactIsSimpleRingWrong : ChangeSpec := { name := "fnExactIsSimpleRing", fn := fun _ => fun
  | [d] => { results := [.lit (.bool false)], args := [d] }
  | _ => none }
def FnExactIsSimpleRingWrongFalsely : Prop := fnExactIsSimpleRingRow.holds Tryd.pinned (OpenSpec.ofChange fnExactIsSimpleRingWrong)

/-- 'laws.FnExactIsSubring': WHATEVER THE INPUT: true; the input reads as it did. -/
def fnExactIsSubringSpec : ChangeSpec := { name := "fnExactIsSubring", fn := fun _ => fun
  | [d1, d2] => { results := [.lit (.bool true)], args := [d1, d2] }
  | _ => none }
def fnExactIsSubringRow : OpenClaim := { program := "ytnilmlcdgllipaadoor", sum := "b986ff8cbca2b9dcdf176329320582b65512408fbb2842e06aa84a9d0d70fdc3", func := "loop.example/g01132/laws.FnExactIsSubring", spec := "fnExactIsSubring", unfollowed := true, recurses := true, named := ["math/bits.deBruijn64tab"], apart := false, laid := [("math/bits.deBruijn64tab", laid_math_bits_deBruijn64tab)] }
def FnExactIsSubringSaid : Prop := fnExactIsSubringRow.holds Tryd.pinned (OpenSpec.ofChange fnExactIsSubringSpec)

/-- ITS FALSE NEIGHBOUR: 'it returns false'. Refute it at one input. -/
def fnExactIsSubringWrong : ChangeSpec := { name := "fnExactIsSubring", fn := fun _ => fun
  | [d1, d2] => { results := [.lit (.bool false)], args := [d1, d2] }
  | _ => none }
def FnExactIsSubringWrongFalsely : Prop := fnExactIsSubringRow.holds Tryd.pinned (OpenSpec.ofChange fnExactIsSubringWrong)

/-- 'laws.FnExactSubringFrom': WHATEVER THE INPUT: true; the input reads as it did. -/
def fnExactSubringFromSpec : ChangeSpec := { name := "fnExactSubringFrom", fn := fun _ => fun
  | [d1, d2] => { results := [.lit (.bool true)], args := [d1, d2] }
  | _ => none }
def fnExactSubringFromRow : OpenClaim := { program := "ytnilmlcdgllipaadoor", sum := "b986ff8cbca2b9dcdf176329320582b65512408fbb2842e06aa84a9d0d70fdc3", func := "loop.example/g01132/laws.FnExactSubringFrom", spec := "fnExactSubringFrom", unfollowed := true, recurses := true, named := ["math/bits.deBruijn64tab"], apart := false, laid := [("math/bits.deBruijn64tab", laid_math_bits_deBruijn64tab)] }
def FnExactSubringFromSaid : Prop := fnExactSubringFromRow.holds Tryd.pinned (OpenSpec.ofChange fnExactSubringFromSpec)

/-- ITS FALSE NEIGHBOUR: 'it returns false'. Refute it at one input. -/
def fnExactSubringFromWrong : ChangeSpec := { name := "fnExactSubringFrom", fn := fun _ => fun
  | [d1, d2] => { results := [.lit (.bool false)], args := [d1, d2] }
  | _ => none }
def FnExactSubringFromWrongFalsely : Prop := fnExactSubringFromRow.holds Tryd.pinned (OpenSpec.ofChange fnExactSubringFromWrong)

/-- 'laws.FnExactAdjointOf': WHATEVER THE INPUT: true; the input reads as it did. -/
def fnExactAdjointOfSpec : ChangeSpec := { name := "fnExactAdjointOf", fn := fun _ => fun
  | [d] => { results := [.lit (.bool true)], args := [d] }
  | _ => none }
def fnExactAdjointOfRow : OpenClaim := { program := "ytnilmlcdgllipaadoor", sum := "b986ff8cbca2b9dcdf176329320582b65512408fbb2842e06aa84a9d0d70fdc3", func := "loop.example/g01132/laws.FnExactAdjointOf", spec := "fnExactAdjointOf", unfollowed := true, recurses := true, named := ["math/bits.deBruijn64tab"], apart := false, laid := [("math/bits.deBruijn64tab", laid_math_bits_deBruijn64tab)] }
def FnExactAdjointOfSaid : Prop := fnExactAdjointOfRow.holds Tryd.pinned (OpenSpec.ofChange fnExactAdjointOfSpec)

/-- ITS FALSE NEIGHBOUR: 'it returns false'. Refute it at one input. -/
def fnExactAdjointOfWrong : ChangeSpec := { name := "fnExactAdjointOf", fn := fun _ => fun
  | [d] => { results := [.lit (.bool false)], args := [d] }
  | _ => none }
def FnExactAdjointOfWrongFalsely : Prop := fnExactAdjointOfRow.holds Tryd.pinned (OpenSpec.ofChange fnExactAdjointOfWrong)

/-- 'laws.FnExactComponentsOf': WHATEVER THE INPUT: true; the input reads as it did. -/
def fnExactComponentsOfSpec : ChangeSpec := { name := "fnExactComponentsOf", fn := fun _ => fun
  | [d] => { results := [.lit (.bool true)], args := [d] }
  | _ => none }
def fnExactComponentsOfRow : OpenClaim := { program := "ytnilmlcdgllipaadoor", sum := "b986ff8cbca2b9dcdf176329320582b65512408fbb2842e06aa84a9d0d70fdc3", func := "loop.example/g01132/laws.FnExactComponentsOf", spec := "fnExactComponentsOf", unfollowed := true, recurses := true, named := ["math/bits.deBruijn64tab"], apart := false, laid := [("math/bits.deBruijn64tab", laid_math_bits_deBruijn64tab)] }
def FnExactComponentsOfSaid : Prop := fnExactComponentsOfRow.holds Tryd.pinned (OpenSpec.ofChange fnExactComponentsOfSpec)

/-- ITS FALSE NEIGHBOUR: 'it returns false'. Refute it at one input. -/
def fnExactComponentsOfWrong : ChangeSpec := { name := "fnExactComponentsOf", fn := fun _ => fun
  | [d] => { results := [.lit (.bool false)], args := [d] }
  | _ => none }
def FnExactComponentsOfWrongFalsely : Prop := fnExactComponentsOfRow.holds Tryd.pinned (OpenSpec.ofChange fnExactComponentsOfWrong)

/-- 'laws.FnExactCosetsOf': WHATEVER THE INPUT: true; the input reads as it did. -/
def fnExactCosetsOfSpec : ChangeSpec := { name := "fnExactCosetsOf", fn := fun _ => fun
  | [d1, d2] => { results := [.lit (.bool true)], args := [d1, d2] }
  | _ => none }
def fnExactCosetsOfRow : OpenClaim := { program := "ytnilmlcdgllipaadoor", sum := "b986ff8cbca2b9dcdf176329320582b65512408fbb2842e06aa84a9d0d70fdc3", func := "loop.example/g01132/laws.FnExactCosetsOf", spec := "fnExactCosetsOf", unfollowed := true, recurses := true, named := ["math/bits.deBruijn64tab"], apart := false, laid := [("math/bits.deBruijn64tab", laid_math_bits_deBruijn64tab)] }
def FnExactCosetsOfSaid : Prop := fnExactCosetsOfRow.holds Tryd.pinned (OpenSpec.ofChange fnExactCosetsOfSpec)

/-- ITS FALSE NEIGHBOUR: 'it returns false'. Refute it at one input. -/
def fnExactCosetsOfWrong : ChangeSpec := { name := "fnExactCosetsOf", fn := fun _ => fun
  | [d1, d2] => { results := [.lit (.bool false)], args := [d1, d2] }
  | _ => none }
def FnExactCosetsOfWrongFalsely : Prop := fnExactCosetsOfRow.holds Tryd.pinned (OpenSpec.ofChange fnExactCosetsOfWrong)

/- THE SECOND FORM. 'bulk': how many values and letters a reading holds, each counted each time it is reached (what is shared counts as often as it is met; a slice's spare places count too). A statement '..UptoSaid' is the law's where the arguments, and the package variables that the reading takes, are together of bulk at most 1048576: NARROWER than '..Said'. Prove '..Said' where nothing that the law and all that it calls make is longer than what came in: it says more and counts as full. Else prove '..UptoSaid'. A law counts once. -/
mutual
def uptoBulk {H : Type} : DataW H → Nat
  | .lit (.string bytes) => bytes.length + 1
  | .lit _ => 1
  | .nil => 1
  | .ptr d => uptoBulk d + 1
  | .slice elems spare => uptoBulkAll elems + uptoBulkAll spare + 1
  | .agg parts => uptoBulkAll parts + 1
  | .iface _ d => uptoBulk d + 1
  | .map entries => uptoBulkEntries entries + 1
  | .held _ => 1
def uptoBulkAll {H : Type} : List (DataW H) → Nat
  | [] => 0
  | d :: r => uptoBulk d + uptoBulkAll r
def uptoBulkEntries {H : Type} : List (Lit × DataW H) → Nat
  | [] => 0
  | x :: r => uptoBulkEntry x + uptoBulkEntries r
def uptoBulkEntry {H : Type} : Lit × DataW H → Nat
  | (.string bytes, d) => bytes.length + uptoBulk d + 1
  | (_, d) => uptoBulk d + 1
 end
def uptoSmall : (H : Type) → List (DataW H) → Bool := fun _ ds => decide (uptoBulkAll ds ≤ 1048576)
def OpenSpec.upto (s : _root_.Go.ChangeSpec) : _root_.Go.OpenSpec := { _root_.Go.OpenSpec.ofChange s with cond := some uptoSmall }

/-- 'laws.FnExactIsSimpleRing', WHERE WHAT IT READS IS OF BULK AT MOST 1048576: true; the input reads as it did. -/
def fnExactIsSimpleRingUptoRow : OpenClaim := { program := "ytnilmlcdgllipaadoor", sum := "b986ff8cbca2b9dcdf176329320582b65512408fbb2842e06aa84a9d0d70fdc3", func := "loop.example/g01132/laws.FnExactIsSimpleRing", spec := "fnExactIsSimpleRing", unfollowed := true, recurses := true, named := ["math/bits.deBruijn64tab"], apart := false, laid := [("math/bits.deBruijn64tab", laid_math_bits_deBruijn64tab)], narrowed := true }
def FnExactIsSimpleRingUptoSaid : Prop := fnExactIsSimpleRingUptoRow.holds Tryd.pinned (OpenSpec.upto fnExactIsSimpleRingSpec)

/-- 'laws.FnExactIsSubring', WHERE WHAT IT READS IS OF BULK AT MOST 1048576: true; the input reads as it did. -/
def fnExactIsSubringUptoRow : OpenClaim := { program := "ytnilmlcdgllipaadoor", sum := "b986ff8cbca2b9dcdf176329320582b65512408fbb2842e06aa84a9d0d70fdc3", func := "loop.example/g01132/laws.FnExactIsSubring", spec := "fnExactIsSubring", unfollowed := true, recurses := true, named := ["math/bits.deBruijn64tab"], apart := false, laid := [("math/bits.deBruijn64tab", laid_math_bits_deBruijn64tab)], narrowed := true }
def FnExactIsSubringUptoSaid : Prop := fnExactIsSubringUptoRow.holds Tryd.pinned (OpenSpec.upto fnExactIsSubringSpec)

/-- 'laws.FnExactSubringFrom', WHERE WHAT IT READS IS OF BULK AT MOST 1048576: true; the input reads as it did. -/
def fnExactSubringFromUptoRow : OpenClaim := { program := "ytnilmlcdgllipaadoor", sum := "b986ff8cbca2b9dcdf176329320582b65512408fbb2842e06aa84a9d0d70fdc3", func := "loop.example/g01132/laws.FnExactSubringFrom", spec := "fnExactSubringFrom", unfollowed := true, recurses := true, named := ["math/bits.deBruijn64tab"], apart := false, laid := [("math/bits.deBruijn64tab", laid_math_bits_deBruijn64tab)], narrowed := true }
def FnExactSubringFromUptoSaid : Prop := fnExactSubringFromUptoRow.holds Tryd.pinned (OpenSpec.upto fnExactSubringFromSpec)

/-- 'laws.FnExactAdjointOf', WHERE WHAT IT READS IS OF BULK AT MOST 1048576: true; the input reads as it did. -/
def fnExactAdjointOfUptoRow : OpenClaim := { program := "ytnilmlcdgllipaadoor", sum := "b986ff8cbca2b9dcdf176329320582b65512408fbb2842e06aa84a9d0d70fdc3", func := "loop.example/g01132/laws.FnExactAdjointOf", spec := "fnExactAdjointOf", unfollowed := true, recurses := true, named := ["math/bits.deBruijn64tab"], apart := false, laid := [("math/bits.deBruijn64tab", laid_math_bits_deBruijn64tab)], narrowed := true }
def FnExactAdjointOfUptoSaid : Prop := fnExactAdjointOfUptoRow.holds Tryd.pinned (OpenSpec.upto fnExactAdjointOfSpec)

/-- 'laws.FnExactComponentsOf', WHERE WHAT IT READS IS OF BULK AT MOST 1048576: true; the input reads as it did. -/
def fnExactComponentsOfUptoRow : OpenClaim := { program := "ytnilmlcdgllipaadoor", sum := "b986ff8cbca2b9dcdf176329320582b65512408fbb2842e06aa84a9d0d70fdc3", func := "loop.example/g01132/laws.FnExactComponentsOf", spec := "fnExactComponentsOf", unfollowed := true, recurses := true, named := ["math/bits.deBruijn64tab"], apart := false, laid := [("math/bits.deBruijn64tab", laid_math_bits_deBruijn64tab)], narrowed := true }
def FnExactComponentsOfUptoSaid : Prop := fnExactComponentsOfUptoRow.holds Tryd.pinned (OpenSpec.upto fnExactComponentsOfSpec)

/-- 'laws.FnExactCosetsOf', WHERE WHAT IT READS IS OF BULK AT MOST 1048576: true; the input reads as it did. -/
def fnExactCosetsOfUptoRow : OpenClaim := { program := "ytnilmlcdgllipaadoor", sum := "b986ff8cbca2b9dcdf176329320582b65512408fbb2842e06aa84a9d0d70fdc3", func := "loop.example/g01132/laws.FnExactCosetsOf", spec := "fnExactCosetsOf", unfollowed := true, recurses := true, named := ["math/bits.deBruijn64tab"], apart := false, laid := [("math/bits.deBruijn64tab", laid_math_bits_deBruijn64tab)], narrowed := true }
def FnExactCosetsOfUptoSaid : Prop := fnExactCosetsOfUptoRow.holds Tryd.pinned (OpenSpec.upto fnExactCosetsOfSpec)

end Rows
end Go.Proofs.YtnilmlcdgllipaaDoor
