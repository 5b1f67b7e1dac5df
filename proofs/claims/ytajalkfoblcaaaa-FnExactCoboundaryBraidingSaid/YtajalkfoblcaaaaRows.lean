/-
  No cell of these rows narrows 'for every input' (looked for: loops, veiled, ifaces, maps, wideKeys, modest, calm, conditions, laid).
  DERIVED. THE GIVEN ROWS OF THIS SEAT. 5 by the template 'for every input the law returns true; each argument reads behind the call as it read before'; 0 by the template 'total and deterministic' (their statements: YtajalkfoblcaaaaTotals.lean).
  GIVEN WITH THE SEED: the statements are not yours to turn. If you find one false, say at which input.
  Laid BY PROGRAM, IN A SANDBOX (cutbox-rows.mjs): the forced cells as the released guide's own fill.sh prints them over the translation 9f82c3b354935368… (all of the seat's roots in one cut). By AI agents, Wed Nov 11 2026. No macro, syntax, notation, axiom, sorry.
-/
import Derived.Test.YtajalkfoblcaaaaChecked
import GoSem.Claim
import GoSem.ClaimJoined
import GoSem.ClaimMapViews
import Derived.JoinedTies
import Derived.KernelRfl
namespace Go.Proofs.Ytajalkfoblcaaaa
/- THE CELL 'sum', in the pinned program and in every row, IS THE sha256 OF THE DUMP (.gsa) THAT YtajalkfoblcaaaaProg.lean LOADS. Nothing in Lean hashes anything: it is a label: what it is worth is what the hold of that sum in a sandbox is worth. -/
noncomputable def Try.pinned : Pinned := { name := "ytajalkfoblcaaaa", sum := "9f82c3b35493536876e578857267f1233e504a30424da4f44b2bac0a4e32c349", checked := Try.checked }
namespace Rows
def none {H : Type} : Left H := { results := [], args := [] }

/-- 'laws.FnExactSlantOf': WHATEVER THE INPUT: true; the input reads as it did. -/
def fnExactSlantOfSpec : ChangeSpec := { name := "fnExactSlantOf", fn := fun _ => fun
  | [d1, d2] => { results := [.lit (.bool true)], args := [d1, d2] }
  | _ => none }
def fnExactSlantOfRow : OpenClaim := { program := "ytajalkfoblcaaaa", sum := "9f82c3b35493536876e578857267f1233e504a30424da4f44b2bac0a4e32c349", func := "loop.example/g01132/laws.FnExactSlantOf", spec := "fnExactSlantOf", unfollowed := true, recurses := true, apart := false }
def FnExactSlantOfSaid : Prop := fnExactSlantOfRow.holds Try.pinned (OpenSpec.ofChange fnExactSlantOfSpec)

/-- ITS FALSE NEIGHBOUR: 'it returns false'. Refute it at one input. -/
def fnExactSlantOfWrong : ChangeSpec := { name := "fnExactSlantOf", fn := fun _ => fun
  | [d1, d2] => { results := [.lit (.bool false)], args := [d1, d2] }
  | _ => none }
def FnExactSlantOfWrongFalsely : Prop := fnExactSlantOfRow.holds Try.pinned (OpenSpec.ofChange fnExactSlantOfWrong)

/-- 'laws.FnExactIsBraiding': WHATEVER THE INPUT: true; the input reads as it did. -/
def fnExactIsBraidingSpec : ChangeSpec := { name := "fnExactIsBraiding", fn := fun _ => fun
  | [d] => { results := [.lit (.bool true)], args := [d] }
  | _ => none }
def fnExactIsBraidingRow : OpenClaim := { program := "ytajalkfoblcaaaa", sum := "9f82c3b35493536876e578857267f1233e504a30424da4f44b2bac0a4e32c349", func := "loop.example/g01132/laws.FnExactIsBraiding", spec := "fnExactIsBraiding", unfollowed := true, recurses := true, apart := false }
def FnExactIsBraidingSaid : Prop := fnExactIsBraidingRow.holds Try.pinned (OpenSpec.ofChange fnExactIsBraidingSpec)

/-- ITS FALSE NEIGHBOUR: 'it returns false'. Refute it at one input. -/
def fnExactIsBraidingWrong : ChangeSpec := { name := "fnExactIsBraiding", fn := fun _ => fun
  | [d] => { results := [.lit (.bool false)], args := [d] }
  | _ => none }
def FnExactIsBraidingWrongFalsely : Prop := fnExactIsBraidingRow.holds Try.pinned (OpenSpec.ofChange fnExactIsBraidingWrong)

/-- 'laws.FnExactCoboundaryBraiding': WHATEVER THE INPUT: true; the input reads as it did. -/
def fnExactCoboundaryBraidingSpec : ChangeSpec := { name := "fnExactCoboundaryBraiding", fn := fun _ => fun
  | [d1, d2, d3] => { results := [.lit (.bool true)], args := [d1, d2, d3] }
  | _ => none }
def fnExactCoboundaryBraidingRow : OpenClaim := { program := "ytajalkfoblcaaaa", sum := "9f82c3b35493536876e578857267f1233e504a30424da4f44b2bac0a4e32c349", func := "loop.example/g01132/laws.FnExactCoboundaryBraiding", spec := "fnExactCoboundaryBraiding", unfollowed := true, recurses := true, apart := false }
def FnExactCoboundaryBraidingSaid : Prop := fnExactCoboundaryBraidingRow.holds Try.pinned (OpenSpec.ofChange fnExactCoboundaryBraidingSpec)

/-- ITS FALSE NEIGHBOUR: 'it returns false'. Refute it at one input. -/
def fnExactCoboundaryBraidingWrong : ChangeSpec := { name := "fnExactCoboundaryBraiding", fn := fun _ => fun
  | [d1, d2, d3] => { results := [.lit (.bool false)], args := [d1, d2, d3] }
  | _ => none }
def FnExactCoboundaryBraidingWrongFalsely : Prop := fnExactCoboundaryBraidingRow.holds Try.pinned (OpenSpec.ofChange fnExactCoboundaryBraidingWrong)

/-- 'laws.FnExactMonodromyNumber': WHATEVER THE INPUT: true; the input reads as it did. -/
def fnExactMonodromyNumberSpec : ChangeSpec := { name := "fnExactMonodromyNumber", fn := fun _ => fun
  | [d1, d2, d3] => { results := [.lit (.bool true)], args := [d1, d2, d3] }
  | _ => none }
def fnExactMonodromyNumberRow : OpenClaim := { program := "ytajalkfoblcaaaa", sum := "9f82c3b35493536876e578857267f1233e504a30424da4f44b2bac0a4e32c349", func := "loop.example/g01132/laws.FnExactMonodromyNumber", spec := "fnExactMonodromyNumber", unfollowed := true, recurses := true, apart := false }
def FnExactMonodromyNumberSaid : Prop := fnExactMonodromyNumberRow.holds Try.pinned (OpenSpec.ofChange fnExactMonodromyNumberSpec)

/-- ITS FALSE NEIGHBOUR: 'it returns false'. Refute it at one input. -/
def fnExactMonodromyNumberWrong : ChangeSpec := { name := "fnExactMonodromyNumber", fn := fun _ => fun
  | [d1, d2, d3] => { results := [.lit (.bool false)], args := [d1, d2, d3] }
  | _ => none }
def FnExactMonodromyNumberWrongFalsely : Prop := fnExactMonodromyNumberRow.holds Try.pinned (OpenSpec.ofChange fnExactMonodromyNumberWrong)

/-- 'laws.FnExactAddCocycles': WHATEVER THE INPUT: true; the input reads as it did. -/
def fnExactAddCocyclesSpec : ChangeSpec := { name := "fnExactAddCocycles", fn := fun _ => fun
  | [d1, d2] => { results := [.lit (.bool true)], args := [d1, d2] }
  | _ => none }
def fnExactAddCocyclesRow : OpenClaim := { program := "ytajalkfoblcaaaa", sum := "9f82c3b35493536876e578857267f1233e504a30424da4f44b2bac0a4e32c349", func := "loop.example/g01132/laws.FnExactAddCocycles", spec := "fnExactAddCocycles", unfollowed := true, recurses := true, apart := false }
def FnExactAddCocyclesSaid : Prop := fnExactAddCocyclesRow.holds Try.pinned (OpenSpec.ofChange fnExactAddCocyclesSpec)

/-- ITS FALSE NEIGHBOUR: 'it returns false'. Refute it at one input. -/
def fnExactAddCocyclesWrong : ChangeSpec := { name := "fnExactAddCocycles", fn := fun _ => fun
  | [d1, d2] => { results := [.lit (.bool false)], args := [d1, d2] }
  | _ => none }
def FnExactAddCocyclesWrongFalsely : Prop := fnExactAddCocyclesRow.holds Try.pinned (OpenSpec.ofChange fnExactAddCocyclesWrong)

/- THE SECOND FORM. 'bulk': how many values and letters a reading holds, each counted each time it is reached (what is shared counts as often as it is met; a slice's spare places count too). A statement '..UptoSaid' is the law's where the arguments, and the package variables that the reading takes, are together of bulk at most 1048576: NARROWER than '..Said'. Prove '..Said' where nothing that the law and all that it calls make is longer than what came in: it says more and counts as full. Else prove '..UptoSaid'. A law counts once. -/
mutual
def uptoBulk {H : Type} : DataW H → Nat
  | .lit (.string bytes) => bytes.length + 1
  | .lit _ => 1
  | .nil => 1
  | .ptr d => uptoBulk d + 1
  | .slice elems spare => uptoBulkAll elems + uptoBulkAll spare + 1
  | .agg parts => uptoBulkAll parts + 1
  | .iface _ d => uptoBulk d + 1
  | .map entries => uptoBulkEntries entries + 1
  | .held _ => 1
def uptoBulkAll {H : Type} : List (DataW H) → Nat
  | [] => 0
  | d :: r => uptoBulk d + uptoBulkAll r
def uptoBulkEntries {H : Type} : List (Lit × DataW H) → Nat
  | [] => 0
  | x :: r => uptoBulkEntry x + uptoBulkEntries r
def uptoBulkEntry {H : Type} : Lit × DataW H → Nat
  | (.string bytes, d) => bytes.length + uptoBulk d + 1
  | (_, d) => uptoBulk d + 1
 end
def uptoSmall : (H : Type) → List (DataW H) → Bool := fun _ ds => decide (uptoBulkAll ds ≤ 1048576)
def OpenSpec.upto (s : _root_.Go.ChangeSpec) : _root_.Go.OpenSpec := { _root_.Go.OpenSpec.ofChange s with cond := some uptoSmall }

/-- 'laws.FnExactSlantOf', WHERE WHAT IT READS IS OF BULK AT MOST 1048576: true; the input reads as it did. -/
def fnExactSlantOfUptoRow : OpenClaim := { program := "ytajalkfoblcaaaa", sum := "9f82c3b35493536876e578857267f1233e504a30424da4f44b2bac0a4e32c349", func := "loop.example/g01132/laws.FnExactSlantOf", spec := "fnExactSlantOf", unfollowed := true, recurses := true, apart := false, narrowed := true }
def FnExactSlantOfUptoSaid : Prop := fnExactSlantOfUptoRow.holds Try.pinned (OpenSpec.upto fnExactSlantOfSpec)

/-- 'laws.FnExactIsBraiding', WHERE WHAT IT READS IS OF BULK AT MOST 1048576: true; the input reads as it did. -/
def fnExactIsBraidingUptoRow : OpenClaim := { program := "ytajalkfoblcaaaa", sum := "9f82c3b35493536876e578857267f1233e504a30424da4f44b2bac0a4e32c349", func := "loop.example/g01132/laws.FnExactIsBraiding", spec := "fnExactIsBraiding", unfollowed := true, recurses := true, apart := false, narrowed := true }
def FnExactIsBraidingUptoSaid : Prop := fnExactIsBraidingUptoRow.holds Try.pinned (OpenSpec.upto fnExactIsBraidingSpec)

/-- 'laws.FnExactCoboundaryBraiding', WHERE WHAT IT READS IS OF BULK AT MOST 1048576: true; the input reads as it did. -/
def fnExactCoboundaryBraidingUptoRow : OpenClaim := { program := "ytajalkfoblcaaaa", sum := "9f82c3b35493536876e578857267f1233e504a30424da4f44b2bac0a4e32c349", func := "loop.example/g01132/laws.FnExactCoboundaryBraiding", spec := "fnExactCoboundaryBraiding", unfollowed := true, recurses := true, apart := false, narrowed := true }
def FnExactCoboundaryBraidingUptoSaid : Prop := fnExactCoboundaryBraidingUptoRow.holds Try.pinned (OpenSpec.upto fnExactCoboundaryBraidingSpec)

/-- 'laws.FnExactMonodromyNumber', WHERE WHAT IT READS IS OF BULK AT MOST 1048576: true; the input reads as it did. -/
def fnExactMonodromyNumberUptoRow : OpenClaim := { program := "ytajalkfoblcaaaa", sum := "9f82c3b35493536876e578857267f1233e504a30424da4f44b2bac0a4e32c349", func := "loop.example/g01132/laws.FnExactMonodromyNumber", spec := "fnExactMonodromyNumber", unfollowed := true, recurses := true, apart := false, narrowed := true }
def FnExactMonodromyNumberUptoSaid : Prop := fnExactMonodromyNumberUptoRow.holds Try.pinned (OpenSpec.upto fnExactMonodromyNumberSpec)

/-- 'laws.FnExactAddCocycles', WHERE WHAT IT READS IS OF BULK AT MOST 1048576: true; the input reads as it did. -/
def fnExactAddCocyclesUptoRow : OpenClaim := { program := "ytajalkfoblcaaaa", sum := "9f82c3b35493536876e578857267f1233e504a30424da4f44b2bac0a4e32c349", func := "loop.example/g01132/laws.FnExactAddCocycles", spec := "fnExactAddCocycles", unfollowed := true, recurses := true, apart := false, narrowed := true }
def FnExactAddCocyclesUptoSaid : Prop := fnExactAddCocyclesUptoRow.holds Try.pinned (OpenSpec.upto fnExactAddCocyclesSpec)

end Rows
end Go.Proofs.Ytajalkfoblcaaaa
