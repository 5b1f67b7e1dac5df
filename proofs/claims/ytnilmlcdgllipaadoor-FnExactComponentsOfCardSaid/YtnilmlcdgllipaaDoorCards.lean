/-
  DERIVED. GIVEN WITH THE SEED: THE CARDS: each row of YtnilmlcdgllipaaDoorRows.lean that lists a variable, with what it lists TIED to the program's text (the seventh form; the later family's looks); each row that meets fmt, with fmt's text TOLD by the authors' own Lean function (tested against real Go, not proved from fmt's source: count such statements apart). THE CARD IS WHAT COUNTS. Prove the row's statement (the work); the ties are given (YtnilmlcdgllipaaDoorTie.lean); close each card by the builder's one call (the guide's Derived/Test/ToyasCard.lean, 'card_holds'). Laid BY PROGRAM, IN A SANDBOX (cutbox-door.mjs). By AI agents, Wed Nov 11 2026. No macro, syntax, notation, axiom, sorry.
-/
import Derived.Test.YtnilmlcdgllipaaDoorRows
import GoSem.ClaimSeven
namespace Go.Proofs.YtnilmlcdgllipaaDoor
namespace Rows

/-- THE TIED CARD OF 'laws.FnExactIsSimpleRing'. -/
def fnExactIsSimpleRingCard : Claim7 := { stood := { row := fnExactIsSimpleRingRow, standIns := [], harness := (true, "d19205e4b0cfdd994bfdd9663ec31a1aaab05ceeb7aefa5d66f6ba323338feb5"), looks := false }, kinds := [], alts := [], laidByText := true, laidKinds := [.data], laidTests := true, laidLooks := .later }
def FnExactIsSimpleRingCardSaid : Prop := Claim7.holds Tryd.pinned (.plain (OpenSpec.ofChange fnExactIsSimpleRingSpec)) fnExactIsSimpleRingCard

/-- THE TIED CARD OF 'laws.FnExactIsSubring'. -/
def fnExactIsSubringCard : Claim7 := { stood := { row := fnExactIsSubringRow, standIns := [], harness := (true, "d19205e4b0cfdd994bfdd9663ec31a1aaab05ceeb7aefa5d66f6ba323338feb5"), looks := false }, kinds := [], alts := [], laidByText := true, laidKinds := [.data], laidTests := true, laidLooks := .later }
def FnExactIsSubringCardSaid : Prop := Claim7.holds Tryd.pinned (.plain (OpenSpec.ofChange fnExactIsSubringSpec)) fnExactIsSubringCard

/-- THE TIED CARD OF 'laws.FnExactSubringFrom'. -/
def fnExactSubringFromCard : Claim7 := { stood := { row := fnExactSubringFromRow, standIns := [], harness := (true, "d19205e4b0cfdd994bfdd9663ec31a1aaab05ceeb7aefa5d66f6ba323338feb5"), looks := false }, kinds := [], alts := [], laidByText := true, laidKinds := [.data], laidTests := true, laidLooks := .later }
def FnExactSubringFromCardSaid : Prop := Claim7.holds Tryd.pinned (.plain (OpenSpec.ofChange fnExactSubringFromSpec)) fnExactSubringFromCard

/-- THE TIED CARD OF 'laws.FnExactAdjointOf'. -/
def fnExactAdjointOfCard : Claim7 := { stood := { row := fnExactAdjointOfRow, standIns := [], harness := (true, "d19205e4b0cfdd994bfdd9663ec31a1aaab05ceeb7aefa5d66f6ba323338feb5"), looks := false }, kinds := [], alts := [], laidByText := true, laidKinds := [.data], laidTests := true, laidLooks := .later }
def FnExactAdjointOfCardSaid : Prop := Claim7.holds Tryd.pinned (.plain (OpenSpec.ofChange fnExactAdjointOfSpec)) fnExactAdjointOfCard

/-- THE TIED CARD OF 'laws.FnExactComponentsOf'. -/
def fnExactComponentsOfCard : Claim7 := { stood := { row := fnExactComponentsOfRow, standIns := [], harness := (true, "d19205e4b0cfdd994bfdd9663ec31a1aaab05ceeb7aefa5d66f6ba323338feb5"), looks := false }, kinds := [], alts := [], laidByText := true, laidKinds := [.data], laidTests := true, laidLooks := .later }
def FnExactComponentsOfCardSaid : Prop := Claim7.holds Tryd.pinned (.plain (OpenSpec.ofChange fnExactComponentsOfSpec)) fnExactComponentsOfCard

/-- THE TIED CARD OF 'laws.FnExactCosetsOf'. -/
def fnExactCosetsOfCard : Claim7 := { stood := { row := fnExactCosetsOfRow, standIns := [], harness := (true, "d19205e4b0cfdd994bfdd9663ec31a1aaab05ceeb7aefa5d66f6ba323338feb5"), looks := false }, kinds := [], alts := [], laidByText := true, laidKinds := [.data], laidTests := true, laidLooks := .later }
def FnExactCosetsOfCardSaid : Prop := Claim7.holds Tryd.pinned (.plain (OpenSpec.ofChange fnExactCosetsOfSpec)) fnExactCosetsOfCard

/-- THE SECOND FORM's CARD OF 'laws.FnExactIsSimpleRing'. -/
def fnExactIsSimpleRingUptoCard : Claim7 := { stood := { row := fnExactIsSimpleRingUptoRow, standIns := [], harness := (true, "d19205e4b0cfdd994bfdd9663ec31a1aaab05ceeb7aefa5d66f6ba323338feb5"), looks := false }, kinds := [], alts := [], laidByText := true, laidKinds := [.data], laidTests := true, laidLooks := .later }
def FnExactIsSimpleRingUptoCardSaid : Prop := Claim7.holds Tryd.pinned (.plain (OpenSpec.upto fnExactIsSimpleRingSpec)) fnExactIsSimpleRingUptoCard

/-- THE SECOND FORM's CARD OF 'laws.FnExactIsSubring'. -/
def fnExactIsSubringUptoCard : Claim7 := { stood := { row := fnExactIsSubringUptoRow, standIns := [], harness := (true, "d19205e4b0cfdd994bfdd9663ec31a1aaab05ceeb7aefa5d66f6ba323338feb5"), looks := false }, kinds := [], alts := [], laidByText := true, laidKinds := [.data], laidTests := true, laidLooks := .later }
def FnExactIsSubringUptoCardSaid : Prop := Claim7.holds Tryd.pinned (.plain (OpenSpec.upto fnExactIsSubringSpec)) fnExactIsSubringUptoCard

/-- THE SECOND FORM's CARD OF 'laws.FnExactSubringFrom'. -/
def fnExactSubringFromUptoCard : Claim7 := { stood := { row := fnExactSubringFromUptoRow, standIns := [], harness := (true, "d19205e4b0cfdd994bfdd9663ec31a1aaab05ceeb7aefa5d66f6ba323338feb5"), looks := false }, kinds := [], alts := [], laidByText := true, laidKinds := [.data], laidTests := true, laidLooks := .later }
def FnExactSubringFromUptoCardSaid : Prop := Claim7.holds Tryd.pinned (.plain (OpenSpec.upto fnExactSubringFromSpec)) fnExactSubringFromUptoCard

/-- THE SECOND FORM's CARD OF 'laws.FnExactAdjointOf'. -/
def fnExactAdjointOfUptoCard : Claim7 := { stood := { row := fnExactAdjointOfUptoRow, standIns := [], harness := (true, "d19205e4b0cfdd994bfdd9663ec31a1aaab05ceeb7aefa5d66f6ba323338feb5"), looks := false }, kinds := [], alts := [], laidByText := true, laidKinds := [.data], laidTests := true, laidLooks := .later }
def FnExactAdjointOfUptoCardSaid : Prop := Claim7.holds Tryd.pinned (.plain (OpenSpec.upto fnExactAdjointOfSpec)) fnExactAdjointOfUptoCard

/-- THE SECOND FORM's CARD OF 'laws.FnExactComponentsOf'. -/
def fnExactComponentsOfUptoCard : Claim7 := { stood := { row := fnExactComponentsOfUptoRow, standIns := [], harness := (true, "d19205e4b0cfdd994bfdd9663ec31a1aaab05ceeb7aefa5d66f6ba323338feb5"), looks := false }, kinds := [], alts := [], laidByText := true, laidKinds := [.data], laidTests := true, laidLooks := .later }
def FnExactComponentsOfUptoCardSaid : Prop := Claim7.holds Tryd.pinned (.plain (OpenSpec.upto fnExactComponentsOfSpec)) fnExactComponentsOfUptoCard

/-- THE SECOND FORM's CARD OF 'laws.FnExactCosetsOf'. -/
def fnExactCosetsOfUptoCard : Claim7 := { stood := { row := fnExactCosetsOfUptoRow, standIns := [], harness := (true, "d19205e4b0cfdd994bfdd9663ec31a1aaab05ceeb7aefa5d66f6ba323338feb5"), looks := false }, kinds := [], alts := [], laidByText := true, laidKinds := [.data], laidTests := true, laidLooks := .later }
def FnExactCosetsOfUptoCardSaid : Prop := Claim7.holds Tryd.pinned (.plain (OpenSpec.upto fnExactCosetsOfSpec)) fnExactCosetsOfUptoCard
end Rows
end Go.Proofs.YtnilmlcdgllipaaDoor
