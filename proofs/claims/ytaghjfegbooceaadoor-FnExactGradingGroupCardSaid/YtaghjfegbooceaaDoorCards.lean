/-
  DERIVED. GIVEN WITH THE SEED: THE CARDS: each row of YtaghjfegbooceaaDoorRows.lean that lists a variable, with what it lists TIED to the program's text (the seventh form; the later family's looks); each row that meets fmt, with fmt's text TOLD by the authors' own Lean function (tested against real Go, not proved from fmt's source: count such statements apart). THE CARD IS WHAT COUNTS. Prove the row's statement (the work); the ties are given (YtaghjfegbooceaaDoorTie.lean); close each card by the builder's one call (the guide's Derived/Test/ToyasCard.lean, 'card_holds'). Laid BY PROGRAM, IN A SANDBOX (cutbox-door.mjs). By AI agents, Wed Nov 11 2026. No macro, syntax, notation, axiom, sorry.
-/
import Derived.Test.YtaghjfegbooceaaDoorRows
import GoSem.ClaimSeven
namespace Go.Proofs.YtaghjfegbooceaaDoor
namespace Rows

/-- THE TIED CARD OF 'laws.FnExactRingOfSubring'. -/
def fnExactRingOfSubringCard : Claim7 := { stood := { row := fnExactRingOfSubringRow, standIns := [], harness := (true, "9b116f279da4e81b71ddf086f5a4c27212112ce362d152d580ebbe2d0d30b393"), looks := false }, kinds := [], alts := [], laidByText := true, laidKinds := [.data], laidTests := true, laidLooks := .later }
def FnExactRingOfSubringCardSaid : Prop := Claim7.holds Tryd.pinned (.plain (OpenSpec.ofChange fnExactRingOfSubringSpec)) fnExactRingOfSubringCard

/-- THE TIED CARD OF 'laws.FnExactAdjointSeries'. -/
def fnExactAdjointSeriesCard : Claim7 := { stood := { row := fnExactAdjointSeriesRow, standIns := [], harness := (true, "9b116f279da4e81b71ddf086f5a4c27212112ce362d152d580ebbe2d0d30b393"), looks := false }, kinds := [], alts := [], laidByText := true, laidKinds := [.data], laidTests := true, laidLooks := .later }
def FnExactAdjointSeriesCardSaid : Prop := Claim7.holds Tryd.pinned (.plain (OpenSpec.ofChange fnExactAdjointSeriesSpec)) fnExactAdjointSeriesCard

/-- THE TIED CARD OF 'laws.FnExactNilpotencyClass'. -/
def fnExactNilpotencyClassCard : Claim7 := { stood := { row := fnExactNilpotencyClassRow, standIns := [], harness := (true, "9b116f279da4e81b71ddf086f5a4c27212112ce362d152d580ebbe2d0d30b393"), looks := false }, kinds := [], alts := [], laidByText := true, laidKinds := [.data], laidTests := true, laidLooks := .later }
def FnExactNilpotencyClassCardSaid : Prop := Claim7.holds Tryd.pinned (.plain (OpenSpec.ofChange fnExactNilpotencyClassSpec)) fnExactNilpotencyClassCard

/-- THE TIED CARD OF 'laws.FnExactGradingGroup'. -/
def fnExactGradingGroupCard : Claim7 := { stood := { row := fnExactGradingGroupRow, standIns := [], harness := (true, "9b116f279da4e81b71ddf086f5a4c27212112ce362d152d580ebbe2d0d30b393"), looks := false }, kinds := [], alts := [], laidByText := true, laidKinds := [.data], laidTests := true, laidLooks := .later }
def FnExactGradingGroupCardSaid : Prop := Claim7.holds Tryd.pinned (.plain (OpenSpec.ofChange fnExactGradingGroupSpec)) fnExactGradingGroupCard

/-- THE TIED CARD OF 'laws.FnExactSubringsOf'. -/
def fnExactSubringsOfCard : Claim7 := { stood := { row := fnExactSubringsOfRow, standIns := [], harness := (true, "9b116f279da4e81b71ddf086f5a4c27212112ce362d152d580ebbe2d0d30b393"), looks := false }, kinds := [], alts := [], laidByText := true, laidKinds := [.data], laidTests := true, laidLooks := .later }
def FnExactSubringsOfCardSaid : Prop := Claim7.holds Tryd.pinned (.plain (OpenSpec.ofChange fnExactSubringsOfSpec)) fnExactSubringsOfCard

/-- THE SECOND FORM's CARD OF 'laws.FnExactRingOfSubring'. -/
def fnExactRingOfSubringUptoCard : Claim7 := { stood := { row := fnExactRingOfSubringUptoRow, standIns := [], harness := (true, "9b116f279da4e81b71ddf086f5a4c27212112ce362d152d580ebbe2d0d30b393"), looks := false }, kinds := [], alts := [], laidByText := true, laidKinds := [.data], laidTests := true, laidLooks := .later }
def FnExactRingOfSubringUptoCardSaid : Prop := Claim7.holds Tryd.pinned (.plain (OpenSpec.upto fnExactRingOfSubringSpec)) fnExactRingOfSubringUptoCard

/-- THE SECOND FORM's CARD OF 'laws.FnExactAdjointSeries'. -/
def fnExactAdjointSeriesUptoCard : Claim7 := { stood := { row := fnExactAdjointSeriesUptoRow, standIns := [], harness := (true, "9b116f279da4e81b71ddf086f5a4c27212112ce362d152d580ebbe2d0d30b393"), looks := false }, kinds := [], alts := [], laidByText := true, laidKinds := [.data], laidTests := true, laidLooks := .later }
def FnExactAdjointSeriesUptoCardSaid : Prop := Claim7.holds Tryd.pinned (.plain (OpenSpec.upto fnExactAdjointSeriesSpec)) fnExactAdjointSeriesUptoCard

/-- THE SECOND FORM's CARD OF 'laws.FnExactNilpotencyClass'. -/
def fnExactNilpotencyClassUptoCard : Claim7 := { stood := { row := fnExactNilpotencyClassUptoRow, standIns := [], harness := (true, "9b116f279da4e81b71ddf086f5a4c27212112ce362d152d580ebbe2d0d30b393"), looks := false }, kinds := [], alts := [], laidByText := true, laidKinds := [.data], laidTests := true, laidLooks := .later }
def FnExactNilpotencyClassUptoCardSaid : Prop := Claim7.holds Tryd.pinned (.plain (OpenSpec.upto fnExactNilpotencyClassSpec)) fnExactNilpotencyClassUptoCard

/-- THE SECOND FORM's CARD OF 'laws.FnExactGradingGroup'. -/
def fnExactGradingGroupUptoCard : Claim7 := { stood := { row := fnExactGradingGroupUptoRow, standIns := [], harness := (true, "9b116f279da4e81b71ddf086f5a4c27212112ce362d152d580ebbe2d0d30b393"), looks := false }, kinds := [], alts := [], laidByText := true, laidKinds := [.data], laidTests := true, laidLooks := .later }
def FnExactGradingGroupUptoCardSaid : Prop := Claim7.holds Tryd.pinned (.plain (OpenSpec.upto fnExactGradingGroupSpec)) fnExactGradingGroupUptoCard

/-- THE SECOND FORM's CARD OF 'laws.FnExactSubringsOf'. -/
def fnExactSubringsOfUptoCard : Claim7 := { stood := { row := fnExactSubringsOfUptoRow, standIns := [], harness := (true, "9b116f279da4e81b71ddf086f5a4c27212112ce362d152d580ebbe2d0d30b393"), looks := false }, kinds := [], alts := [], laidByText := true, laidKinds := [.data], laidTests := true, laidLooks := .later }
def FnExactSubringsOfUptoCardSaid : Prop := Claim7.holds Tryd.pinned (.plain (OpenSpec.upto fnExactSubringsOfSpec)) fnExactSubringsOfUptoCard
end Rows
end Go.Proofs.YtaghjfegbooceaaDoor
