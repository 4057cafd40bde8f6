/-
  DERIVED. GIVEN WITH THE SEED: THE CARDS: each row of YtanchgkiomfhhaaDoorRows.lean that lists a variable, with what it lists TIED to the program's text (the seventh form; the later family's looks); each row that meets fmt, with fmt's text TOLD by the authors' own Lean function (tested against real Go, not proved from fmt's source: count such statements apart). THE CARD IS WHAT COUNTS. Prove the row's statement (the work); the ties are given (YtanchgkiomfhhaaDoorTie.lean); close each card by the builder's one call (the guide's Derived/Test/ToyasCard.lean, 'card_holds'). Laid BY PROGRAM, IN A SANDBOX (cutbox-door.mjs). By AI agents, Wed Nov 11 2026. No macro, syntax, notation, axiom, sorry.
-/
import Derived.Test.YtanchgkiomfhhaaDoorRows
import GoSem.ClaimSeven
namespace Go.Proofs.YtanchgkiomfhhaaDoor
namespace Rows

/-- THE TIED CARD OF 'swagelaw20.PolyAts'. -/
def polyAtsCard : Claim7 := { stood := { row := polyAtsRow, standIns := [], harness := (true, "dfa07772d652bafbc641b9f8abe1860bf66ef2cdea76c25d67884ed4df0e5d8b"), looks := false }, kinds := [], alts := [], laidByText := true, laidKinds := [.data, .pinned], laidTests := true, laidLooks := .later }
def PolyAtsCardSaid : Prop := Claim7.holds Tryd.pinned (.plain (OpenSpec.ofChange polyAtsSpec)) polyAtsCard

/-- THE TIED CARD OF 'swagelaw04.RowSums'. -/
def rowSumsCard : Claim7 := { stood := { row := rowSumsRow, standIns := [], harness := (true, "dfa07772d652bafbc641b9f8abe1860bf66ef2cdea76c25d67884ed4df0e5d8b"), looks := false }, kinds := [], alts := [], laidByText := true, laidKinds := [.data, .pinned], laidTests := true, laidLooks := .later }
def RowSumsCardSaid : Prop := Claim7.holds Tryd.pinned (.plain (OpenSpec.ofChange rowSumsSpec)) rowSumsCard

/-- THE TIED CARD OF 'swagelaw04.RowMakes'. -/
def rowMakesCard : Claim7 := { stood := { row := rowMakesRow, standIns := [], harness := (true, "dfa07772d652bafbc641b9f8abe1860bf66ef2cdea76c25d67884ed4df0e5d8b"), looks := false }, kinds := [], alts := [], laidByText := true, laidKinds := [.data, .pinned], laidTests := true, laidLooks := .later }
def RowMakesCardSaid : Prop := Claim7.holds Tryd.pinned (.plain (OpenSpec.ofChange rowMakesSpec)) rowMakesCard

/-- THE TIED CARD OF 'swagelaw04.RowHolds'. -/
def rowHoldsCard : Claim7 := { stood := { row := rowHoldsRow, standIns := [], harness := (true, "dfa07772d652bafbc641b9f8abe1860bf66ef2cdea76c25d67884ed4df0e5d8b"), looks := false }, kinds := [], alts := [], laidByText := true, laidKinds := [.data, .pinned], laidTests := true, laidLooks := .later }
def RowHoldsCardSaid : Prop := Claim7.holds Tryd.pinned (.plain (OpenSpec.ofChange rowHoldsSpec)) rowHoldsCard

/-- THE TIED CARD OF 'swagelaw20.PolyRing'. -/
def polyRingCard : Claim7 := { stood := { row := polyRingRow, standIns := [], harness := (true, "dfa07772d652bafbc641b9f8abe1860bf66ef2cdea76c25d67884ed4df0e5d8b"), looks := false }, kinds := [], alts := [], laidByText := true, laidKinds := [.data, .pinned], laidTests := true, laidLooks := .later }
def PolyRingCardSaid : Prop := Claim7.holds Tryd.pinned (.plain (OpenSpec.ofChange polyRingSpec)) polyRingCard

/-- THE TIED CARD OF 'swagelaw20.PolyReckons'. -/
def polyReckonsCard : Claim7 := { stood := { row := polyReckonsRow, standIns := [], harness := (true, "dfa07772d652bafbc641b9f8abe1860bf66ef2cdea76c25d67884ed4df0e5d8b"), looks := false }, kinds := [], alts := [], laidByText := true, laidKinds := [.data, .pinned], laidTests := true, laidLooks := .later }
def PolyReckonsCardSaid : Prop := Claim7.holds Tryd.pinned (.plain (OpenSpec.ofChange polyReckonsSpec)) polyReckonsCard

/-- THE TIED CARD OF 'swagelaw04.RowNames'. -/
def rowNamesCard : Claim7 := { stood := { row := rowNamesRow, standIns := [], harness := (true, "dfa07772d652bafbc641b9f8abe1860bf66ef2cdea76c25d67884ed4df0e5d8b"), looks := false }, kinds := [], alts := [], laidByText := true, laidKinds := [.data, .pinned], laidTests := true, laidLooks := .later }
def RowNamesCardSaid : Prop := Claim7.holds Tryd.pinned (.plain (OpenSpec.ofChange rowNamesSpec)) rowNamesCard

/-- THE TIED CARD OF 'swagelaw20.PolyValues'. -/
def polyValuesCard : Claim7 := { stood := { row := polyValuesRow, standIns := [], harness := (true, "dfa07772d652bafbc641b9f8abe1860bf66ef2cdea76c25d67884ed4df0e5d8b"), looks := false }, kinds := [], alts := [], laidByText := true, laidKinds := [.data, .pinned], laidTests := true, laidLooks := .later }
def PolyValuesCardSaid : Prop := Claim7.holds Tryd.pinned (.plain (OpenSpec.ofChange polyValuesSpec)) polyValuesCard

/-- THE TIED CARD OF 'swagelaw04.RowTexts'. -/
def rowTextsCard : Claim7 := { stood := { row := rowTextsRow, standIns := [], harness := (true, "dfa07772d652bafbc641b9f8abe1860bf66ef2cdea76c25d67884ed4df0e5d8b"), looks := false }, kinds := [], alts := [], laidByText := true, laidKinds := [.data, .pinned], laidTests := true, laidLooks := .later }
def RowTextsCardSaid : Prop := Claim7.holds Tryd.pinned (.plain (OpenSpec.ofChange rowTextsSpec)) rowTextsCard

/-- THE TIED CARD OF 'swagelaw04.RowReads'. -/
def rowReadsCard : Claim7 := { stood := { row := rowReadsRow, standIns := [], harness := (true, "dfa07772d652bafbc641b9f8abe1860bf66ef2cdea76c25d67884ed4df0e5d8b"), looks := false }, kinds := [], alts := [], laidByText := true, laidKinds := [.data, .pinned], laidTests := true, laidLooks := .later }
def RowReadsCardSaid : Prop := Claim7.holds Tryd.pinned (.plain (OpenSpec.ofChange rowReadsSpec)) rowReadsCard

/-- THE TIED CARD OF 'swagelaw20.PolyTexts'. -/
def polyTextsCard : Claim7 := { stood := { row := polyTextsRow, standIns := [], harness := (true, "dfa07772d652bafbc641b9f8abe1860bf66ef2cdea76c25d67884ed4df0e5d8b"), looks := false }, kinds := [], alts := [], laidByText := true, laidKinds := [.data, .pinned], laidTests := true, laidLooks := .later }
def PolyTextsCardSaid : Prop := Claim7.holds Tryd.pinned (.plain (OpenSpec.ofChange polyTextsSpec)) polyTextsCard

/-- THE TIED CARD OF 'swagelaw20.PolyBack'. -/
def polyBackCard : Claim7 := { stood := { row := polyBackRow, standIns := [], harness := (true, "dfa07772d652bafbc641b9f8abe1860bf66ef2cdea76c25d67884ed4df0e5d8b"), looks := false }, kinds := [], alts := [], laidByText := true, laidKinds := [.data, .pinned], laidTests := true, laidLooks := .later }
def PolyBackCardSaid : Prop := Claim7.holds Tryd.pinned (.plain (OpenSpec.ofChange polyBackSpec)) polyBackCard

/-- THE TIED CARD OF 'swagelaw03.RatioField'. -/
def ratioFieldCard : Claim7 := { stood := { row := ratioFieldRow, standIns := [], harness := (true, "dfa07772d652bafbc641b9f8abe1860bf66ef2cdea76c25d67884ed4df0e5d8b"), looks := false }, kinds := [], alts := [], laidByText := true, laidKinds := [.data, .pinned], laidTests := true, laidLooks := .later }
def RatioFieldCardSaid : Prop := Claim7.holds Tryd.pinned (.plain (OpenSpec.ofChange ratioFieldSpec)) ratioFieldCard

/-- THE TIED CARD OF 'swagelaw03.RatioOrder'. -/
def ratioOrderCard : Claim7 := { stood := { row := ratioOrderRow, standIns := [], harness := (true, "dfa07772d652bafbc641b9f8abe1860bf66ef2cdea76c25d67884ed4df0e5d8b"), looks := false }, kinds := [], alts := [], laidByText := true, laidKinds := [.data, .pinned], laidTests := true, laidLooks := .later }
def RatioOrderCardSaid : Prop := Claim7.holds Tryd.pinned (.plain (OpenSpec.ofChange ratioOrderSpec)) ratioOrderCard

/-- THE TIED CARD OF 'swagelaw03.RatioMany'. -/
def ratioManyCard : Claim7 := { stood := { row := ratioManyRow, standIns := [], harness := (true, "dfa07772d652bafbc641b9f8abe1860bf66ef2cdea76c25d67884ed4df0e5d8b"), looks := false }, kinds := [], alts := [], laidByText := true, laidKinds := [.data, .pinned], laidTests := true, laidLooks := .later }
def RatioManyCardSaid : Prop := Claim7.holds Tryd.pinned (.plain (OpenSpec.ofChange ratioManySpec)) ratioManyCard

/-- THE TIED CARD OF 'swagelaw20.PolyKnown'. -/
def polyKnownCard : Claim7 := { stood := { row := polyKnownRow, standIns := [], harness := (true, "dfa07772d652bafbc641b9f8abe1860bf66ef2cdea76c25d67884ed4df0e5d8b"), looks := false }, kinds := [], alts := [], laidByText := true, laidKinds := [.data, .pinned], laidTests := true, laidLooks := .later }
def PolyKnownCardSaid : Prop := Claim7.holds Tryd.pinned (.plain (OpenSpec.ofChange polyKnownSpec)) polyKnownCard

/-- THE TIED CARD OF 'swagelaw04.RowDivides'. -/
def rowDividesCard : Claim7 := { stood := { row := rowDividesRow, standIns := [], harness := (true, "dfa07772d652bafbc641b9f8abe1860bf66ef2cdea76c25d67884ed4df0e5d8b"), looks := false }, kinds := [], alts := [], laidByText := true, laidKinds := [.data, .pinned], laidTests := true, laidLooks := .later }
def RowDividesCardSaid : Prop := Claim7.holds Tryd.pinned (.plain (OpenSpec.ofChange rowDividesSpec)) rowDividesCard

/-- THE TIED CARD OF 'swagelaw04.RowModule'. -/
def rowModuleCard : Claim7 := { stood := { row := rowModuleRow, standIns := [], harness := (true, "dfa07772d652bafbc641b9f8abe1860bf66ef2cdea76c25d67884ed4df0e5d8b"), looks := false }, kinds := [], alts := [], laidByText := true, laidKinds := [.data, .pinned], laidTests := true, laidLooks := .later }
def RowModuleCardSaid : Prop := Claim7.holds Tryd.pinned (.plain (OpenSpec.ofChange rowModuleSpec)) rowModuleCard

/-- THE TIED CARD OF 'swagelaw03.RatioBack'. -/
def ratioBackCard : Claim7 := { stood := { row := ratioBackRow, standIns := [], harness := (true, "dfa07772d652bafbc641b9f8abe1860bf66ef2cdea76c25d67884ed4df0e5d8b"), looks := false }, kinds := [], alts := [], laidByText := true, laidKinds := [.data, .pinned], laidTests := true, laidLooks := .later }
def RatioBackCardSaid : Prop := Claim7.holds Tryd.pinned (.plain (OpenSpec.ofChange ratioBackSpec)) ratioBackCard

/-- THE TIED CARD OF 'swagelaw03.RatioKnown'. -/
def ratioKnownCard : Claim7 := { stood := { row := ratioKnownRow, standIns := [], harness := (true, "dfa07772d652bafbc641b9f8abe1860bf66ef2cdea76c25d67884ed4df0e5d8b"), looks := false }, kinds := [], alts := [], laidByText := true, laidKinds := [.data, .pinned], laidTests := true, laidLooks := .later }
def RatioKnownCardSaid : Prop := Claim7.holds Tryd.pinned (.plain (OpenSpec.ofChange ratioKnownSpec)) ratioKnownCard

/-- THE SECOND FORM's CARD OF 'swagelaw20.PolyAts'. -/
def polyAtsUptoCard : Claim7 := { stood := { row := polyAtsUptoRow, standIns := [], harness := (true, "dfa07772d652bafbc641b9f8abe1860bf66ef2cdea76c25d67884ed4df0e5d8b"), looks := false }, kinds := [], alts := [], laidByText := true, laidKinds := [.data, .pinned], laidTests := true, laidLooks := .later }
def PolyAtsUptoCardSaid : Prop := Claim7.holds Tryd.pinned (.plain (OpenSpec.upto polyAtsSpec)) polyAtsUptoCard

/-- THE SECOND FORM's CARD OF 'swagelaw04.RowSums'. -/
def rowSumsUptoCard : Claim7 := { stood := { row := rowSumsUptoRow, standIns := [], harness := (true, "dfa07772d652bafbc641b9f8abe1860bf66ef2cdea76c25d67884ed4df0e5d8b"), looks := false }, kinds := [], alts := [], laidByText := true, laidKinds := [.data, .pinned], laidTests := true, laidLooks := .later }
def RowSumsUptoCardSaid : Prop := Claim7.holds Tryd.pinned (.plain (OpenSpec.upto rowSumsSpec)) rowSumsUptoCard

/-- THE SECOND FORM's CARD OF 'swagelaw04.RowMakes'. -/
def rowMakesUptoCard : Claim7 := { stood := { row := rowMakesUptoRow, standIns := [], harness := (true, "dfa07772d652bafbc641b9f8abe1860bf66ef2cdea76c25d67884ed4df0e5d8b"), looks := false }, kinds := [], alts := [], laidByText := true, laidKinds := [.data, .pinned], laidTests := true, laidLooks := .later }
def RowMakesUptoCardSaid : Prop := Claim7.holds Tryd.pinned (.plain (OpenSpec.upto rowMakesSpec)) rowMakesUptoCard

/-- THE SECOND FORM's CARD OF 'swagelaw04.RowHolds'. -/
def rowHoldsUptoCard : Claim7 := { stood := { row := rowHoldsUptoRow, standIns := [], harness := (true, "dfa07772d652bafbc641b9f8abe1860bf66ef2cdea76c25d67884ed4df0e5d8b"), looks := false }, kinds := [], alts := [], laidByText := true, laidKinds := [.data, .pinned], laidTests := true, laidLooks := .later }
def RowHoldsUptoCardSaid : Prop := Claim7.holds Tryd.pinned (.plain (OpenSpec.upto rowHoldsSpec)) rowHoldsUptoCard

/-- THE SECOND FORM's CARD OF 'swagelaw20.PolyRing'. -/
def polyRingUptoCard : Claim7 := { stood := { row := polyRingUptoRow, standIns := [], harness := (true, "dfa07772d652bafbc641b9f8abe1860bf66ef2cdea76c25d67884ed4df0e5d8b"), looks := false }, kinds := [], alts := [], laidByText := true, laidKinds := [.data, .pinned], laidTests := true, laidLooks := .later }
def PolyRingUptoCardSaid : Prop := Claim7.holds Tryd.pinned (.plain (OpenSpec.upto polyRingSpec)) polyRingUptoCard

/-- THE SECOND FORM's CARD OF 'swagelaw20.PolyReckons'. -/
def polyReckonsUptoCard : Claim7 := { stood := { row := polyReckonsUptoRow, standIns := [], harness := (true, "dfa07772d652bafbc641b9f8abe1860bf66ef2cdea76c25d67884ed4df0e5d8b"), looks := false }, kinds := [], alts := [], laidByText := true, laidKinds := [.data, .pinned], laidTests := true, laidLooks := .later }
def PolyReckonsUptoCardSaid : Prop := Claim7.holds Tryd.pinned (.plain (OpenSpec.upto polyReckonsSpec)) polyReckonsUptoCard

/-- THE SECOND FORM's CARD OF 'swagelaw04.RowNames'. -/
def rowNamesUptoCard : Claim7 := { stood := { row := rowNamesUptoRow, standIns := [], harness := (true, "dfa07772d652bafbc641b9f8abe1860bf66ef2cdea76c25d67884ed4df0e5d8b"), looks := false }, kinds := [], alts := [], laidByText := true, laidKinds := [.data, .pinned], laidTests := true, laidLooks := .later }
def RowNamesUptoCardSaid : Prop := Claim7.holds Tryd.pinned (.plain (OpenSpec.upto rowNamesSpec)) rowNamesUptoCard

/-- THE SECOND FORM's CARD OF 'swagelaw20.PolyValues'. -/
def polyValuesUptoCard : Claim7 := { stood := { row := polyValuesUptoRow, standIns := [], harness := (true, "dfa07772d652bafbc641b9f8abe1860bf66ef2cdea76c25d67884ed4df0e5d8b"), looks := false }, kinds := [], alts := [], laidByText := true, laidKinds := [.data, .pinned], laidTests := true, laidLooks := .later }
def PolyValuesUptoCardSaid : Prop := Claim7.holds Tryd.pinned (.plain (OpenSpec.upto polyValuesSpec)) polyValuesUptoCard

/-- THE SECOND FORM's CARD OF 'swagelaw04.RowTexts'. -/
def rowTextsUptoCard : Claim7 := { stood := { row := rowTextsUptoRow, standIns := [], harness := (true, "dfa07772d652bafbc641b9f8abe1860bf66ef2cdea76c25d67884ed4df0e5d8b"), looks := false }, kinds := [], alts := [], laidByText := true, laidKinds := [.data, .pinned], laidTests := true, laidLooks := .later }
def RowTextsUptoCardSaid : Prop := Claim7.holds Tryd.pinned (.plain (OpenSpec.upto rowTextsSpec)) rowTextsUptoCard

/-- THE SECOND FORM's CARD OF 'swagelaw04.RowReads'. -/
def rowReadsUptoCard : Claim7 := { stood := { row := rowReadsUptoRow, standIns := [], harness := (true, "dfa07772d652bafbc641b9f8abe1860bf66ef2cdea76c25d67884ed4df0e5d8b"), looks := false }, kinds := [], alts := [], laidByText := true, laidKinds := [.data, .pinned], laidTests := true, laidLooks := .later }
def RowReadsUptoCardSaid : Prop := Claim7.holds Tryd.pinned (.plain (OpenSpec.upto rowReadsSpec)) rowReadsUptoCard

/-- THE SECOND FORM's CARD OF 'swagelaw20.PolyTexts'. -/
def polyTextsUptoCard : Claim7 := { stood := { row := polyTextsUptoRow, standIns := [], harness := (true, "dfa07772d652bafbc641b9f8abe1860bf66ef2cdea76c25d67884ed4df0e5d8b"), looks := false }, kinds := [], alts := [], laidByText := true, laidKinds := [.data, .pinned], laidTests := true, laidLooks := .later }
def PolyTextsUptoCardSaid : Prop := Claim7.holds Tryd.pinned (.plain (OpenSpec.upto polyTextsSpec)) polyTextsUptoCard

/-- THE SECOND FORM's CARD OF 'swagelaw20.PolyBack'. -/
def polyBackUptoCard : Claim7 := { stood := { row := polyBackUptoRow, standIns := [], harness := (true, "dfa07772d652bafbc641b9f8abe1860bf66ef2cdea76c25d67884ed4df0e5d8b"), looks := false }, kinds := [], alts := [], laidByText := true, laidKinds := [.data, .pinned], laidTests := true, laidLooks := .later }
def PolyBackUptoCardSaid : Prop := Claim7.holds Tryd.pinned (.plain (OpenSpec.upto polyBackSpec)) polyBackUptoCard

/-- THE SECOND FORM's CARD OF 'swagelaw03.RatioField'. -/
def ratioFieldUptoCard : Claim7 := { stood := { row := ratioFieldUptoRow, standIns := [], harness := (true, "dfa07772d652bafbc641b9f8abe1860bf66ef2cdea76c25d67884ed4df0e5d8b"), looks := false }, kinds := [], alts := [], laidByText := true, laidKinds := [.data, .pinned], laidTests := true, laidLooks := .later }
def RatioFieldUptoCardSaid : Prop := Claim7.holds Tryd.pinned (.plain (OpenSpec.upto ratioFieldSpec)) ratioFieldUptoCard

/-- THE SECOND FORM's CARD OF 'swagelaw03.RatioOrder'. -/
def ratioOrderUptoCard : Claim7 := { stood := { row := ratioOrderUptoRow, standIns := [], harness := (true, "dfa07772d652bafbc641b9f8abe1860bf66ef2cdea76c25d67884ed4df0e5d8b"), looks := false }, kinds := [], alts := [], laidByText := true, laidKinds := [.data, .pinned], laidTests := true, laidLooks := .later }
def RatioOrderUptoCardSaid : Prop := Claim7.holds Tryd.pinned (.plain (OpenSpec.upto ratioOrderSpec)) ratioOrderUptoCard

/-- THE SECOND FORM's CARD OF 'swagelaw03.RatioMany'. -/
def ratioManyUptoCard : Claim7 := { stood := { row := ratioManyUptoRow, standIns := [], harness := (true, "dfa07772d652bafbc641b9f8abe1860bf66ef2cdea76c25d67884ed4df0e5d8b"), looks := false }, kinds := [], alts := [], laidByText := true, laidKinds := [.data, .pinned], laidTests := true, laidLooks := .later }
def RatioManyUptoCardSaid : Prop := Claim7.holds Tryd.pinned (.plain (OpenSpec.upto ratioManySpec)) ratioManyUptoCard

/-- THE SECOND FORM's CARD OF 'swagelaw20.PolyKnown'. -/
def polyKnownUptoCard : Claim7 := { stood := { row := polyKnownUptoRow, standIns := [], harness := (true, "dfa07772d652bafbc641b9f8abe1860bf66ef2cdea76c25d67884ed4df0e5d8b"), looks := false }, kinds := [], alts := [], laidByText := true, laidKinds := [.data, .pinned], laidTests := true, laidLooks := .later }
def PolyKnownUptoCardSaid : Prop := Claim7.holds Tryd.pinned (.plain (OpenSpec.upto polyKnownSpec)) polyKnownUptoCard

/-- THE SECOND FORM's CARD OF 'swagelaw04.RowDivides'. -/
def rowDividesUptoCard : Claim7 := { stood := { row := rowDividesUptoRow, standIns := [], harness := (true, "dfa07772d652bafbc641b9f8abe1860bf66ef2cdea76c25d67884ed4df0e5d8b"), looks := false }, kinds := [], alts := [], laidByText := true, laidKinds := [.data, .pinned], laidTests := true, laidLooks := .later }
def RowDividesUptoCardSaid : Prop := Claim7.holds Tryd.pinned (.plain (OpenSpec.upto rowDividesSpec)) rowDividesUptoCard

/-- THE SECOND FORM's CARD OF 'swagelaw04.RowModule'. -/
def rowModuleUptoCard : Claim7 := { stood := { row := rowModuleUptoRow, standIns := [], harness := (true, "dfa07772d652bafbc641b9f8abe1860bf66ef2cdea76c25d67884ed4df0e5d8b"), looks := false }, kinds := [], alts := [], laidByText := true, laidKinds := [.data, .pinned], laidTests := true, laidLooks := .later }
def RowModuleUptoCardSaid : Prop := Claim7.holds Tryd.pinned (.plain (OpenSpec.upto rowModuleSpec)) rowModuleUptoCard

/-- THE SECOND FORM's CARD OF 'swagelaw03.RatioBack'. -/
def ratioBackUptoCard : Claim7 := { stood := { row := ratioBackUptoRow, standIns := [], harness := (true, "dfa07772d652bafbc641b9f8abe1860bf66ef2cdea76c25d67884ed4df0e5d8b"), looks := false }, kinds := [], alts := [], laidByText := true, laidKinds := [.data, .pinned], laidTests := true, laidLooks := .later }
def RatioBackUptoCardSaid : Prop := Claim7.holds Tryd.pinned (.plain (OpenSpec.upto ratioBackSpec)) ratioBackUptoCard

/-- THE SECOND FORM's CARD OF 'swagelaw03.RatioKnown'. -/
def ratioKnownUptoCard : Claim7 := { stood := { row := ratioKnownUptoRow, standIns := [], harness := (true, "dfa07772d652bafbc641b9f8abe1860bf66ef2cdea76c25d67884ed4df0e5d8b"), looks := false }, kinds := [], alts := [], laidByText := true, laidKinds := [.data, .pinned], laidTests := true, laidLooks := .later }
def RatioKnownUptoCardSaid : Prop := Claim7.holds Tryd.pinned (.plain (OpenSpec.upto ratioKnownSpec)) ratioKnownUptoCard
end Rows
end Go.Proofs.YtanchgkiomfhhaaDoor
