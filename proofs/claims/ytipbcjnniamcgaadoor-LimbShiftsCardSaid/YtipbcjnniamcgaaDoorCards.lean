/-
  DERIVED. GIVEN WITH THE SEED: THE CARDS: each row of YtipbcjnniamcgaaDoorRows.lean that lists a variable, with what it lists TIED to the program's text (the seventh form; the later family's looks); each row that meets fmt, with fmt's text TOLD by the authors' own Lean function (tested against real Go, not proved from fmt's source: count such statements apart). THE CARD IS WHAT COUNTS. Prove the row's statement (the work); the ties are given (YtipbcjnniamcgaaDoorTie.lean); close each card by the builder's one call (the guide's Derived/Test/ToyasCard.lean, 'card_holds'). Laid BY PROGRAM, IN A SANDBOX (cutbox-door.mjs). By AI agents, Wed Nov 11 2026. No macro, syntax, notation, axiom, sorry.
-/
import Derived.Test.YtipbcjnniamcgaaDoorRows
import GoSem.ClaimSeven
namespace Go.Proofs.YtipbcjnniamcgaaDoor
namespace Rows

/-- THE TIED CARD OF 'swagelaw02.IntegerTwos'. -/
def integerTwosCard : Claim7 := { stood := { row := integerTwosRow, standIns := [], harness := (true, "eb4cba81ed560e7dc9fcdccadaf47e183f7b44e7f952baa4ee2a7b5a46a0adf8"), looks := false }, kinds := [], alts := [], laidByText := true, laidKinds := [.data], laidTests := true, laidLooks := .later }
def IntegerTwosCardSaid : Prop := Claim7.holds Tryd.pinned (.plain (OpenSpec.ofChange integerTwosSpec)) integerTwosCard

/-- THE TIED CARD OF 'swagelaw01.LimbWhole'. -/
def limbWholeCard : Claim7 := { stood := { row := limbWholeRow, standIns := [], harness := (true, "eb4cba81ed560e7dc9fcdccadaf47e183f7b44e7f952baa4ee2a7b5a46a0adf8"), looks := false }, kinds := [], alts := [], laidByText := true, laidKinds := [.data, .pinned], laidTests := true, laidLooks := .later }
def LimbWholeCardSaid : Prop := Claim7.holds Tryd.pinned (.plain (OpenSpec.ofChange limbWholeSpec)) limbWholeCard

/-- THE TIED CARD OF 'swagelaw02.IntegerTexts'. -/
def integerTextsCard : Claim7 := { stood := { row := integerTextsRow, standIns := [], harness := (true, "eb4cba81ed560e7dc9fcdccadaf47e183f7b44e7f952baa4ee2a7b5a46a0adf8"), looks := false }, kinds := [], alts := [], laidByText := true, laidKinds := [.data, .pinned], laidTests := true, laidLooks := .later }
def IntegerTextsCardSaid : Prop := Claim7.holds Tryd.pinned (.plain (OpenSpec.ofChange integerTextsSpec)) integerTextsCard

/-- THE TIED CARD OF 'swagelaw01.LimbDivisor'. -/
def limbDivisorCard : Claim7 := { stood := { row := limbDivisorRow, standIns := [], harness := (true, "eb4cba81ed560e7dc9fcdccadaf47e183f7b44e7f952baa4ee2a7b5a46a0adf8"), looks := false }, kinds := [], alts := [], laidByText := true, laidKinds := [.data, .pinned], laidTests := true, laidLooks := .later }
def LimbDivisorCardSaid : Prop := Claim7.holds Tryd.pinned (.plain (OpenSpec.ofChange limbDivisorSpec)) limbDivisorCard

/-- THE TIED CARD OF 'swagelaw02.IntegerReads'. -/
def integerReadsCard : Claim7 := { stood := { row := integerReadsRow, standIns := [], harness := (true, "eb4cba81ed560e7dc9fcdccadaf47e183f7b44e7f952baa4ee2a7b5a46a0adf8"), looks := false }, kinds := [], alts := [], laidByText := true, laidKinds := [.data, .pinned], laidTests := true, laidLooks := .later }
def IntegerReadsCardSaid : Prop := Claim7.holds Tryd.pinned (.plain (OpenSpec.ofChange integerReadsSpec)) integerReadsCard

/-- THE TIED CARD OF 'swagelaw01.LimbGcds'. -/
def limbGcdsCard : Claim7 := { stood := { row := limbGcdsRow, standIns := [], harness := (true, "eb4cba81ed560e7dc9fcdccadaf47e183f7b44e7f952baa4ee2a7b5a46a0adf8"), looks := false }, kinds := [], alts := [], laidByText := true, laidKinds := [.data, .pinned], laidTests := true, laidLooks := .later }
def LimbGcdsCardSaid : Prop := Claim7.holds Tryd.pinned (.plain (OpenSpec.ofChange limbGcdsSpec)) limbGcdsCard

/-- THE TIED CARD OF 'swagelaw01.LimbRing'. -/
def limbRingCard : Claim7 := { stood := { row := limbRingRow, standIns := [], harness := (true, "eb4cba81ed560e7dc9fcdccadaf47e183f7b44e7f952baa4ee2a7b5a46a0adf8"), looks := false }, kinds := [], alts := [], laidByText := true, laidKinds := [.data, .pinned], laidTests := true, laidLooks := .later }
def LimbRingCardSaid : Prop := Claim7.holds Tryd.pinned (.plain (OpenSpec.ofChange limbRingSpec)) limbRingCard

/-- THE TIED CARD OF 'swagelaw01.LimbDivides'. -/
def limbDividesCard : Claim7 := { stood := { row := limbDividesRow, standIns := [], harness := (true, "eb4cba81ed560e7dc9fcdccadaf47e183f7b44e7f952baa4ee2a7b5a46a0adf8"), looks := false }, kinds := [], alts := [], laidByText := true, laidKinds := [.data, .pinned], laidTests := true, laidLooks := .later }
def LimbDividesCardSaid : Prop := Claim7.holds Tryd.pinned (.plain (OpenSpec.ofChange limbDividesSpec)) limbDividesCard

/-- THE TIED CARD OF 'swagelaw01.LimbProducts'. -/
def limbProductsCard : Claim7 := { stood := { row := limbProductsRow, standIns := [], harness := (true, "eb4cba81ed560e7dc9fcdccadaf47e183f7b44e7f952baa4ee2a7b5a46a0adf8"), looks := false }, kinds := [], alts := [], laidByText := true, laidKinds := [.data, .pinned], laidTests := true, laidLooks := .later }
def LimbProductsCardSaid : Prop := Claim7.holds Tryd.pinned (.plain (OpenSpec.ofChange limbProductsSpec)) limbProductsCard

/-- THE TIED CARD OF 'swagelaw01.LimbSums'. -/
def limbSumsCard : Claim7 := { stood := { row := limbSumsRow, standIns := [], harness := (true, "eb4cba81ed560e7dc9fcdccadaf47e183f7b44e7f952baa4ee2a7b5a46a0adf8"), looks := false }, kinds := [], alts := [], laidByText := true, laidKinds := [.data, .pinned], laidTests := true, laidLooks := .later }
def LimbSumsCardSaid : Prop := Claim7.holds Tryd.pinned (.plain (OpenSpec.ofChange limbSumsSpec)) limbSumsCard

/-- THE TIED CARD OF 'swagelaw01.LimbShifts'. -/
def limbShiftsCard : Claim7 := { stood := { row := limbShiftsRow, standIns := [], harness := (true, "eb4cba81ed560e7dc9fcdccadaf47e183f7b44e7f952baa4ee2a7b5a46a0adf8"), looks := false }, kinds := [], alts := [], laidByText := true, laidKinds := [.data, .data, .pinned], laidTests := true, laidLooks := .later }
def LimbShiftsCardSaid : Prop := Claim7.holds Tryd.pinned (.plain (OpenSpec.ofChange limbShiftsSpec)) limbShiftsCard

/-- THE TIED CARD OF 'swagelaw01.LimbBack'. -/
def limbBackCard : Claim7 := { stood := { row := limbBackRow, standIns := [], harness := (true, "eb4cba81ed560e7dc9fcdccadaf47e183f7b44e7f952baa4ee2a7b5a46a0adf8"), looks := false }, kinds := [], alts := [], laidByText := true, laidKinds := [.data, .data, .pinned], laidTests := true, laidLooks := .later }
def LimbBackCardSaid : Prop := Claim7.holds Tryd.pinned (.plain (OpenSpec.ofChange limbBackSpec)) limbBackCard

/-- THE TIED CARD OF 'swagelaw01.LimbTexts'. -/
def limbTextsCard : Claim7 := { stood := { row := limbTextsRow, standIns := [], harness := (true, "eb4cba81ed560e7dc9fcdccadaf47e183f7b44e7f952baa4ee2a7b5a46a0adf8"), looks := false }, kinds := [], alts := [], laidByText := true, laidKinds := [.data, .pinned], laidTests := true, laidLooks := .later }
def LimbTextsCardSaid : Prop := Claim7.holds Tryd.pinned (.plain (OpenSpec.ofChange limbTextsSpec)) limbTextsCard

/-- THE TIED CARD OF 'swagelaw01.LimbKnown'. -/
def limbKnownCard : Claim7 := { stood := { row := limbKnownRow, standIns := [], harness := (true, "eb4cba81ed560e7dc9fcdccadaf47e183f7b44e7f952baa4ee2a7b5a46a0adf8"), looks := false }, kinds := [], alts := [], laidByText := true, laidKinds := [.data, .data, .pinned], laidTests := true, laidLooks := .later }
def LimbKnownCardSaid : Prop := Claim7.holds Tryd.pinned (.plain (OpenSpec.ofChange limbKnownSpec)) limbKnownCard

/-- THE TIED CARD OF 'swagelaw02.IntegerNames'. -/
def integerNamesCard : Claim7 := { stood := { row := integerNamesRow, standIns := [], harness := (true, "eb4cba81ed560e7dc9fcdccadaf47e183f7b44e7f952baa4ee2a7b5a46a0adf8"), looks := false }, kinds := [], alts := [], laidByText := true, laidKinds := [.data, .data, .pinned], laidTests := true, laidLooks := .later }
def IntegerNamesCardSaid : Prop := Claim7.holds Tryd.pinned (.plain (OpenSpec.ofChange integerNamesSpec)) integerNamesCard

/-- THE SECOND FORM's CARD OF 'swagelaw02.IntegerTwos'. -/
def integerTwosUptoCard : Claim7 := { stood := { row := integerTwosUptoRow, standIns := [], harness := (true, "eb4cba81ed560e7dc9fcdccadaf47e183f7b44e7f952baa4ee2a7b5a46a0adf8"), looks := false }, kinds := [], alts := [], laidByText := true, laidKinds := [.data], laidTests := true, laidLooks := .later }
def IntegerTwosUptoCardSaid : Prop := Claim7.holds Tryd.pinned (.plain (OpenSpec.upto integerTwosSpec)) integerTwosUptoCard

/-- THE SECOND FORM's CARD OF 'swagelaw01.LimbWhole'. -/
def limbWholeUptoCard : Claim7 := { stood := { row := limbWholeUptoRow, standIns := [], harness := (true, "eb4cba81ed560e7dc9fcdccadaf47e183f7b44e7f952baa4ee2a7b5a46a0adf8"), looks := false }, kinds := [], alts := [], laidByText := true, laidKinds := [.data, .pinned], laidTests := true, laidLooks := .later }
def LimbWholeUptoCardSaid : Prop := Claim7.holds Tryd.pinned (.plain (OpenSpec.upto limbWholeSpec)) limbWholeUptoCard

/-- THE SECOND FORM's CARD OF 'swagelaw02.IntegerTexts'. -/
def integerTextsUptoCard : Claim7 := { stood := { row := integerTextsUptoRow, standIns := [], harness := (true, "eb4cba81ed560e7dc9fcdccadaf47e183f7b44e7f952baa4ee2a7b5a46a0adf8"), looks := false }, kinds := [], alts := [], laidByText := true, laidKinds := [.data, .pinned], laidTests := true, laidLooks := .later }
def IntegerTextsUptoCardSaid : Prop := Claim7.holds Tryd.pinned (.plain (OpenSpec.upto integerTextsSpec)) integerTextsUptoCard

/-- THE SECOND FORM's CARD OF 'swagelaw01.LimbDivisor'. -/
def limbDivisorUptoCard : Claim7 := { stood := { row := limbDivisorUptoRow, standIns := [], harness := (true, "eb4cba81ed560e7dc9fcdccadaf47e183f7b44e7f952baa4ee2a7b5a46a0adf8"), looks := false }, kinds := [], alts := [], laidByText := true, laidKinds := [.data, .pinned], laidTests := true, laidLooks := .later }
def LimbDivisorUptoCardSaid : Prop := Claim7.holds Tryd.pinned (.plain (OpenSpec.upto limbDivisorSpec)) limbDivisorUptoCard

/-- THE SECOND FORM's CARD OF 'swagelaw02.IntegerReads'. -/
def integerReadsUptoCard : Claim7 := { stood := { row := integerReadsUptoRow, standIns := [], harness := (true, "eb4cba81ed560e7dc9fcdccadaf47e183f7b44e7f952baa4ee2a7b5a46a0adf8"), looks := false }, kinds := [], alts := [], laidByText := true, laidKinds := [.data, .pinned], laidTests := true, laidLooks := .later }
def IntegerReadsUptoCardSaid : Prop := Claim7.holds Tryd.pinned (.plain (OpenSpec.upto integerReadsSpec)) integerReadsUptoCard

/-- THE SECOND FORM's CARD OF 'swagelaw01.LimbGcds'. -/
def limbGcdsUptoCard : Claim7 := { stood := { row := limbGcdsUptoRow, standIns := [], harness := (true, "eb4cba81ed560e7dc9fcdccadaf47e183f7b44e7f952baa4ee2a7b5a46a0adf8"), looks := false }, kinds := [], alts := [], laidByText := true, laidKinds := [.data, .pinned], laidTests := true, laidLooks := .later }
def LimbGcdsUptoCardSaid : Prop := Claim7.holds Tryd.pinned (.plain (OpenSpec.upto limbGcdsSpec)) limbGcdsUptoCard

/-- THE SECOND FORM's CARD OF 'swagelaw01.LimbRing'. -/
def limbRingUptoCard : Claim7 := { stood := { row := limbRingUptoRow, standIns := [], harness := (true, "eb4cba81ed560e7dc9fcdccadaf47e183f7b44e7f952baa4ee2a7b5a46a0adf8"), looks := false }, kinds := [], alts := [], laidByText := true, laidKinds := [.data, .pinned], laidTests := true, laidLooks := .later }
def LimbRingUptoCardSaid : Prop := Claim7.holds Tryd.pinned (.plain (OpenSpec.upto limbRingSpec)) limbRingUptoCard

/-- THE SECOND FORM's CARD OF 'swagelaw01.LimbDivides'. -/
def limbDividesUptoCard : Claim7 := { stood := { row := limbDividesUptoRow, standIns := [], harness := (true, "eb4cba81ed560e7dc9fcdccadaf47e183f7b44e7f952baa4ee2a7b5a46a0adf8"), looks := false }, kinds := [], alts := [], laidByText := true, laidKinds := [.data, .pinned], laidTests := true, laidLooks := .later }
def LimbDividesUptoCardSaid : Prop := Claim7.holds Tryd.pinned (.plain (OpenSpec.upto limbDividesSpec)) limbDividesUptoCard

/-- THE SECOND FORM's CARD OF 'swagelaw01.LimbProducts'. -/
def limbProductsUptoCard : Claim7 := { stood := { row := limbProductsUptoRow, standIns := [], harness := (true, "eb4cba81ed560e7dc9fcdccadaf47e183f7b44e7f952baa4ee2a7b5a46a0adf8"), looks := false }, kinds := [], alts := [], laidByText := true, laidKinds := [.data, .pinned], laidTests := true, laidLooks := .later }
def LimbProductsUptoCardSaid : Prop := Claim7.holds Tryd.pinned (.plain (OpenSpec.upto limbProductsSpec)) limbProductsUptoCard

/-- THE SECOND FORM's CARD OF 'swagelaw01.LimbSums'. -/
def limbSumsUptoCard : Claim7 := { stood := { row := limbSumsUptoRow, standIns := [], harness := (true, "eb4cba81ed560e7dc9fcdccadaf47e183f7b44e7f952baa4ee2a7b5a46a0adf8"), looks := false }, kinds := [], alts := [], laidByText := true, laidKinds := [.data, .pinned], laidTests := true, laidLooks := .later }
def LimbSumsUptoCardSaid : Prop := Claim7.holds Tryd.pinned (.plain (OpenSpec.upto limbSumsSpec)) limbSumsUptoCard

/-- THE SECOND FORM's CARD OF 'swagelaw01.LimbShifts'. -/
def limbShiftsUptoCard : Claim7 := { stood := { row := limbShiftsUptoRow, standIns := [], harness := (true, "eb4cba81ed560e7dc9fcdccadaf47e183f7b44e7f952baa4ee2a7b5a46a0adf8"), looks := false }, kinds := [], alts := [], laidByText := true, laidKinds := [.data, .data, .pinned], laidTests := true, laidLooks := .later }
def LimbShiftsUptoCardSaid : Prop := Claim7.holds Tryd.pinned (.plain (OpenSpec.upto limbShiftsSpec)) limbShiftsUptoCard

/-- THE SECOND FORM's CARD OF 'swagelaw01.LimbBack'. -/
def limbBackUptoCard : Claim7 := { stood := { row := limbBackUptoRow, standIns := [], harness := (true, "eb4cba81ed560e7dc9fcdccadaf47e183f7b44e7f952baa4ee2a7b5a46a0adf8"), looks := false }, kinds := [], alts := [], laidByText := true, laidKinds := [.data, .data, .pinned], laidTests := true, laidLooks := .later }
def LimbBackUptoCardSaid : Prop := Claim7.holds Tryd.pinned (.plain (OpenSpec.upto limbBackSpec)) limbBackUptoCard

/-- THE SECOND FORM's CARD OF 'swagelaw01.LimbTexts'. -/
def limbTextsUptoCard : Claim7 := { stood := { row := limbTextsUptoRow, standIns := [], harness := (true, "eb4cba81ed560e7dc9fcdccadaf47e183f7b44e7f952baa4ee2a7b5a46a0adf8"), looks := false }, kinds := [], alts := [], laidByText := true, laidKinds := [.data, .pinned], laidTests := true, laidLooks := .later }
def LimbTextsUptoCardSaid : Prop := Claim7.holds Tryd.pinned (.plain (OpenSpec.upto limbTextsSpec)) limbTextsUptoCard

/-- THE SECOND FORM's CARD OF 'swagelaw01.LimbKnown'. -/
def limbKnownUptoCard : Claim7 := { stood := { row := limbKnownUptoRow, standIns := [], harness := (true, "eb4cba81ed560e7dc9fcdccadaf47e183f7b44e7f952baa4ee2a7b5a46a0adf8"), looks := false }, kinds := [], alts := [], laidByText := true, laidKinds := [.data, .data, .pinned], laidTests := true, laidLooks := .later }
def LimbKnownUptoCardSaid : Prop := Claim7.holds Tryd.pinned (.plain (OpenSpec.upto limbKnownSpec)) limbKnownUptoCard

/-- THE SECOND FORM's CARD OF 'swagelaw02.IntegerNames'. -/
def integerNamesUptoCard : Claim7 := { stood := { row := integerNamesUptoRow, standIns := [], harness := (true, "eb4cba81ed560e7dc9fcdccadaf47e183f7b44e7f952baa4ee2a7b5a46a0adf8"), looks := false }, kinds := [], alts := [], laidByText := true, laidKinds := [.data, .data, .pinned], laidTests := true, laidLooks := .later }
def IntegerNamesUptoCardSaid : Prop := Claim7.holds Tryd.pinned (.plain (OpenSpec.upto integerNamesSpec)) integerNamesUptoCard
end Rows
end Go.Proofs.YtipbcjnniamcgaaDoor
