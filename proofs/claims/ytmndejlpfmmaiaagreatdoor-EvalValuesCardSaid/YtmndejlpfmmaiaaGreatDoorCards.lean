/-
  DERIVED. GIVEN WITH THE SEED: THE CARDS: each row of YtmndejlpfmmaiaaGreatDoorRows.lean that lists a variable, with what it lists TIED to the program's text (the seventh form; the later family's looks); each row that meets fmt, with fmt's text TOLD by the authors' own Lean function (tested against real Go, not proved from fmt's source: count such statements apart). THE CARD IS WHAT COUNTS. Prove the row's statement (the work); the ties are given (YtmndejlpfmmaiaaGreatDoorTie.lean); close each card by the builder's one call (the guide's Derived/Test/ToyasCard.lean, 'card_holds'). Laid BY PROGRAM, IN A SANDBOX (cutbox-door.mjs). By AI agents, Wed Nov 11 2026. No macro, syntax, notation, axiom, sorry.
-/
import Derived.Test.YtmndejlpfmmaiaaGreatDoorRows
import GoSem.ClaimSeven
namespace Go.Proofs.YtmndejlpfmmaiaaGreatDoor
namespace Rows

/-- THE TIED CARD OF 'swagelaw10.ExactRuns'. -/
def exactRunsCard : Claim7 := { stood := { row := exactRunsRow, standIns := [], harness := (true, "4950f875492327df43f0447166dde8b885f539bb99db1cca21286856424633a8"), looks := false }, kinds := [], alts := [], laidByText := true, laidKinds := [.data, .pinned], laidTests := true, laidLooks := .later }
def ExactRunsCardSaid : Prop := Claim7.holds Tryz.pinned (.plain (OpenSpec.ofChange exactRunsSpec)) exactRunsCard

/-- THE TIED CARD OF 'swagelaw19.VmRuns'. -/
def vmRunsCard : Claim7 := { stood := { row := vmRunsRow, standIns := [], harness := (true, "4950f875492327df43f0447166dde8b885f539bb99db1cca21286856424633a8"), looks := false }, kinds := [], alts := [], laidByText := true, laidKinds := [.data, .data, .pinned], laidTests := true, laidLooks := .later }
def VmRunsCardSaid : Prop := Claim7.holds Tryz.pinned (.plain (OpenSpec.ofChange vmRunsSpec)) vmRunsCard

/-- THE TIED CARD OF 'swagelaw19.VmStepped'. -/
def vmSteppedCard : Claim7 := { stood := { row := vmSteppedRow, standIns := [], harness := (true, "4950f875492327df43f0447166dde8b885f539bb99db1cca21286856424633a8"), looks := false }, kinds := [], alts := [], laidByText := true, laidKinds := [.data, .data, .pinned], laidTests := true, laidLooks := .later }
def VmSteppedCardSaid : Prop := Claim7.holds Tryz.pinned (.plain (OpenSpec.ofChange vmSteppedSpec)) vmSteppedCard

/-- THE TIED CARD OF 'swagelaw19.VmPlays'. -/
def vmPlaysCard : Claim7 := { stood := { row := vmPlaysRow, standIns := [], harness := (true, "4950f875492327df43f0447166dde8b885f539bb99db1cca21286856424633a8"), looks := false }, kinds := [], alts := [], laidByText := true, laidKinds := [.data, .data, .pinned], laidTests := true, laidLooks := .later }
def VmPlaysCardSaid : Prop := Claim7.holds Tryz.pinned (.plain (OpenSpec.ofChange vmPlaysSpec)) vmPlaysCard

/-- THE TIED CARD OF 'swagelaw19.VmColumns'. -/
def vmColumnsCard : Claim7 := { stood := { row := vmColumnsRow, standIns := [], harness := (true, "4950f875492327df43f0447166dde8b885f539bb99db1cca21286856424633a8"), looks := false }, kinds := [], alts := [], laidByText := true, laidKinds := [.data, .data, .pinned], laidTests := true, laidLooks := .later }
def VmColumnsCardSaid : Prop := Claim7.holds Tryz.pinned (.plain (OpenSpec.ofChange vmColumnsSpec)) vmColumnsCard

/-- THE TIED CARD OF 'swagelaw10.ExactFollows'. -/
def exactFollowsCard : Claim7 := { stood := { row := exactFollowsRow, standIns := [], harness := (true, "4950f875492327df43f0447166dde8b885f539bb99db1cca21286856424633a8"), looks := false }, kinds := [], alts := [], laidByText := true, laidKinds := [.data, .pinned], laidTests := true, laidLooks := .later }
def ExactFollowsCardSaid : Prop := Claim7.holds Tryz.pinned (.plain (OpenSpec.ofChange exactFollowsSpec)) exactFollowsCard

/-- THE TIED CARD OF 'swagelaw10.ExactAll'. -/
def exactAllCard : Claim7 := { stood := { row := exactAllRow, standIns := [], harness := (true, "4950f875492327df43f0447166dde8b885f539bb99db1cca21286856424633a8"), looks := false }, kinds := [], alts := [], laidByText := true, laidKinds := [.data, .pinned], laidTests := true, laidLooks := .later }
def ExactAllCardSaid : Prop := Claim7.holds Tryz.pinned (.plain (OpenSpec.ofChange exactAllSpec)) exactAllCard

/-- THE TIED CARD OF 'swagelaw11.EvalPrograms'. -/
def evalProgramsCard : Claim7 := { stood := { row := evalProgramsRow, standIns := [], harness := (true, "4950f875492327df43f0447166dde8b885f539bb99db1cca21286856424633a8"), looks := false }, kinds := [], alts := [], laidByText := true, laidKinds := [.data, .data, .data, .pinned], laidTests := true, laidLooks := .later }
def EvalProgramsCardSaid : Prop := Claim7.holds Tryz.pinned (.plain (OpenSpec.ofChange evalProgramsSpec)) evalProgramsCard

/-- THE TIED CARD OF 'swagelaw11.EvalHolds'. -/
def evalHoldsCard : Claim7 := { stood := { row := evalHoldsRow, standIns := [], harness := (true, "4950f875492327df43f0447166dde8b885f539bb99db1cca21286856424633a8"), looks := false }, kinds := [], alts := [], laidByText := true, laidKinds := [.data, .data, .data, .pinned], laidTests := true, laidLooks := .later }
def EvalHoldsCardSaid : Prop := Claim7.holds Tryz.pinned (.plain (OpenSpec.ofChange evalHoldsSpec)) evalHoldsCard

/-- THE TIED CARD OF 'swagelaw11.EvalValues'. -/
def evalValuesCard : Claim7 := { stood := { row := evalValuesRow, standIns := [], harness := (true, "4950f875492327df43f0447166dde8b885f539bb99db1cca21286856424633a8"), looks := false }, kinds := [], alts := [], laidByText := true, laidKinds := [.data, .data, .data, .pinned], laidTests := true, laidLooks := .later }
def EvalValuesCardSaid : Prop := Claim7.holds Tryz.pinned (.plain (OpenSpec.ofChange evalValuesSpec)) evalValuesCard

/-- THE TIED CARD OF 'swagelaw11.EvalRuns'. -/
def evalRunsCard : Claim7 := { stood := { row := evalRunsRow, standIns := [], harness := (true, "4950f875492327df43f0447166dde8b885f539bb99db1cca21286856424633a8"), looks := false }, kinds := [], alts := [], laidByText := true, laidKinds := [.data, .data, .data, .pinned], laidTests := true, laidLooks := .later }
def EvalRunsCardSaid : Prop := Claim7.holds Tryz.pinned (.plain (OpenSpec.ofChange evalRunsSpec)) evalRunsCard

/-- THE SECOND FORM's CARD OF 'swagelaw10.ExactRuns'. -/
def exactRunsUptoCard : Claim7 := { stood := { row := exactRunsUptoRow, standIns := [], harness := (true, "4950f875492327df43f0447166dde8b885f539bb99db1cca21286856424633a8"), looks := false }, kinds := [], alts := [], laidByText := true, laidKinds := [.data, .pinned], laidTests := true, laidLooks := .later }
def ExactRunsUptoCardSaid : Prop := Claim7.holds Tryz.pinned (.plain (OpenSpec.upto exactRunsSpec)) exactRunsUptoCard

/-- THE SECOND FORM's CARD OF 'swagelaw19.VmRuns'. -/
def vmRunsUptoCard : Claim7 := { stood := { row := vmRunsUptoRow, standIns := [], harness := (true, "4950f875492327df43f0447166dde8b885f539bb99db1cca21286856424633a8"), looks := false }, kinds := [], alts := [], laidByText := true, laidKinds := [.data, .data, .pinned], laidTests := true, laidLooks := .later }
def VmRunsUptoCardSaid : Prop := Claim7.holds Tryz.pinned (.plain (OpenSpec.upto vmRunsSpec)) vmRunsUptoCard

/-- THE SECOND FORM's CARD OF 'swagelaw19.VmStepped'. -/
def vmSteppedUptoCard : Claim7 := { stood := { row := vmSteppedUptoRow, standIns := [], harness := (true, "4950f875492327df43f0447166dde8b885f539bb99db1cca21286856424633a8"), looks := false }, kinds := [], alts := [], laidByText := true, laidKinds := [.data, .data, .pinned], laidTests := true, laidLooks := .later }
def VmSteppedUptoCardSaid : Prop := Claim7.holds Tryz.pinned (.plain (OpenSpec.upto vmSteppedSpec)) vmSteppedUptoCard

/-- THE SECOND FORM's CARD OF 'swagelaw19.VmPlays'. -/
def vmPlaysUptoCard : Claim7 := { stood := { row := vmPlaysUptoRow, standIns := [], harness := (true, "4950f875492327df43f0447166dde8b885f539bb99db1cca21286856424633a8"), looks := false }, kinds := [], alts := [], laidByText := true, laidKinds := [.data, .data, .pinned], laidTests := true, laidLooks := .later }
def VmPlaysUptoCardSaid : Prop := Claim7.holds Tryz.pinned (.plain (OpenSpec.upto vmPlaysSpec)) vmPlaysUptoCard

/-- THE SECOND FORM's CARD OF 'swagelaw19.VmColumns'. -/
def vmColumnsUptoCard : Claim7 := { stood := { row := vmColumnsUptoRow, standIns := [], harness := (true, "4950f875492327df43f0447166dde8b885f539bb99db1cca21286856424633a8"), looks := false }, kinds := [], alts := [], laidByText := true, laidKinds := [.data, .data, .pinned], laidTests := true, laidLooks := .later }
def VmColumnsUptoCardSaid : Prop := Claim7.holds Tryz.pinned (.plain (OpenSpec.upto vmColumnsSpec)) vmColumnsUptoCard

/-- THE SECOND FORM's CARD OF 'swagelaw10.ExactFollows'. -/
def exactFollowsUptoCard : Claim7 := { stood := { row := exactFollowsUptoRow, standIns := [], harness := (true, "4950f875492327df43f0447166dde8b885f539bb99db1cca21286856424633a8"), looks := false }, kinds := [], alts := [], laidByText := true, laidKinds := [.data, .pinned], laidTests := true, laidLooks := .later }
def ExactFollowsUptoCardSaid : Prop := Claim7.holds Tryz.pinned (.plain (OpenSpec.upto exactFollowsSpec)) exactFollowsUptoCard

/-- THE SECOND FORM's CARD OF 'swagelaw10.ExactAll'. -/
def exactAllUptoCard : Claim7 := { stood := { row := exactAllUptoRow, standIns := [], harness := (true, "4950f875492327df43f0447166dde8b885f539bb99db1cca21286856424633a8"), looks := false }, kinds := [], alts := [], laidByText := true, laidKinds := [.data, .pinned], laidTests := true, laidLooks := .later }
def ExactAllUptoCardSaid : Prop := Claim7.holds Tryz.pinned (.plain (OpenSpec.upto exactAllSpec)) exactAllUptoCard

/-- THE SECOND FORM's CARD OF 'swagelaw11.EvalPrograms'. -/
def evalProgramsUptoCard : Claim7 := { stood := { row := evalProgramsUptoRow, standIns := [], harness := (true, "4950f875492327df43f0447166dde8b885f539bb99db1cca21286856424633a8"), looks := false }, kinds := [], alts := [], laidByText := true, laidKinds := [.data, .data, .data, .pinned], laidTests := true, laidLooks := .later }
def EvalProgramsUptoCardSaid : Prop := Claim7.holds Tryz.pinned (.plain (OpenSpec.upto evalProgramsSpec)) evalProgramsUptoCard

/-- THE SECOND FORM's CARD OF 'swagelaw11.EvalHolds'. -/
def evalHoldsUptoCard : Claim7 := { stood := { row := evalHoldsUptoRow, standIns := [], harness := (true, "4950f875492327df43f0447166dde8b885f539bb99db1cca21286856424633a8"), looks := false }, kinds := [], alts := [], laidByText := true, laidKinds := [.data, .data, .data, .pinned], laidTests := true, laidLooks := .later }
def EvalHoldsUptoCardSaid : Prop := Claim7.holds Tryz.pinned (.plain (OpenSpec.upto evalHoldsSpec)) evalHoldsUptoCard

/-- THE SECOND FORM's CARD OF 'swagelaw11.EvalValues'. -/
def evalValuesUptoCard : Claim7 := { stood := { row := evalValuesUptoRow, standIns := [], harness := (true, "4950f875492327df43f0447166dde8b885f539bb99db1cca21286856424633a8"), looks := false }, kinds := [], alts := [], laidByText := true, laidKinds := [.data, .data, .data, .pinned], laidTests := true, laidLooks := .later }
def EvalValuesUptoCardSaid : Prop := Claim7.holds Tryz.pinned (.plain (OpenSpec.upto evalValuesSpec)) evalValuesUptoCard

/-- THE SECOND FORM's CARD OF 'swagelaw11.EvalRuns'. -/
def evalRunsUptoCard : Claim7 := { stood := { row := evalRunsUptoRow, standIns := [], harness := (true, "4950f875492327df43f0447166dde8b885f539bb99db1cca21286856424633a8"), looks := false }, kinds := [], alts := [], laidByText := true, laidKinds := [.data, .data, .data, .pinned], laidTests := true, laidLooks := .later }
def EvalRunsUptoCardSaid : Prop := Claim7.holds Tryz.pinned (.plain (OpenSpec.upto evalRunsSpec)) evalRunsUptoCard
end Rows
end Go.Proofs.YtmndejlpfmmaiaaGreatDoor
