/-
  DERIVED. GIVEN WITH THE SEED: THE CARDS: each row of YtmndejlpfmmaiaaDoorRows.lean that lists a variable, with what it lists TIED to the program's text (the seventh form; the later family's looks); each row that meets fmt, with fmt's text TOLD by the authors' own Lean function (tested against real Go, not proved from fmt's source: count such statements apart). THE CARD IS WHAT COUNTS. Prove the row's statement (the work); the ties are given (YtmndejlpfmmaiaaDoorTie.lean); close each card by the builder's one call (the guide's Derived/Test/ToyasCard.lean, 'card_holds'). Laid BY PROGRAM, IN A SANDBOX (cutbox-door.mjs). By AI agents, Wed Nov 11 2026. No macro, syntax, notation, axiom, sorry.
-/
import Derived.Test.YtmndejlpfmmaiaaDoorRows
import GoSem.ClaimSeven
namespace Go.Proofs.YtmndejlpfmmaiaaDoor
namespace Rows

/-- THE TIED CARD OF 'swagelaw19.VmSums'. -/
def vmSumsCard : Claim7 := { stood := { row := vmSumsRow, standIns := [], harness := (true, "9bc103b710a429bcc6b6459f4b869b74ea65764b0d14dd3141b21825b062afdf"), looks := false }, kinds := [], alts := [], laidByText := true, laidKinds := [.data, .data, .pinned], laidTests := true, laidLooks := .later }
def VmSumsCardSaid : Prop := Claim7.holds Tryd.pinned (.plain (OpenSpec.ofChange vmSumsSpec)) vmSumsCard

/-- THE TIED CARD OF 'swagelaw19.VmKnown'. -/
def vmKnownCard : Claim7 := { stood := { row := vmKnownRow, standIns := [], harness := (true, "9bc103b710a429bcc6b6459f4b869b74ea65764b0d14dd3141b21825b062afdf"), looks := false }, kinds := [], alts := [], laidByText := true, laidKinds := [.data, .data, .pinned], laidTests := true, laidLooks := .later }
def VmKnownCardSaid : Prop := Claim7.holds Tryd.pinned (.plain (OpenSpec.ofChange vmKnownSpec)) vmKnownCard

/-- THE TIED CARD OF 'swagelaw10.ExactColumns'. -/
def exactColumnsCard : Claim7 := { stood := { row := exactColumnsRow, standIns := [], harness := (true, "9bc103b710a429bcc6b6459f4b869b74ea65764b0d14dd3141b21825b062afdf"), looks := false }, kinds := [], alts := [], laidByText := true, laidKinds := [.data, .pinned], laidTests := true, laidLooks := .later }
def ExactColumnsCardSaid : Prop := Claim7.holds Tryd.pinned (.plain (OpenSpec.ofChange exactColumnsSpec)) exactColumnsCard

/-- THE TIED CARD OF 'swagelaw10.ExactNames'. -/
def exactNamesCard : Claim7 := { stood := { row := exactNamesRow, standIns := [], harness := (true, "9bc103b710a429bcc6b6459f4b869b74ea65764b0d14dd3141b21825b062afdf"), looks := false }, kinds := [], alts := [], laidByText := true, laidKinds := [.data, .pinned], laidTests := true, laidLooks := .later }
def ExactNamesCardSaid : Prop := Claim7.holds Tryd.pinned (.plain (OpenSpec.ofChange exactNamesSpec)) exactNamesCard

/-- THE TIED CARD OF 'swagelaw11.EvalProducts'. -/
def evalProductsCard : Claim7 := { stood := { row := evalProductsRow, standIns := [], harness := (true, "9bc103b710a429bcc6b6459f4b869b74ea65764b0d14dd3141b21825b062afdf"), looks := false }, kinds := [], alts := [], laidByText := true, laidKinds := [.data, .data, .data, .pinned], laidTests := true, laidLooks := .later }
def EvalProductsCardSaid : Prop := Claim7.holds Tryd.pinned (.plain (OpenSpec.ofChange evalProductsSpec)) evalProductsCard

/-- THE TIED CARD OF 'swagelaw11.EvalKnown'. -/
def evalKnownCard : Claim7 := { stood := { row := evalKnownRow, standIns := [], harness := (true, "9bc103b710a429bcc6b6459f4b869b74ea65764b0d14dd3141b21825b062afdf"), looks := false }, kinds := [], alts := [], laidByText := true, laidKinds := [.data, .data, .data, .pinned], laidTests := true, laidLooks := .later }
def EvalKnownCardSaid : Prop := Claim7.holds Tryd.pinned (.plain (OpenSpec.ofChange evalKnownSpec)) evalKnownCard

/-- THE TIED CARD OF 'swagelaw11.EvalTurned'. -/
def evalTurnedCard : Claim7 := { stood := { row := evalTurnedRow, standIns := [], harness := (true, "9bc103b710a429bcc6b6459f4b869b74ea65764b0d14dd3141b21825b062afdf"), looks := false }, kinds := [], alts := [], laidByText := true, laidKinds := [.data, .data, .data, .pinned], laidTests := true, laidLooks := .later }
def EvalTurnedCardSaid : Prop := Claim7.holds Tryd.pinned (.plain (OpenSpec.ofChange evalTurnedSpec)) evalTurnedCard

/-- THE SECOND FORM's CARD OF 'swagelaw19.VmSums'. -/
def vmSumsUptoCard : Claim7 := { stood := { row := vmSumsUptoRow, standIns := [], harness := (true, "9bc103b710a429bcc6b6459f4b869b74ea65764b0d14dd3141b21825b062afdf"), looks := false }, kinds := [], alts := [], laidByText := true, laidKinds := [.data, .data, .pinned], laidTests := true, laidLooks := .later }
def VmSumsUptoCardSaid : Prop := Claim7.holds Tryd.pinned (.plain (OpenSpec.upto vmSumsSpec)) vmSumsUptoCard

/-- THE SECOND FORM's CARD OF 'swagelaw19.VmKnown'. -/
def vmKnownUptoCard : Claim7 := { stood := { row := vmKnownUptoRow, standIns := [], harness := (true, "9bc103b710a429bcc6b6459f4b869b74ea65764b0d14dd3141b21825b062afdf"), looks := false }, kinds := [], alts := [], laidByText := true, laidKinds := [.data, .data, .pinned], laidTests := true, laidLooks := .later }
def VmKnownUptoCardSaid : Prop := Claim7.holds Tryd.pinned (.plain (OpenSpec.upto vmKnownSpec)) vmKnownUptoCard

/-- THE SECOND FORM's CARD OF 'swagelaw10.ExactColumns'. -/
def exactColumnsUptoCard : Claim7 := { stood := { row := exactColumnsUptoRow, standIns := [], harness := (true, "9bc103b710a429bcc6b6459f4b869b74ea65764b0d14dd3141b21825b062afdf"), looks := false }, kinds := [], alts := [], laidByText := true, laidKinds := [.data, .pinned], laidTests := true, laidLooks := .later }
def ExactColumnsUptoCardSaid : Prop := Claim7.holds Tryd.pinned (.plain (OpenSpec.upto exactColumnsSpec)) exactColumnsUptoCard

/-- THE SECOND FORM's CARD OF 'swagelaw10.ExactNames'. -/
def exactNamesUptoCard : Claim7 := { stood := { row := exactNamesUptoRow, standIns := [], harness := (true, "9bc103b710a429bcc6b6459f4b869b74ea65764b0d14dd3141b21825b062afdf"), looks := false }, kinds := [], alts := [], laidByText := true, laidKinds := [.data, .pinned], laidTests := true, laidLooks := .later }
def ExactNamesUptoCardSaid : Prop := Claim7.holds Tryd.pinned (.plain (OpenSpec.upto exactNamesSpec)) exactNamesUptoCard

/-- THE SECOND FORM's CARD OF 'swagelaw11.EvalProducts'. -/
def evalProductsUptoCard : Claim7 := { stood := { row := evalProductsUptoRow, standIns := [], harness := (true, "9bc103b710a429bcc6b6459f4b869b74ea65764b0d14dd3141b21825b062afdf"), looks := false }, kinds := [], alts := [], laidByText := true, laidKinds := [.data, .data, .data, .pinned], laidTests := true, laidLooks := .later }
def EvalProductsUptoCardSaid : Prop := Claim7.holds Tryd.pinned (.plain (OpenSpec.upto evalProductsSpec)) evalProductsUptoCard

/-- THE SECOND FORM's CARD OF 'swagelaw11.EvalKnown'. -/
def evalKnownUptoCard : Claim7 := { stood := { row := evalKnownUptoRow, standIns := [], harness := (true, "9bc103b710a429bcc6b6459f4b869b74ea65764b0d14dd3141b21825b062afdf"), looks := false }, kinds := [], alts := [], laidByText := true, laidKinds := [.data, .data, .data, .pinned], laidTests := true, laidLooks := .later }
def EvalKnownUptoCardSaid : Prop := Claim7.holds Tryd.pinned (.plain (OpenSpec.upto evalKnownSpec)) evalKnownUptoCard

/-- THE SECOND FORM's CARD OF 'swagelaw11.EvalTurned'. -/
def evalTurnedUptoCard : Claim7 := { stood := { row := evalTurnedUptoRow, standIns := [], harness := (true, "9bc103b710a429bcc6b6459f4b869b74ea65764b0d14dd3141b21825b062afdf"), looks := false }, kinds := [], alts := [], laidByText := true, laidKinds := [.data, .data, .data, .pinned], laidTests := true, laidLooks := .later }
def EvalTurnedUptoCardSaid : Prop := Claim7.holds Tryd.pinned (.plain (OpenSpec.upto evalTurnedSpec)) evalTurnedUptoCard
end Rows
end Go.Proofs.YtmndejlpfmmaiaaDoor
