/- The texts LawRowDividesF, joined. -/
import Derived.Test.YtanchgkiomfhhaaDoorZ11
/- The law RowDivides: the closed facts of its row; no condition. -/
namespace Go.Proofs.YtanchgkiomfhhaaDoor.rowDivides
open Go Go.Proofs.YtanchgkiomfhhaaDoor.Fw Go.Proofs.YtanchgkiomfhhaaDoor.Ma Go.ChangeShapes Go.WideShapes Go.ChangeAt Go.RowKit
open Go.ChangeMaps (open_string shut_string)
set_option linter.unusedVariables false
set_option linter.unusedSimpArgs false
set_option maxHeartbeats 4000000 in
theorem facts : joinedFacts Tryd.prog 19 Tryd.f19 Rows.rowDividesSpec Rows.rowDividesRow = true := by
  unfold joinedFacts
  simp only [Bool.and_eq_true]
  repeat' apply And.intro
  all_goals as_aux_lemma => kernel_rfl
theorem named : Tryd.pinned.checked.prog.funcNamed Rows.rowDividesRow.func = some 19 := by kernel_rfl
theorem inst : Tryd.f19.isInstance Tryd.pinned.checked.prog Rows.rowDividesRow.origin Rows.rowDividesRow.targs := of_decide_eq_true (by kernel_rfl)
theorem wrap : Tryd.f19.isWrapper Tryd.pinned.checked.prog Rows.rowDividesRow.wrapper Rows.rowDividesRow.mainSum := by unfold Func.isWrapper; first | (rw [if_pos (by decide +kernel)]; kernel_rfl) | (rw [if_neg (by decide +kernel)]; exact ⟨rfl, rfl⟩)
end Go.Proofs.YtanchgkiomfhhaaDoor.rowDivides
