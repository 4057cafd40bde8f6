/- The texts LawRatioFieldF, joined. -/
import Derived.Test.YtanchgkiomfhhaaDoorZ8
/- The law RatioField: the closed facts of its row; no condition. -/
namespace Go.Proofs.YtanchgkiomfhhaaDoor.ratioField
open Go Go.Proofs.YtanchgkiomfhhaaDoor.Fw Go.Proofs.YtanchgkiomfhhaaDoor.Ma Go.ChangeShapes Go.WideShapes Go.ChangeAt Go.RowKit
open Go.ChangeMaps (open_string shut_string)
set_option linter.unusedVariables false
set_option linter.unusedSimpArgs false
set_option maxHeartbeats 4000000 in
theorem facts : joinedFacts Tryd.prog 15 Tryd.f15 Rows.ratioFieldSpec Rows.ratioFieldRow = true := by
  unfold joinedFacts
  simp only [Bool.and_eq_true]
  repeat' apply And.intro
  all_goals as_aux_lemma => kernel_rfl
theorem named : Tryd.pinned.checked.prog.funcNamed Rows.ratioFieldRow.func = some 15 := by kernel_rfl
theorem inst : Tryd.f15.isInstance Tryd.pinned.checked.prog Rows.ratioFieldRow.origin Rows.ratioFieldRow.targs := of_decide_eq_true (by kernel_rfl)
theorem wrap : Tryd.f15.isWrapper Tryd.pinned.checked.prog Rows.ratioFieldRow.wrapper Rows.ratioFieldRow.mainSum := by unfold Func.isWrapper; first | (rw [if_pos (by decide +kernel)]; kernel_rfl) | (rw [if_neg (by decide +kernel)]; exact ⟨rfl, rfl⟩)
end Go.Proofs.YtanchgkiomfhhaaDoor.ratioField
