/- The texts LawRatioManyF, joined. -/
import Derived.Test.YtanchgkiomfhhaaDoorZ11
/- The law RatioMany: the closed facts of its row; no condition. -/
namespace Go.Proofs.YtanchgkiomfhhaaDoor.ratioMany
open Go Go.Proofs.YtanchgkiomfhhaaDoor.Fw Go.Proofs.YtanchgkiomfhhaaDoor.Ma Go.ChangeShapes Go.WideShapes Go.ChangeAt Go.RowKit
open Go.ChangeMaps (open_string shut_string)
set_option linter.unusedVariables false
set_option linter.unusedSimpArgs false
set_option maxHeartbeats 4000000 in
theorem facts : joinedFacts Tryd.prog 17 Tryd.f17 Rows.ratioManySpec Rows.ratioManyRow = true := by
  unfold joinedFacts
  simp only [Bool.and_eq_true]
  repeat' apply And.intro
  all_goals as_aux_lemma => kernel_rfl
theorem named : Tryd.pinned.checked.prog.funcNamed Rows.ratioManyRow.func = some 17 := by kernel_rfl
theorem inst : Tryd.f17.isInstance Tryd.pinned.checked.prog Rows.ratioManyRow.origin Rows.ratioManyRow.targs := of_decide_eq_true (by kernel_rfl)
theorem wrap : Tryd.f17.isWrapper Tryd.pinned.checked.prog Rows.ratioManyRow.wrapper Rows.ratioManyRow.mainSum := by unfold Func.isWrapper; first | (rw [if_pos (by decide +kernel)]; kernel_rfl) | (rw [if_neg (by decide +kernel)]; exact ⟨rfl, rfl⟩)
end Go.Proofs.YtanchgkiomfhhaaDoor.ratioMany
