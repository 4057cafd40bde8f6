/- The texts LawRatioOrderF, joined. -/
import Derived.Test.YtanchgkiomfhhaaDoorZ8
/- The law RatioOrder: the closed facts of its row; no condition. -/
namespace Go.Proofs.YtanchgkiomfhhaaDoor.ratioOrder
open Go Go.Proofs.YtanchgkiomfhhaaDoor.Fw Go.Proofs.YtanchgkiomfhhaaDoor.Ma Go.ChangeShapes Go.WideShapes Go.ChangeAt Go.RowKit
open Go.ChangeMaps (open_string shut_string)
set_option linter.unusedVariables false
set_option linter.unusedSimpArgs false
set_option maxHeartbeats 4000000 in
theorem facts : joinedFacts Tryd.prog 16 Tryd.f16 Rows.ratioOrderSpec Rows.ratioOrderRow = true := by
  unfold joinedFacts
  simp only [Bool.and_eq_true]
  repeat' apply And.intro
  all_goals as_aux_lemma => kernel_rfl
theorem named : Tryd.pinned.checked.prog.funcNamed Rows.ratioOrderRow.func = some 16 := by kernel_rfl
theorem inst : Tryd.f16.isInstance Tryd.pinned.checked.prog Rows.ratioOrderRow.origin Rows.ratioOrderRow.targs := of_decide_eq_true (by kernel_rfl)
theorem wrap : Tryd.f16.isWrapper Tryd.pinned.checked.prog Rows.ratioOrderRow.wrapper Rows.ratioOrderRow.mainSum := by unfold Func.isWrapper; first | (rw [if_pos (by decide +kernel)]; kernel_rfl) | (rw [if_neg (by decide +kernel)]; exact ⟨rfl, rfl⟩)
end Go.Proofs.YtanchgkiomfhhaaDoor.ratioOrder
