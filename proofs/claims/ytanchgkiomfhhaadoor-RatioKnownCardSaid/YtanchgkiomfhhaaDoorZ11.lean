/- The texts LawRatioKnownF, joined. -/
import Derived.Test.YtanchgkiomfhhaaDoorZ10
/- The law RatioKnown: the closed facts of its row; no condition. -/
namespace Go.Proofs.YtanchgkiomfhhaaDoor.ratioKnown
open Go Go.Proofs.YtanchgkiomfhhaaDoor.Fw Go.Proofs.YtanchgkiomfhhaaDoor.Ma Go.ChangeShapes Go.WideShapes Go.ChangeAt Go.RowKit
open Go.ChangeMaps (open_string shut_string)
set_option linter.unusedVariables false
set_option linter.unusedSimpArgs false
set_option maxHeartbeats 4000000 in
theorem facts : joinedFacts Tryd.prog 22 Tryd.f22 (OpenSpec.ofChange Rows.ratioKnownSpec).bare Rows.ratioKnownRow = true := by
  unfold joinedFacts
  simp only [Bool.and_eq_true]
  repeat' apply And.intro
  all_goals as_aux_lemma => kernel_rfl
theorem named : Tryd.pinned.checked.prog.funcNamed Rows.ratioKnownRow.func = some 22 := by kernel_rfl
theorem inst : Tryd.f22.isInstance Tryd.pinned.checked.prog Rows.ratioKnownRow.origin Rows.ratioKnownRow.targs := of_decide_eq_true (by kernel_rfl)
theorem wrap : Tryd.f22.isWrapper Tryd.pinned.checked.prog Rows.ratioKnownRow.wrapper Rows.ratioKnownRow.mainSum := by unfold Func.isWrapper; first | (rw [if_pos (by decide +kernel)]; kernel_rfl) | (rw [if_neg (by decide +kernel)]; exact ⟨rfl, rfl⟩)
end Go.Proofs.YtanchgkiomfhhaaDoor.ratioKnown
