/- The texts LawRatioBackF, joined. -/
import Derived.Test.YtanchgkiomfhhaaDoorZ10
/- The law RatioBack: the closed facts of its row; no condition. -/
namespace Go.Proofs.YtanchgkiomfhhaaDoor.ratioBack
open Go Go.Proofs.YtanchgkiomfhhaaDoor.Fw Go.Proofs.YtanchgkiomfhhaaDoor.Ma Go.ChangeShapes Go.WideShapes Go.ChangeAt Go.RowKit
open Go.ChangeMaps (open_string shut_string)
set_option linter.unusedVariables false
set_option linter.unusedSimpArgs false
set_option maxHeartbeats 4000000 in
theorem facts : joinedFacts Tryd.prog 21 Tryd.f21 (OpenSpec.ofChange Rows.ratioBackSpec).bare Rows.ratioBackRow = true := by
  unfold joinedFacts
  simp only [Bool.and_eq_true]
  repeat' apply And.intro
  all_goals as_aux_lemma => kernel_rfl
theorem named : Tryd.pinned.checked.prog.funcNamed Rows.ratioBackRow.func = some 21 := by kernel_rfl
theorem inst : Tryd.f21.isInstance Tryd.pinned.checked.prog Rows.ratioBackRow.origin Rows.ratioBackRow.targs := of_decide_eq_true (by kernel_rfl)
theorem wrap : Tryd.f21.isWrapper Tryd.pinned.checked.prog Rows.ratioBackRow.wrapper Rows.ratioBackRow.mainSum := by unfold Func.isWrapper; first | (rw [if_pos (by decide +kernel)]; kernel_rfl) | (rw [if_neg (by decide +kernel)]; exact ⟨rfl, rfl⟩)
end Go.Proofs.YtanchgkiomfhhaaDoor.ratioBack
