/- The texts LawPolyReckonsF, joined. -/
import Derived.Test.YtanchgkiomfhhaaDoorZ10
/- The law PolyReckons: the closed facts of its row; no condition. -/
namespace Go.Proofs.YtanchgkiomfhhaaDoor.polyReckons
open Go Go.Proofs.YtanchgkiomfhhaaDoor.Fw Go.Proofs.YtanchgkiomfhhaaDoor.Ma Go.ChangeShapes Go.WideShapes Go.ChangeAt Go.RowKit
open Go.ChangeMaps (open_string shut_string)
set_option linter.unusedVariables false
set_option linter.unusedSimpArgs false
set_option maxHeartbeats 4000000 in
theorem facts : joinedFacts Tryd.prog 8 Tryd.f8 Rows.polyReckonsSpec Rows.polyReckonsRow = true := by
  unfold joinedFacts
  simp only [Bool.and_eq_true]
  repeat' apply And.intro
  all_goals as_aux_lemma => kernel_rfl
theorem named : Tryd.pinned.checked.prog.funcNamed Rows.polyReckonsRow.func = some 8 := by kernel_rfl
theorem inst : Tryd.f8.isInstance Tryd.pinned.checked.prog Rows.polyReckonsRow.origin Rows.polyReckonsRow.targs := of_decide_eq_true (by kernel_rfl)
theorem wrap : Tryd.f8.isWrapper Tryd.pinned.checked.prog Rows.polyReckonsRow.wrapper Rows.polyReckonsRow.mainSum := by unfold Func.isWrapper; first | (rw [if_pos (by decide +kernel)]; kernel_rfl) | (rw [if_neg (by decide +kernel)]; exact ⟨rfl, rfl⟩)
end Go.Proofs.YtanchgkiomfhhaaDoor.polyReckons
