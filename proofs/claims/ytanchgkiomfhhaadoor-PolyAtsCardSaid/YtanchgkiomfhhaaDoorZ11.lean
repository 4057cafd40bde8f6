/- The texts LawPolyAtsF, joined. -/
import Derived.Test.YtanchgkiomfhhaaDoorZ10
/- The law PolyAts: the closed facts of its row; no condition. -/
namespace Go.Proofs.YtanchgkiomfhhaaDoor.polyAts
open Go Go.Proofs.YtanchgkiomfhhaaDoor.Fw Go.Proofs.YtanchgkiomfhhaaDoor.Ma Go.ChangeShapes Go.WideShapes Go.ChangeAt Go.RowKit
open Go.ChangeMaps (open_string shut_string)
set_option linter.unusedVariables false
set_option linter.unusedSimpArgs false
set_option maxHeartbeats 4000000 in
theorem facts : joinedFacts Tryd.prog 3 Tryd.f3 Rows.polyAtsSpec Rows.polyAtsRow = true := by
  unfold joinedFacts
  simp only [Bool.and_eq_true]
  repeat' apply And.intro
  all_goals as_aux_lemma => kernel_rfl
theorem named : Tryd.pinned.checked.prog.funcNamed Rows.polyAtsRow.func = some 3 := by kernel_rfl
theorem inst : Tryd.f3.isInstance Tryd.pinned.checked.prog Rows.polyAtsRow.origin Rows.polyAtsRow.targs := of_decide_eq_true (by kernel_rfl)
theorem wrap : Tryd.f3.isWrapper Tryd.pinned.checked.prog Rows.polyAtsRow.wrapper Rows.polyAtsRow.mainSum := by unfold Func.isWrapper; first | (rw [if_pos (by decide +kernel)]; kernel_rfl) | (rw [if_neg (by decide +kernel)]; exact ⟨rfl, rfl⟩)
end Go.Proofs.YtanchgkiomfhhaaDoor.polyAts
