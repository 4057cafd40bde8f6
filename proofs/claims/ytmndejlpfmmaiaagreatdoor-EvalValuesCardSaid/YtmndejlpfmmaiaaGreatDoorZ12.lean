/- The texts LawEvalValuesF, joined. -/
import Derived.Test.YtmndejlpfmmaiaaGreatDoorZ11
set_option linter.unusedSimpArgs false
set_option linter.unusedVariables false
namespace Go.Proofs.YtmndejlpfmmaiaaGreatDoor.evalValues
open Go Go.Proofs.YtmndejlpfmmaiaaGreatDoor.Fw Go.Proofs.YtmndejlpfmmaiaaGreatDoor.Ma Go.ChangeShapes Go.WideShapes Go.ChangeAt Go.RowKit
open Go.ChangeMaps (open_string shut_string)
set_option maxHeartbeats 4000000 in
theorem facts:joinedFacts Tryz.prog 12 Tryz.f12 Rows.evalValuesSpec Rows.evalValuesRow=true:=by
 unfold joinedFacts
 simp only[Bool.and_eq_true]
 repeat' apply And.intro
 all_goals as_aux_lemma=>kernel_rfl
theorem named:Tryz.pinned.checked.prog.funcNamed Rows.evalValuesRow.func=some 12:=by kernel_rfl
theorem inst:Tryz.f12.isInstance Tryz.pinned.checked.prog Rows.evalValuesRow.origin Rows.evalValuesRow.targs:=of_decide_eq_true (by kernel_rfl)
theorem wrap:Tryz.f12.isWrapper Tryz.pinned.checked.prog Rows.evalValuesRow.wrapper Rows.evalValuesRow.mainSum:=by unfold Func.isWrapper;first|(rw[if_pos (by decide+kernel)];kernel_rfl)|(rw[if_neg (by decide+kernel)];exact⟨rfl,rfl⟩)
end Go.Proofs.YtmndejlpfmmaiaaGreatDoor.evalValues
