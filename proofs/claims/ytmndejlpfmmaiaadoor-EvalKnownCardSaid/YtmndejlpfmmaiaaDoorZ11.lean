/- The texts LawEvalKnownF, joined. -/
import Derived.Test.YtmndejlpfmmaiaaDoorZ10
set_option linter.unusedSimpArgs false
set_option linter.unusedVariables false
namespace Go.Proofs.YtmndejlpfmmaiaaDoor.evalKnown
open Go Go.Proofs.YtmndejlpfmmaiaaDoor.Fw Go.Proofs.YtmndejlpfmmaiaaDoor.Ma Go.ChangeShapes Go.WideShapes Go.ChangeAt Go.RowKit
open Go.ChangeMaps (open_string shut_string)
set_option maxHeartbeats 4000000 in
theorem facts:joinedFacts Tryd.prog 8 Tryd.f8 Rows.evalKnownSpec Rows.evalKnownRow=true:=by
 unfold joinedFacts
 simp only[Bool.and_eq_true]
 repeat' apply And.intro
 all_goals as_aux_lemma=>kernel_rfl
theorem named:Tryd.pinned.checked.prog.funcNamed Rows.evalKnownRow.func=some 8:=by kernel_rfl
theorem inst:Tryd.f8.isInstance Tryd.pinned.checked.prog Rows.evalKnownRow.origin Rows.evalKnownRow.targs:=of_decide_eq_true (by kernel_rfl)
theorem wrap:Tryd.f8.isWrapper Tryd.pinned.checked.prog Rows.evalKnownRow.wrapper Rows.evalKnownRow.mainSum:=by unfold Func.isWrapper;first|(rw[if_pos (by decide+kernel)];kernel_rfl)|(rw[if_neg (by decide+kernel)];exact⟨rfl,rfl⟩)
end Go.Proofs.YtmndejlpfmmaiaaDoor.evalKnown
